/- A part of a proof that a given statement (the one of this claim: the name of its theorem ends in _holds) is true of the program, with no condition ahead of it. Printed by wip/dev/pack2.py out of the texts in wip. -/
import Derived.Test.YthalkfdkbalpmaaGreatU2
set_option linter.unusedVariables false
set_option linter.unusedSimpArgs false
namespace Go.Proofs.YthalkfdkbalpmaaGreat.Rf
open Go
noncomputable section
inductive JE where
 |val (s:Nat) (t:Ty)
 |hdr (s key:Nat) (t:Ty) (m:Md)
def JE.ty:JE->Ty
 |.val _ t=>t
 |.hdr _ _ t _=>t
def jsT:List JE->Ty
 |[]=>.unit
 |j::js=>.pair j.ty (jsT js)
def ipT:List (Nat×Ty×Md)->Ty
 |[]=>.unit
 |p::ps=>.pair p.2.1 (ipT ps)
structure Spec where
 ip:List (Nat×Ty×Md)
 js:List JE
 FJ:List Nat
abbrev Spec.T(s:Spec):Type:=(ipT s.ip).T×(jsT s.js).T
def gp(t:Nat):List Nat->Bool
 |[]=>false
 |x::xs=>Nat.beq t x||gp t xs
def isKey(l:Nat):List JE->Bool
 |[]=>false
 |.hdr _ k _ _::js=>Nat.beq l k||isKey l js
 |_::js=>isKey l js
def zA(l:Nat):List (Nat×Ty×Md)->Bool
 |[]=>false
 |p::ps=>Nat.beq l p.1||zA l ps
def HR(σ0:St)(l:Nat):Nat:=match σ0.L l with|some b=>b.v+1|none=>1
def ipL(σ0:St):(ip:List (Nat×Ty×Md))->(ipT ip).T->Nat->Option Lab
 |[],_=>λ_=>none
 |p::ps,x=>upd (ipL σ0 ps x.2) p.1 (some ⟨HR σ0 p.1,p.2.1,p.2.2,x.1⟩)
def kw(σ0:St)(s:Spec)(x:(ipT s.ip).T):St:=
 {E:=λt=>bif gp t s.FJ then σ0.E t else none,L:=ipL σ0 s.ip x,U:=λl=>(σ0.U l&&!isKey l s.js)||zA l s.ip}
def HS:(js:List JE)->(jsT js).T->St->St
 |[],_,σ=>σ
 |.val s t::js,x,σ=>HS js x.2 {σ with E:=upd σ.E s (some (.one (.val t x.1)))}
 |.hdr s key t m::js,x,σ=>HS js x.2 {E:=upd σ.E s (some (.one (.hdr key 1 [] ⟨t,x.1⟩))),L:=upd σ.L key (some ⟨1,t,m,x.1⟩),U:=λj=>Nat.beq j key||σ.U j}
def stJ(σ0:St)(s:Spec)(x:s.T):St:=HS s.js x.2 (kw σ0 s x.1)
def ipK{R:Type}:(ip:List (Nat×Ty×Md))->(Nat->Option Lab)->((ipT ip).T->(Nat->Option Lab)->Option R)->Option R
 |[],L,K=>K () L
 |p::ps,L,K=>match L p.1 with
  |some ⟨_,t,m,x⟩=>if h:t=p.2.1 then(bif decide (m=p.2.2)then ipK ps (upd L p.1 none) λxs L'=>K (h ▸ x,xs) L' else none)else none
  |none=>none
def jsK{R:Type}(σ1:St):(js:List JE)->(Nat->Option Lab)->((jsT js).T->Option R)->Option R
 |[],_,K=>K ()
 |.val s t::js,L,K=>match σ1.E s with
  |some (.one e)=>asN e t λx=>jsK σ1 js L λxs=>K (x,xs)
  |_=>none
 |.hdr s _ t m::js,L,K=>match σ1.E s with
  |some (.one e)=>uc L t m e λy L'=>jsK σ1 js L' λxs=>K (y,xs)
  |_=>none
def pU(σ0 σ1:St):List Nat->Bool
 |[]=>true
 |t::ts=>((σ0.E t).isNone||((σ1.E t).isSome&&(pk (σ1.E t) == pk (σ0.E t))))&&pU σ0 σ1 ts
def zB{R:Type}(σ0:St)(s:Spec)(σ1:St)(K:s.T->Option R):Option R:=
 bif pU σ0 σ1 s.FJ then ipK s.ip σ1.L λxs L=>jsK σ1 s.js L λys=>K (xs,ys)else none
def rI:ar->Option Nat
 |.hdr l ..=>some l
 |.adr l ..=>some l
 |.view l ..=>some l
 |_=>none
def DC(js:List JE):Option Ent->Bool
 |some (.one e)=>(match rI e with|some l=>!isKey l js|none=>true)
 |some (.tup _)=>false
 |some (.clo _ es)=>es.all λe=>(match rI e with|some l=>!isKey l js|none=>true)
 |none=>true
def xS(σ0:St)(js:List JE)(W:Nat->Bool):List Nat->Bool
 |[]=>true
 |t::ts=>(!W t&&DC js (σ0.E t))&&xS σ0 js W ts
def LK(σ0:St)(js:List JE):List (Nat×Ty×Md)->Bool
 |[]=>true
 |p::ps=>(((σ0.L p.1).isSome||!σ0.U p.1)&&!isKey p.1 js)&&LK σ0 js ps
def sX(σ0:St)(W:Nat->Bool):List JE->Bool
 |[]=>true
 |.val s _::js=>(W s||pk (σ0.E s))&&sX σ0 W js
 |.hdr s k _ _::js=>(W s&&(!isKey k js&&Nat.beq (k % 8) 7))&&sX σ0 W js
def nk(σ0:St)(s:Spec)(W:Nat->Bool):Bool:=xS σ0 s.js W s.FJ&&(LK σ0 s.js s.ip&&sX σ0 W s.js)
section
variable {P:Program} {B:dL} {F:af} {Sg:Nat->af} {cg:Nat->List Value} {σ:St} {a:Act} {w:World}
theorem aT.xT(h:aT B F Sg cg σ a w){s:Nat}{e:Ent}(he:iH F w σ.L σ.U cg e (a.tmps.getD s undef)):aT B F Sg cg {σ with E:=upd σ.E s (some e)} a w:=
 {h with
  ent:=λt e' he'=>by
   rcases fJ he' with⟨rfl,e1⟩|⟨hn,e1⟩
   ·injection e1 with e1;subst e1;exact he
   ·exact h.ent t e' e1}
theorem ur{t:Nat}{l:List Nat}(h:gp t l=true):t∈l:=by
 induction l with
 |nil=>cases h
 |cons x xs ih=>
  simp only[gp,aG]at h
  rcases h with h|h
  ·rw[bg h];simp
  ·simp[ih h]
theorem zC{σ0 σ1:St}{l:List Nat}(h:pU σ0 σ1 l=true){t:Nat}(ht:t∈l):((σ0.E t).isNone||((σ1.E t).isSome&&(pk (σ1.E t) == pk (σ0.E t))))=true:=by
 induction l with
 |nil=>simp at ht
 |cons x xs ih=>
  simp only[pU,ag]at h
  rcases az.1 ht with rfl|ht
  ·exact h.1
  ·exact ih h.2 ht
theorem B9{σ0:St}{js:List JE}{W:Nat->Bool}{l:List Nat}(h:xS σ0 js W l=true){t:Nat}(ht:t∈l):W t=false/\DC js (σ0.E t)=true:=by
 induction l with
 |nil=>simp at ht
 |cons x xs ih=>
  simp only[xS,ag,bz]at h
  rcases az.1 ht with rfl|ht
  ·exact h.1
  ·exact ih h.2 ht
theorem zD{σ0:St}{js:List JE}{l:Nat}{ps:List (Nat×Ty×Md)}(h:LK σ0 js ps=true)(hl:zA l ps=true):((σ0.L l).isSome||!σ0.U l)=true/\isKey l js=false:=by
 induction ps with
 |nil=>cases hl
 |cons p ps ih=>
  simp only[LK,ag,bz]at h
  simp only[zA,aG]at hl
  rcases hl with hl|hl
  ·rw[bg hl];exact h.1
  ·exact ih h.2 hl
theorem Pg{R:Type}{σ0:St}:∀ (ip:List (Nat×Ty×Md)) (L:Nat->Option Lab) (K:(ipT ip).T->(Nat->Option Lab)->Option R) (r:R),ipK ip L K=some r->
 ∃ xs L',K xs L'=some r/\(∀ j,L' j=none\/L' j=L j)/\∀ l b',ipL σ0 ip xs l=some b'->zA l ip=true/\L' l=none/\∃ b1,L l=some b1/\b'=⟨HR σ0 l,b1.t,b1.m,b1.x⟩:=by
 intro ip
 induction ip with
 |nil=>intro L K r hk;exact⟨(),L,hk,λ_=>.inr rfl,λl b' h=>by cases h⟩
 |cons p ps ih=>
  intro L K r hk
  simp only[ipK]at hk
  cases hl:L p.1 with
  |none=>rw[hl]at hk;cases hk
  |some b=>
   rw[hl]at hk
   obtain⟨v,t,m,x⟩:=b
   simp only at hk
   split at hk
   ·rename_i ht
    cases hm:decide (m=p.2.2)
    ·rw[hm]at hk;cases hk
    rw[hm]at hk
    simp only[cond_true]at hk
    replace hm:=of_decide_eq_true hm
    obtain⟨xs,L',g1,g2,g3⟩:=ih _ _ r hk
    have hL':∀ j,L' j=none\/L' j=L j:=λj=>by
     rcases g2 j with e|e
     ·exact .inl e
     ·rw[e]
      by_cases hj:j=p.1
      ·subst hj;exact .inl (aF _ _ _)
      ·exact .inr (aS _ _ hj)
    refine⟨_,L',g1,hL',λl b' hb=>?_⟩
    rcases fJ hb with⟨rfl,e⟩|⟨hne,e⟩
    ·refine⟨by simp[zA,cV],?_,⟨v,t,m,x⟩,hl,?_⟩
     ·rcases g2 p.1 with e1|e1
      ·exact e1
      ·rw[e1];exact aF _ _ _
     ·injection e with e
      subst e
      obtain⟨p1,p2,p3⟩:=p
      simp only at ht hm
      subst ht;subst hm
      rfl
    ·obtain⟨q1,q2,b1,q3,q4⟩:=g3 l b' e
     rw[aS _ _ hne]at q3
     exact⟨by simp[zA,q1],q2,b1,q3,q4⟩
   ·cases hk
theorem us{l s key:Nat}{t:Ty}{m:Md}{js:List JE}:isKey l (.hdr s key t m::js)=(Nat.beq l key||isKey l js):=rfl
theorem Ph{R:Type}{F:af}{Sg:Nat->af}{cg:Nat->List Value}{σ1:St}(h1:aT B F Sg cg σ1 a w){W:Nat->Bool}{σ0:St}:∀ (js:List JE) (L:Nat->Option Lab) (K:(jsT js).T->Option R) (r:R) (σp:St) (Sgp:Nat->af) (cgp:Nat->List Value),jsK σ1 js L K=some r->sX σ0 W js=true->(∀ j,L j=none\/L j=σ1.L j)->
 aT B F Sgp cgp σp a w->(∀ l,isKey l js=true->σp.U l=false)->(∀ k bk,σp.L k=some bk->∀ l b,L l=some b->Dis (Sgp k) (Sg l))->∃ ys,K ys=some r/\Inv B (HS js ys σp) a w:=by
 intro js
 induction js with
 |nil=>intro L K r σp Sgp cgp hk _ _ hp _ _;exact⟨(),hk,F,Sgp,cgp,hp⟩
 |cons j js ih=>
  intro L K r σp Sgp cgp hk ho hL hp hU hd
  cases j with
  |val s t=>
   simp only[jsK]at hk
   simp only[sX,ag]at ho
   split at hk
   ·rename_i e hE
    obtain⟨x,cs,hk,hr,hv⟩:=Hu hk (h1.ent s _ hE)
    obtain⟨ys,g1,g2⟩:=ih L _ r _ Sgp cgp hk ho.2 hL (hp.xT (s:=s) (e:=.one (.val t x)) ⟨cs,hr,hv⟩) (λl hl=>hU l hl) hd
    exact⟨(x,ys),g1,g2⟩
   ·cases hk
  |hdr s key t m=>
   simp only[jsK]at hk
   simp only[sX,ag,bz]at ho
   split at hk
   ·rename_i e hE
    obtain⟨y,L1,cs1,S1,hk,hr,hv,hL1,hS1⟩:=zn h1 hL hk (h1.ent s _ hE)
    have hUk:σp.U key=false:=hU key (by rw[us,cV];rfl)
    have i1:=hp.jX (w':=w) rfl rfl rfl (aq _) (l:=key) (b:=⟨1,t,m,y⟩) hUk (upd σp.L key (some ⟨1,t,m,y⟩)) (λ_ _ _=>rfl) hr (aF _ _ _) (λj hj=>.inr (aS _ _ hj))
     (λk hk=>by
      obtain⟨l2,b2,e1,e2,e3,e4⟩:=hS1 k hk
      refine⟨λj bj hj hbj hs=>?_,λhf=>h1.eF l2 b2 e2 k e4 hf,h1.lt l2 b2 e2 k e4,h1.may l2 b2 e2 k e4⟩
      rw[aS _ _ hj]at hbj
      exact hd j bj hbj l2 b2 e1 k hs e4)
    have i2:=i1.xT (s:=s) (e:=.one (.hdr key 1 [] ⟨t,y⟩)) (gx i1 (l:=key) (b:=⟨1,t,m,y⟩) (aF _ _ _) (by simpa using hv))
    obtain⟨ys,g1,g2⟩:=ih L1 _ r _ _ _ hk ho.2 (λj=>by
     rcases hL1 j with e|e
     ·exact .inl e
     ·rw[e];exact hL j) i2 (λl hl=>by
     have hne:Nat.beq l key=false:=by
      cases hb:Nat.beq l key
      ·rfl
      ·rw[bg hb,ho.1.2.1]at hl;cases hl
     simp only[hne,cT]
     exact hU l (by rw[us,hl];simp)) (λk bk hbk l b hl=>by
     have hlL:L l=some b:=by
      rcases hL1 l with e|e
      ·rw[e]at hl;cases hl
      ·rw[<-e];exact hl
     by_cases hkk:k=key
     ·rw[if_pos hkk]
      intro q hq1 hq2
      obtain⟨l2,b2,e1,e2,e3,e4⟩:=hS1 q hq1
      by_cases e:l2=l
      ·subst e;rw[e3]at hl;cases hl
      ·have hl1:σ1.L l=some b:=by
        rcases hL l with e'|e'
        ·rw[e']at hlL;cases hlL
        ·rw[<-e'];exact hlL
       exact h1.dis l2 l b2 b e e2 hl1 q e4 hq2
     ·rw[if_neg hkk]
      rcases fJ hbk with⟨e,_⟩|⟨_,e⟩
      ·exact absurd e hkk
      ·exact hd k bk e l b hlL)
    exact⟨(y,ys),g1,g2⟩
   ·cases hk
theorem cG.mem{L:Nat->Option Lab}{U:Nat->Bool}:∀ {es:List ar} {vs:List Value} {e:ar},cG F w L U cg es vs->e∈es->∃ v,aD F w L U cg e v:=by
 intro es
 induction es with
 |nil=>intro vs e _ h;simp at h
 |cons x xs ih=>
  rintro vs e ⟨v,r,rfl,h1,h2⟩ hm
  rcases az.1 hm with rfl|hm
  ·exact⟨v,h1⟩
  ·exact ih h2 hm
theorem cG.Tn{F':af}{w':World}{L L':Nat->Option Lab}{U U':Nat->Bool}{cg':Nat->List Value}:∀ {es:List ar} {vs:List Value},(∀ e∈es,∀ v,aD F w L U cg e v->aD F' w' L' U' cg' e v)->cG F w L U cg es vs->cG F' w' L' U' cg' es vs:=by
 intro es
 induction es with
 |nil=>intro vs _ h;exact h
 |cons x xs ih=>
  rintro vs hi ⟨v,r,rfl,h1,h2⟩
  exact⟨v,r,rfl,hi x (by simp) v h1,ih (λe he=>hi e (by simp[he])) h2⟩
def DD(σ0:St):Prop:=∀ t e,(σ0.E t=some (.one e)\/∃ f es,σ0.E t=some (.clo f es)/\e∈es)->(∀ l n π c,e=.hdr l n π c->σ0.U l=true/\∀ b,σ0.L l=some b->n<=b.v)/\(∀ l n π c,e=.adr l n π c->σ0.U l=true/\∀ b,σ0.L l=some b->n<=b.v)/\∀ l te lo hi,e=.view l te lo hi->σ0.U l=true
theorem aT.ver(h:aT B F Sg cg σ a w):DD σ:=by
 intro t e he
 have:∃ v,aD F w σ.L σ.U cg e v:=by
  rcases he with he|⟨f,es,he,hm⟩
  ·exact⟨_,h.ent t _ he⟩
  ·obtain⟨vs,_,hes⟩:=h.ent t _ he
   exact hes.mem hm
 obtain⟨v,this⟩:=this
 refine⟨?_,?_,?_⟩
 ·rintro l n π c rfl;exact⟨this.1,λb hb=>(this.2 b hb).1⟩
 ·rintro l n π c rfl;exact⟨this.1,λb hb=>(this.2 b hb).1⟩
 ·rintro l te lo hi rfl;exact this.1
theorem HT{σ0:St}{W:Nat->Bool}{l:Nat}{js:List JE}(h:sX σ0 W js=true)(hl:isKey l js=true):l % 8=7:=by
 induction js with
 |nil=>cases hl
 |cons j js ih=>
  cases j with
  |val s t=>simp only[sX,ag]at h;exact ih h.2 hl
  |hdr s k t m=>
   simp only[sX,ag]at h
   simp only[isKey,aG]at hl
   rcases hl with hl|hl
   ·rw[bg hl];exact bg h.1.2.2
   ·exact ih h.2 hl
def DE(B:dL)(σ0:St):Prop:=∀ l cs,B.fix l=some cs->σ0.U l=true
theorem aT.Oe(h:aT B F Sg cg σ a w):DE B σ:=λl cs hf=>(h.fix l cs hf).1.1
theorem Ca{R:Type}{σ0 σ1:St}{W:Nat->Bool}(h:Inv B σ1 a w)(hv:DD σ0)(hvf:DE B σ0)(hes:ES σ0 σ1 W){s:Spec}(hs:nk σ0 s W=true){K:s.T->Option R}{r:R}(hk:zB σ0 s σ1 K=some r):∃ x,K x=some r/\Inv B (stJ σ0 s x) a w:=by
 obtain⟨F,Sg,cg,h⟩:=h
 unfold zB at hk
 unfold nk at hs
 simp only[ag]at hs
 obtain⟨hs1,hs2,hs3⟩:=hs
 cases hka:pU σ0 σ1 s.FJ
 ·rw[hka]at hk;cases hk
 rw[hka]at hk
 simp only[cond_true]at hk
 obtain⟨xs,L',hk,hL',hip⟩:=Pg (σ0:=σ0) s.ip σ1.L _ r hk
 have Rl:aT B F Sg cg (kw σ0 s xs) a w:=
  {fr:=h.fr
   size:=h.size
   defers:=h.defers
   f0:=h.f0
   fl:=h.fl
   fs:=h.fs
   lab:=λl b hb=>by obtain⟨_,_,b1,q1,rfl⟩:=hip l b hb;exact h.lab l b1 q1
   dis:=λl l' b b' hne hb hb'=>by
    obtain⟨_,_,b1,q1,_⟩:=hip l b hb
    obtain⟨_,_,b2,q2,_⟩:=hip l' b' hb'
    exact h.dis l l' b1 b2 hne q1 q2
   eF:=λl b hb=>by obtain⟨_,_,b1,q1,_⟩:=hip l b hb;exact h.eF l b1 q1
   lt:=λl b hb=>by obtain⟨_,_,b1,q1,_⟩:=hip l b hb;exact h.lt l b1 q1
   may:=λl b hb=>by obtain⟨_,_,b1,q1,_⟩:=hip l b hb;exact h.may l b1 q1
   used:=λl b hb=>by obtain⟨q0,_⟩:=hip l b hb;simp[kw,q0]
   fix:=λl cs' hf=>by
    obtain⟨⟨q1,q2⟩,q3⟩:=h.fix l cs' hf
    refine⟨⟨?_,q2⟩,λb hb=>?_⟩
    ·have vQ:isKey l s.js=false:=by
      cases hi:isKey l s.js
      ·rfl
      ·have:=HT hs3 hi;omega
     simp[kw,hvf l cs' hf,vQ]
    ·obtain⟨_,_,b1,g1,_⟩:=hip l b hb
     exact q3 b1 g1
   ent:=λt e he=>by
    simp only[kw]at he
    cases hm:gp t s.FJ
    ·rw[hm]at he;cases he
    rw[hm]at he
    simp only[cond_true]at he
    have lA:=ur hm
    have FK:=zC hka lA
    obtain⟨hW,hno⟩:=B9 hs1 lA
    have hE1:σ1.E t=some e:=by
     rw[he]at FK
     simp only[Option.isNone_some,cT,ag]at FK
     rcases hes t hW with e1|e1|⟨e1,e2⟩
     ·rw[e1,he]
     ·rw[e1]at FK;simp at FK
     ·rw[he]at e1
      rw[e1,e2]at FK
      simp at FK
    have h1:=h.ent t e hE1
    rw[he]at hno
    have one:∀ (e:ar) (v:Value),(σ0.E t=some (.one e)\/∃ f es,σ0.E t=some (.clo f es)/\e∈es)->(match rI e with|some l=>!isKey l s.js|none=>true)=true->aD F w σ1.L σ1.U cg e v->aD F w (kw σ0 s xs).L (kw σ0 s xs).U cg e v:=by
     intro e v he hno h1
     have Pj:=hv t e he
     have fin:∀ l n,(σ0.U l=true/\∀ b,σ0.L l=some b->n<=b.v)->isKey l s.js=false->(kw σ0 s xs).U l=true/\∀ b',(kw σ0 s xs).L l=some b'->∃ b1,σ1.L l=some b1/\n<b'.v/\b'.t=b1.t:=by
      intro l n hln vQ
      refine⟨by simp[kw,hln.1,vQ],λb' hb'=>?_⟩
      obtain⟨q0,_,b1,q1,rfl⟩:=hip l b' hb'
      refine⟨b1,q1,?_,rfl⟩
      have:=(zD hs2 q0).1
      rw[hln.1]at this
      simp only[aB,jI]at this
      obtain⟨b0,hb0⟩:=kN.1 this
      simp only[HR,hb0]
      exact Nat.lt_succ_of_le (hln.2 b0 hb0)
     cases e with
     |val t x=>exact h1
     |cst u=>exact h1
     |lm t x=>exact h1
     |view l te lo hi=>
      simp only[rI,bz]at hno
      refine⟨by simp[kw,Pj.2.2 l te lo hi rfl,hno],λb' hb'=>?_⟩
      obtain⟨_,_,b1,q1,_⟩:=hip l b' hb'
      exact h1.2 b1 q1
     |hdr l n π c=>
      simp only[rI,bz]at hno
      obtain⟨f1,f2⟩:=fin l n (Pj.1 l n π c rfl) hno
      refine⟨f1,λb' hb'=>?_⟩
      obtain⟨b1,q1,q2,q3⟩:=f2 b' hb'
      obtain⟨k1,k2,k3⟩:=h1.2 b1 q1
      exact⟨oo q2,λhp=>by rw[q3];exact k2 hp,λhn=>by omega⟩
     |adr l n π c=>
      simp only[rI,bz]at hno
      obtain⟨f1,f2⟩:=fin l n (Pj.2.1 l n π c rfl) hno
      refine⟨f1,λb' hb'=>?_⟩
      obtain⟨b1,q1,q2,q3⟩:=f2 b' hb'
      obtain⟨k1,k2,k3⟩:=h1.2 b1 q1
      exact⟨oo q2,λhp p o hr=>k2 hp p o (by rw[<-q3];exact hr),λhn=>by omega⟩
    cases e with
    |tup es=>simp[DC]at hno
    |one e=>exact one e _ (.inl he) hno h1
    |clo f es=>
     obtain⟨vs,hv1,To⟩:=h1
     simp only[DC,cR]at hno
     exact⟨vs,hv1,To.Tn λe hm v hv=>one e v (.inr ⟨f,es,he,hm⟩) (hno e hm) hv⟩}
 obtain⟨ys,g1,g2⟩:=Ph h (σ0:=σ0) (W:=W) s.js L' _ r (kw σ0 s xs) Sg cg hk hs3 hL' Rl (λl hl=>by
  simp only[kw,hl,aB,Bool.and_false,cT]
  cases hi:zA l s.ip
  ·rfl
  ·rw[(zD hs2 hi).2]at hl;cases hl)
  (λk bk hbk l b hl=>by
   obtain⟨_,q1,b1,q2,_⟩:=hip k bk hbk
   have hl1:σ1.L l=some b:=by
    rcases hL' l with e|e
    ·rw[e]at hl;cases hl
    ·rw[<-e];exact hl
   by_cases e:k=l
   ·subst e;rw[q1]at hl;cases hl
   ·exact h.dis k l b1 b e q2 hl1)
 exact⟨(xs,ys),g1,g2⟩
theorem Cb{σ0:St}{W:Nat->Bool}{s:Spec}(hs:nk σ0 s W=true)(x:s.T):ES σ0 (stJ σ0 s x) W:=by
 unfold nk at hs
 simp only[ag]at hs
 have key:∀ (js:List JE) (ys:(jsT js).T) (σp:St),sX σ0 W js=true->ES σ0 σp W->ES σ0 (HS js ys σp) W:=by
  intro js
  induction js with
  |nil=>intro ys σp _ h;exact h
  |cons j js ih=>
   intro ys σp ho h
   cases j with
   |val s t=>
    simp only[sX,ag,aG]at ho
    refine ih ys.2 _ ho.2 (λj hj=>?_)
    by_cases e:j=s
    ·subst e
     rcases ho.1 with h1|h1
     ·rw[hj]at h1;cases h1
     ·exact .inr (.inr ⟨h1,by simp only[aF];rfl⟩)
    ·simp only[aS _ _ e];exact h j hj
   |hdr s key t m=>
    simp only[sX,ag,bz]at ho
    refine ih ys.2 _ ho.2 (λj hj=>?_)
    by_cases e:j=s
    ·subst e;rw[hj]at ho;exact absurd ho.1.1 (by simp)
    ·simp only[aS _ _ e];exact h j hj
 refine key s.js x.2 _ hs.2.2 (λj hj=>?_)
 simp only[kw]
 cases gp j s.FJ
 ·exact .inr (.inl rfl)
 ·exact .inl rfl
end
section
variable {R R':Type} (G:R->Option R')
theorem aK(c:Bool)(x y:Option R):(bif c then x else y).bind G=bif c then x.bind G else y.bind G:=by cases c <;> rfl
theorem gX(p:Prop)[Decidable p](x y:Option R):(if p then x else y).bind G=if p then x.bind G else y.bind G:=by split <;> rfl
theorem cX:(none:Option R).bind G=none:=rfl
theorem zE(c:V)(K:V->Option R):(rn c K).bind G=rn c λq=>(K q).bind G:=by
 obtain⟨t,x⟩:=c
 cases t <;> first
  |rfl
  |(cases x <;> rfl)
theorem bX(e:ar)(t:Ty)(K:t.T->Option R):(asT e t K).bind G=asT e t λx=>(K x).bind G:=by
 unfold asT;simp only[dq];repeat' split
 all_goals rfl
theorem iI(e:ar)(K:Int->Option R):(jW e K).bind G=jW e λx=>(K x).bind G:=by
 unfold jW;repeat' split
 all_goals rfl
theorem lB(σ:St)(e:ar)(K:Nat->Lab->List Stp->V->Option R):(plc σ e K).bind G=plc σ e λl b π c=>(K l b π c).bind G:=by
 unfold plc
 split
 ·cases σ.L _ with
  |none=>rfl
  |some b=>
   simp only[dq]
   repeat' split
   all_goals first
    |rfl
    |(rw[gw,gw,qW])
 ·cases σ.L _ with
  |none=>rfl
  |some b=>
   simp only[aK,zE,cX]
 ·rfl
theorem eX(σ:St)(e:ar)(K:Nat->Lab->List Stp->V->Option R):(lq σ e K).bind G=lq σ e λl b π c=>(K l b π c).bind G:=by
 unfold lq;simp only[dq];repeat' split
 all_goals rfl
theorem mc(e:ar)(K:(t:Ty)->t.T->Option R):(pG e K).bind G=pG e λt x=>(K t x).bind G:=by
 unfold pG;repeat' split
 all_goals rfl
theorem oC(t:Ty)(x:t.T)(π:List Stp)(K:(u:Ty)->u.T->Option R):(fH t x π K).bind G=fH t x π λu y=>(K u y).bind G:=by
 rw[gw,gw,qW]
theorem oD(t:Ty)(x:t.T)(π:List Stp)(u:Ty)(y:u.T)(K:t.T->Option R):(iF t x π u y K).bind G=iF t x π u y λz=>(K z).bind G:=by
 rw[iT,iT,qW]
theorem rJ(TT:Tab)(s f:Nat)(K:TD->Nat->List Stp->TD->Option R):(za TT s f K).bind G=za TT s f λa b c d=>(K a b c d).bind G:=by
 unfold za;simp only[dq];repeat' split
 all_goals rfl
theorem pn(L:Nat->Option Lab)(t:Ty)(e:ar)(K:t.T->Md->(Nat->Option Lab)->Option R):(sD L t e K).bind G=sD L t e λa b c=>(K a b c).bind G:=by
 unfold sD;repeat' split
 all_goals first
  |rfl
  |exact bX G _ _ _
theorem zF(TT:Tab)(t:TypeId)(d:TD)(i:Nat)(K:Nat->List Stp->TD->Option R):(rz TT t d i K).bind G=rz TT t d i λa b c=>(K a b c).bind G:=by
 unfold rz;simp only[dq];repeat' split
 all_goals first
  |rfl
  |exact rJ G _ _ _ _
theorem zG(TT:Tab)(t:TypeId)(d:TD):∀ (es:List (Nat×ar)) (x:d.ty.T) (m:Md) (L:Nat->Option Lab) (K:d.ty.T->Md->(Nat->Option Lab)->Option R),(pj TT t d es x m L K).bind G=pj TT t d es x m L λa b c=>(K a b c).bind G:=by
 intro es
 induction es with
 |nil=>intro x m L K;rfl
 |cons p es ih=>
  obtain⟨i,e⟩:=p
  intro x m L K
  simp only[pj]
  rw[zF]
  congr 1
  funext k φ df
  rw[aK,pn]
  congr 1
  congr 1
  funext y my L'
  split
  ·rw[oD]
   congr 1
   funext x'
   exact ih _ _ _ _
  ·rfl
theorem FL(t:Ty)(m:Md):∀ (es:List (Nat×ar)) (L:Nat->Option Lab) (K:List t.T->(Nat->Option Lab)->Option R),(BY t m es L K).bind G=BY t m es L λa b=>(K a b).bind G:=by
 intro es
 induction es with
 |nil=>intro L K;rfl
 |cons p es ih=>
  obtain⟨i,e⟩:=p
  intro L K
  simp only[BY]
  rw[pn]
  congr 1
  funext y my L'
  rw[aK,ih]
  rfl
theorem FM(σ:St)(str:Bool)(te:Ty)(e:ar)(K:List te.T->Md->Option Nat->Option R):(E9 σ str te e K).bind G=E9 σ str te e λa b c=>(K a b c).bind G:=by
 unfold E9;simp only[dq];repeat' split
 all_goals first
  |rfl
  |exact bX G _ _ _
  |(rw[eX];congr 1;funext l b π c;repeat' split) <;> rfl
theorem oE(lo hi:Option ar)(n:Nat)(K:Int->Int->Option R):(vP lo hi n K).bind G=vP lo hi n λa b=>(K a b).bind G:=by
 unfold vP
 cases lo with
 |none=>
  cases hi with
  |none=>simp only;rw[gX];rfl
  |some eh=>simp only;rw[iI];congr 1;funext h;rw[gX];rfl
 |some el=>
  simp only
  rw[iI]
  congr 1
  funext l
  cases hi with
  |none=>simp only;rw[gX];rfl
  |some eh=>simp only;rw[iI];congr 1;funext h;rw[gX];rfl
theorem Cc(L:Nat->Option Lab)(t:Ty)(m:Md)(e:ar)(K:t.T->(Nat->Option Lab)->Option R):(uc L t m e K).bind G=uc L t m e λa b=>(K a b).bind G:=by
 unfold uc
 rw[aK,pn,bX]
 congr 1
 congr 1
 funext y my L'
 rw[aK]
 rfl
theorem HU(e:ar)(t:Ty)(K:t.T->Option R):(asN e t K).bind G=asN e t λx=>(K x).bind G:=by
 have sl:∀ (a b:Ty) (x:List a.T) (K:(Ty.nl b).T->Option R),(asN (.val (.sl a) x) (.nl b) K).bind G=asN (.val (.sl a) x) (.nl b) λx=>(K x).bind G:=by
  intro a b x K
  show((if h:a=b then(bif List.isEmpty (x:List a.T)then none else K (h ▸ x))else none).bind G)=(if h:a=b then(bif List.isEmpty (x:List a.T)then none else(K (h ▸ x)).bind G)else none)
  split
  ·rw[aK];rfl
  ·rfl
 have ls:∀ (a b:Ty) (x:List a.T) (K:(Ty.sl b).T->Option R),(asN (.val (.nl a) x) (.sl b) K).bind G=asN (.val (.nl a) x) (.sl b) λx=>(K x).bind G:=by
  intro a b x K
  show((if h:a=b then K (h ▸ x)else none).bind G)=(if h:a=b then(K (h ▸ x)).bind G else none)
  split
  ·rfl
  ·rfl
 cases e with
 |val t0 x=>
  cases t0
  case nl a=>
   cases t
   case sl b=>exact ls a b x K
   all_goals exact bX G (.val (.nl a) x) _ K
  case sl a=>
   cases t
   case nl b=>exact sl a b x K
   all_goals exact bX G (.val (.sl a) x) _ K
  all_goals exact bX G (.val _ x) t K
 |cst v=>exact bX G (.cst v) t K
 |hdr l n π c=>exact bX G (.hdr l n π c) t K
 |adr l n π c=>exact bX G (.adr l n π c) t K
 |lm t0 x=>exact bX G (.lm t0 x) t K
 |view l te lo hi=>exact bX G (.view l te lo hi) t K
theorem FN(σ:St)(L:Nat->Option Lab)(t:Ty)(m:Md)(e:ar)(K:t.T->(Nat->Option Lab)->List Nat->Option R):(xD σ L t m e K).bind G=xD σ L t m e λa b c=>(K a b c).bind G:=by
 unfold xD
 rw[aK,Cc]
 congr 1
 ·split
  ·rw[eX];congr 1;funext l b π c;split <;> rfl
  ·exact HU G _ _ _
theorem Cd(σ:St):∀ (ps:List (Ty×Md)) (es:List ar) (L:Nat->Option Lab) (K:(et ps).T->(Nat->Option Lab)->List Nat->Option R),(lv σ ps es L K).bind G=lv σ ps es L λa b c=>(K a b c).bind G:=by
 intro ps
 induction ps with
 |nil=>intro es L K;cases es <;> rfl
 |cons p ps ih=>
  intro es L K
  cases es with
  |nil=>rfl
  |cons e es=>
   simp only[lv]
   rw[FN]
   congr 1
   funext x L1 b1
   rw[ih]
theorem FO:∀ (rs:List (Ty×Md)) (x:(et rs).T) (key:Nat) (σ:St) (K:St->List ar->Option R),(rA rs x key σ K).bind G=rA rs x key σ λa b=>(K a b).bind G:=by
 intro rs
 induction rs with
 |nil=>intro x key σ K;rfl
 |cons p rs ih=>
  intro x key σ K
  simp only[rA]
  rw[aK,aK,ih,ih]
  rfl
theorem Ce{A:Type}(o:Option A)(k:A->Option R):(aj o k).bind G=aj o λa=>(k a).bind G:=by cases o <;> rfl
end
section
variable {R R':Type} (G:R->Option R')
theorem wD(td:Option TD)(op:BinOp)(x y:ar)(K:ar->Option R):(BN td op x y K).bind G=BN td op x y λe=>(K e).bind G:=by
 unfold BN
 split
 ·cases op <;> simp only[aK,gX,cX]
 ·cases op <;> simp only[aK,gX,cX]
 ·cases op <;> simp only[aK,gX,cX]
 ·rfl
theorem uu(d:TD)(σ:St)(e:ar)(K:ar->Option R):(tO d σ e K).bind G=tO d σ e λe=>(K e).bind G:=by
 unfold tO
 simp only[aK,lB,mc,cX]
theorem mK(TT:Tab)(σ:St)(s:TypeId)(e:ar)(f:Nat)(K:ar->Option R):(jV TT σ s e f K).bind G=jV TT σ s e f λe=>(K e).bind G:=by
 unfold jV
 simp only[rJ,aK,lB,mc,oC,cX]
theorem sH(TT:Tab)(σ:St)(s:TypeId)(e:ar)(f:Nat)(K:ar->Option R):(tZ TT σ s e f K).bind G=tZ TT σ s e f λe=>(K e).bind G:=by
 unfold tZ
 rw[rJ]
 congr 1
 funext d k φ df
 rw[aK]
 congr 1
 cases e <;> simp only[aK,eX,oC,cX]
theorem sY(TT:Tab)(σ:St)(t:TypeId)(ex ei:ar)(K:ar->Option R):(gA TT σ t ex ei K).bind G=gA TT σ t ex ei λe=>(K e).bind G:=by
 unfold gA
 rw[iI]
 congr 1
 funext i
 split
 ·rfl
 ·split
  ·split
   ·rfl
   ·split
    ·simp only[aK,gX,cX]
     congr 1
     split
     ·split <;> rfl
     ·rfl
    ·simp only[aK,eX,oC,cX]
    ·rfl
  ·split
   ·rfl
   ·simp only[aK,lB,mc,oC,cX]
  ·rfl
theorem sI(TT:Tab)(t:TypeId)(ex ei:ar)(K:ar->Option R):(ru TT t ex ei K).bind G=ru TT t ex ei λe=>(K e).bind G:=by
 unfold ru
 rw[iI]
 congr 1
 funext i
 simp only[dq]
 repeat' split
 all_goals rfl
theorem wF(TT:Tab)(σ:St)(t:TypeId)(e:ar)(K:ar->Option R):(Ff TT σ t e K).bind G=Ff TT σ t e λe=>(K e).bind G:=by
 unfold Ff
 split
 ·rfl
 ·split
  ·split <;> rfl
  ·split
   ·rfl
   ·rw[eX];congr 1;funext l b π c;split <;> rfl
   ·rfl
   ·rfl
  ·split
   ·rw[eX];congr 1;funext l b π c;split
    ·rw[aK];rfl
    ·rfl
   ·rfl
  ·rfl
theorem wH(TT:Tab)(σ:St)(t:TypeId)(e:ar)(K:ar->Option R):(Fg TT σ t e K).bind G=Fg TT σ t e λe=>(K e).bind G:=by
 unfold Fg
 split
 ·rfl
 ·split
  ·split
   ·rw[eX];congr 1;funext l b π c;split
    ·rw[aK];rfl
    ·rfl
   ·rfl
  ·rfl
theorem wI(σ:St)(e:ar)(K:ar->Option R):(Fh σ e K).bind G=Fh σ e λe=>(K e).bind G:=by
 unfold Fh
 simp only[aK,lB,mc]
theorem zH(op:UnOp)(e:ar)(K:ar->Option R):(xUn op e K).bind G=xUn op e λe=>(K e).bind G:=by
 unfold xUn;split <;> rfl
theorem wJ(x y:ar)(K:ar->Option R):(Fs x y K).bind G=Fs x y λe=>(K e).bind G:=by
 unfold Fs;split <;> first|rfl|exact bX G _ _ _
theorem wK(x y:ar)(K:ar->Option R):(Ft x y K).bind G=Ft x y λe=>(K e).bind G:=by
 unfold Ft;split <;> first|rfl|exact bX G _ _ _
theorem Cf(TT:Tab)(σ:St)(s t:TypeId)(e:ar)(K:ar->Option R):(wz TT σ s t e K).bind G=wz TT σ s t e λe=>(K e).bind G:=by
 unfold wz
 split
 ·rfl
 ·split
  ·rfl
  ·split
   ·split <;> rfl
   ·split
    ·split <;> rfl
    ·split
     ·rfl
     ·split
      ·split
       ·rfl
       ·rw[eX];congr 1;funext l b π c;split <;> rfl
       ·rfl
       ·rfl
      ·rfl
    ·rfl
   ·rfl
theorem zI(de:TD)(σ:St)(dst:Nat)(e:ar)(K:St->Option R):(l6 de σ dst e K).bind G=l6 de σ dst e λe=>(K e).bind G:=by
 unfold l6
 rw[aK]
 congr 1
 split
 ·split <;> rfl
 ·rfl
theorem wL(TT:Tab)(EQ:TypeId->Bool)(σ:St)(t:TypeId)(op:BinOp)(x y:ar)(K:ar->Option R):(Fw TT EQ σ t op x y K).bind G=Fw TT EQ σ t op x y λe=>(K e).bind G:=by
 unfold Fw
 split
 ·split
  ·rw[aK]
   congr 1
   unfold Lr
   split
   ·rw[bX];congr 1;funext a
    rw[bX];congr 1;funext b
    split
    ·split <;> rfl
    ·rfl
   ·rfl
  ·rw[aK]
   congr 1
   unfold Ls
   split
   ·rw[aK]
    congr 1
    rw[bX];congr 1;funext a
    rw[bX];congr 1;funext b
    split <;> rfl
   ·rfl
  ·unfold Lt
   split
   ·simp only
    split
    ·split <;> rfl
    ·split <;> rfl
    ·rw[eX];congr 1;funext l b π c
     split
     ·split <;> rfl
     ·split <;> rfl
     ·rfl
    ·split <;> rfl
    ·rfl
   ·rfl
  ·exact wD G _ _ _ _ _
 ·exact wD G _ _ _ _ _
theorem zJ(d:TD)(σ:St)(dst:Nat)(K:St->Option R):(lW d σ dst K).bind G=lW d σ dst λe=>(K e).bind G:=by
 unfold lW;simp only[aK,cX];congr 1;split <;> rfl
theorem FP(d:TD)(σ:St)(dst:Nat)(e:ar)(K:St->Option R):(xw d σ dst e K).bind G=xw d σ dst e λe=>(K e).bind G:=by
 unfold xw;simp only[aK,cX];congr 1;split
 ·split
  ·simp only[aK,cX]
  ·rfl
 ·exact bX G _ _ _
theorem Cg(d:TD)(σ:St)(dst:Nat)(e1 e2:ar)(K:St->Option R):(pM d σ dst e1 e2 K).bind G=pM d σ dst e1 e2 λe=>(K e).bind G:=by
 unfold pM
 simp only[aK,cX,iI,gX]
 congr 1
 congr 1
 funext n
 congr 1
 funext c
 congr 1
 congr 1
 split <;> rfl
theorem zK(d:TD)(σ:St)(e1 e2:ar)(K:St->Option R):(lV d σ e1 e2 K).bind G=lV d σ e1 e2 λe=>(K e).bind G:=by
 unfold lV
 rw[lB]
 congr 1
 funext l b π c
 rw[aK]
 congr 1
 split
 ·rw[aK]
  congr 1
  split
  ·split
   ·rw[oD];congr 1;funext x;rw[aK];rfl
   ·rfl
  ·rfl
 ·rw[bX]
  congr 1
  funext y
  split
  ·rw[oD]
  ·rfl
theorem FQ(d:TD)(σ:St)(e1 e2:ar)(K:St->Option R):(xr d σ e1 e2 K).bind G=xr d σ e1 e2 λe=>(K e).bind G:=by
 unfold xr
 rw[lB]
 congr 1
 funext l b π c
 rw[aK]
 congr 1
 split
 ·split
  ·rw[aK]
   congr 1
   split
   ·rw[aK];congr 1;split <;> rfl
   ·rfl
  ·rw[bX]
   congr 1
   funext y
   split <;> rfl
 ·rfl
theorem Ch(d:TD)(σ:St)(e1 e2:ar)(K:St->Option R):(tW d σ e1 e2 K).bind G=tW d σ e1 e2 λe=>(K e).bind G:=by
 unfold tW
 split
 ·split
  ·split
   ·split
    ·rw[aK];congr 1;split
     ·split <;> rfl
     ·rfl
    ·rfl
   ·rfl
  ·rfl
 ·rfl
theorem HV(d:TD)(σ:St)(e1 e2:ar)(K:St->Option R):(xSt d σ e1 e2 K).bind G=xSt d σ e1 e2 λe=>(K e).bind G:=by
 unfold xSt
 rw[aK,Ch,zK]
theorem uv(TT:Tab)(σ:St)(t:TypeId)(ex ei:ar)(K:ar->Option R):(jM TT σ t ex ei K).bind G=jM TT σ t ex ei λe=>(K e).bind G:=by
 unfold jM
 split
 ·split
  ·unfold jW
   split
   ·split
    ·split
     ·split
      ·rw[aK];congr 1;split <;> rfl
      ·rfl
     ·rfl
    ·rfl
   ·rfl
  ·rfl
 ·rfl
theorem wM(TT:Tab)(σ:St)(t:TypeId)(ex ei:ar)(K:ar->Option R):(E8 TT σ t ex ei K).bind G=E8 TT σ t ex ei λe=>(K e).bind G:=by
 unfold E8
 rw[aK,uv,sY]
theorem rK(d:TD)(σ:St)(str:Bool)(lk dst:Nat)(e1 e2:ar)(K:St->Option R):(tX d σ str lk dst e1 e2 K).bind G=tX d σ str lk dst e1 e2 λe=>(K e).bind G:=by
 unfold tX
 rw[aK,FM]
 congr 1
 congr 1
 funext x2 m2 lo
 split
 ·split
  ·split
   ·simp only[aK,gX,cX]
   ·rfl
  ·rfl
 ·rw[bX];congr 1;funext x1;simp only[gX,cX]
 ·rfl
theorem xU(d:TD)(σ:St)(str:Bool)(dst:Nat)(e1 e2:ar)(K:St->Option R):(jt d σ str dst e1 e2 K).bind G=jt d σ str dst e1 e2 λe=>(K e).bind G:=by
 unfold jt
 split
 ·split
  ·rw[aK];congr 1;split
   ·exact rK G _ _ _ _ _ _ _ _
   ·rfl
  ·rfl
 ·split
  ·rw[aK];congr 1;split
   ·split
    ·exact rK G _ _ _ _ _ _ _ _
    ·rfl
   ·rfl
  ·rfl
 ·exact rK G _ _ _ _ _ _ _ _
theorem zL(TT:Tab)(σ:St)(t:TypeId)(dst:Nat)(own:Bool)(ps:List (Nat×Operand))(KV:ar->Option R)(K:St->Option R):(lY TT σ t dst own ps KV K).bind G=lY TT σ t dst own ps (λe=>(KV e).bind G) λe=>(K e).bind G:=by
 unfold lY
 split
 ·rfl
 ·rw[aK]
  congr 1
  split
  ·rfl
  ·split
   ·rfl
   ·rw[zG];congr 1;funext x m L;simp only[aK,cX]
theorem FR(d:TD)(σ:St)(dst len:Nat)(ps:List (Nat×Operand))(K:St->Option R):(xC d σ dst len ps K).bind G=xC d σ dst len ps λe=>(K e).bind G:=by
 unfold xC
 rw[aK]
 congr 1
 split
 ·rw[aK,FL];rfl
 ·rfl
theorem FT(TT:Tab)(σ:St)(t:TypeId)(dst:Nat)(ex:ar)(lo hi:Option ar)(KV:ar->Option R)(K:St->Option R):(xz TT σ t dst ex lo hi KV K).bind G=xz TT σ t dst ex lo hi (λe=>(KV e).bind G) λe=>(K e).bind G:=by
 unfold xz
 split
 ·rfl
 ·split
  ·split
   ·exact oE G _ _ _ _
   ·rfl
  ·split
   ·rfl
   ·split
    ·rw[aK,oE];rfl
    ·rw[aK]
     congr 1
     split
     ·rw[aK,oE];rfl
     ·rfl
    ·rw[aK]
     congr 1
     split
     ·rw[aK]
      congr 1
      split
      ·split
       ·rw[aK,oE];rfl
       ·rfl
      ·rfl
     ·rfl
    ·rfl
  ·rfl
theorem po(σ:St)(dst:Option Nat)(c:Callee)(es:List ar)(K:St->Option R):(jc σ dst c es K).bind G=jc σ dst c es λe=>(K e).bind G:=by
 unfold jc
 rw[Cd]
 congr 1
 funext x L bs
 rw[aK,Ce]
 congr 1
 congr 1
 funext r
 split
 ·split
  ·rw[FO]
  ·rfl
 ·rfl
theorem mf(TT:Tab)(t:TypeId)(K:TD->Option R):(lx TT t K).bind G=lx TT t λd=>(K d).bind G:=by
 unfold lx;repeat' split
 all_goals rfl
theorem vS(V:Env)(σ:St)(b:Builtin)(ts:List TypeId)(xs:List Operand)(dst:Option Nat)(K:St->Option R):(gn V σ b ts xs dst K).bind G=gn V σ b ts xs dst λe=>(K e).bind G:=by
 unfold gn
 split
 ·split
  ·exact wF G _ _ _ _ _
  ·rfl
 ·split
  ·exact wH G _ _ _ _ _
  ·rfl
 ·split
  ·rw[mf]
   congr 1
   funext de
   split
   ·split
    ·split
     ·exact xU G _ _ _ _ _ _ _
     ·rfl
    ·rfl
   ·rfl
  ·rfl
 ·split
  ·split
   ·exact wJ G _ _ _
   ·rfl
  ·rfl
 ·split
  ·split
   ·exact wK G _ _ _
   ·rfl
  ·rfl
 ·rfl
theorem HW(V:Env)(σ:St)(o:Oper)(K:St->Option R):(opK V σ o K).bind G=opK V σ o λe=>(K e).bind G:=by
 unfold opK
 split
 ·split
  ·rfl
  ·split <;> rfl
 ·split
  ·rfl
  ·split <;> rfl
 ·split
  ·split
   ·split <;> rfl
   ·split <;> rfl
  ·rfl
 ·split
  ·split
   ·exact zJ G _ _ _ _
   ·rfl
  ·rfl
 ·split
  ·split
   ·split
    ·exact FP G _ _ _ _ _
    ·rfl
   ·rfl
  ·rfl
 ·split
  ·exact zL G _ _ _ _ _ _ _ _
  ·rfl
 ·split
  ·rw[mf];congr 1;funext de;exact FR G _ _ _ _ _ _
  ·rfl
 ·split
  ·split
   ·exact uu G _ _ _ _
   ·rfl
  ·rfl
 ·split
  ·split
   ·split
    ·rw[aK,HV,FQ]
    ·rfl
   ·rfl
  ·rfl
 ·split
  ·exact wI G _ _ _
  ·rfl
 ·split
  ·split
   ·exact wL G _ _ _ _ _ _ _ _
   ·rfl
  ·rfl
 ·split
  ·exact zH G _ _ _
  ·rfl
 ·rw[aK]
  congr 1
  ·split
   ·rw[mf]
    congr 1
    funext de
    split
    ·exact zI G _ _ _ _ _
    ·rfl
   ·rfl
  ·split
   ·exact Cf G _ _ _ _ _ _
   ·rfl
 ·split
  ·rw[mf]
   congr 1
   funext de
   split
   ·split
    ·exact Cg G _ _ _ _ _ _
    ·rfl
   ·rfl
  ·rfl
 ·split
  ·rfl
  ·split
   ·split
    ·split
     ·split
      ·exact FT G _ _ _ _ _ _ _ _ _
      ·rfl
     ·rfl
    ·rfl
   ·rfl
 ·split
  ·exact mK G _ _ _ _ _ _
  ·rfl
 ·split
  ·exact sH G _ _ _ _ _ _
  ·rfl
 ·split
  ·split
   ·exact wM G _ _ _ _ _ _
   ·rfl
  ·rfl
 ·split
  ·split
   ·exact sI G _ _ _ _ _
   ·rfl
  ·rfl
 ·split
  ·split <;> rfl
  ·rfl
 ·split
  ·exact vS G _ _ _ _ _ _ _
  ·split
   ·split
    ·rw[aK]
     congr 1
     ·exact po G _ _ _ _ _
     ·split
      ·exact po G _ _ _ _ _
      ·rfl
    ·rfl
   ·rfl
  ·rfl
 ·rfl
end
def lC(c:Call):List Operand:=match c.callee with
 |.value (.tmp t)=>.tmp t::c.args.toList
 |_=>c.args.toList
def o8:Op->List Operand
 |.move x|.assign x|.box _ x|.load _ x|.nilCheck x|.unOp _ _ x|.convert _ _ x|.fieldAddr _ x _|.field _ x _|.extract x _=>[x]
 |.pick c a b=>[c,a,b]
 |.build _ ps|.buildSlice _ _ ps=>ps.toList.map (·.2)
 |.store _ a v|.binOp _ _ a v _|.makeSlice _ a v|.indexAddr _ a v|.index _ a v=>[a,v]
 |.slice _ x l h _=>x::(l.toList++h.toList)
 |.call c=>lC c
 |_=>[]
def tmpsOf:List Operand->List Nat
 |[]=>[]
 |.tmp t::xs=>t::tmpsOf xs
 |_::xs=>tmpsOf xs
def looks(o:Oper):List Nat:=tmpsOf (o8 o.op)
def calm(V:Env)(o:Oper):Bool:=match o.op with
 |.call c=>(match c.callee with
  |.value (.func f)=>(match V.CT f with|some ce=>(cC ce.rs&&cC ce.ms)||V.uj o.dst|none=>true)
  |_=>true)
 |_=>true
def oX(E:Nat->Option Ent)(dst:Option Nat)(E1:Nat->Option Ent):Nat->Option Ent:=match dst with|some d=>upd E d (E1 d)|none=>E
def cd(E:Nat->Option Ent)(dst:Option Nat)(σ:St):St:=⟨oX E dst σ.E,σ.L,σ.U⟩
section
variable {R:Type} {E E':Nat->Option Ent} {L:Nat->Option Lab} {U:Nat->Bool}
theorem bU(dst:Option Nat)(e:ar):cd E dst (St.bZ ⟨E',L,U⟩ dst e)=St.bZ ⟨E,L,U⟩ dst e:=by
 cases dst with
 |none=>rfl
 |some d=>simp only[cd,oX,St.bZ,St.tJ,aF]
theorem nn(dst:Option Nat)(L':Nat->Option Lab):cd E dst (St.ki (St.jY ⟨E',L,U⟩ L') dst)=St.ki (St.jY ⟨E,L,U⟩ L') dst:=by
 cases dst with
 |none=>rfl
 |some d=>simp only[cd,oX,St.ki,St.jY,aF]
theorem gQ(L':Nat->Option Lab)(l d:Nat)(b:Lab):cd E (some d) (St.mk' ⟨E',L,U⟩ L' l d b)=St.mk' ⟨E,L,U⟩ L' l d b:=by
 simp only[cd,oX,St.mk',aF]
theorem zN(V:Env)(d:Nat)(σ':St):xI V d (cd E (some d) σ')=cd E (some d) (xI V d σ'):=by
 unfold xI
 cases V.own d
 ·rfl
 ·have hE:(cd E (some d) σ').E d=σ'.E d:=by simp only[cd,oX,aF]
  simp only[cond_true]
  unfold St.toVal
  rw[hE]
  split
  ·have hL:(cd E (some d) σ').L=σ'.L:=rfl
   rw[hL]
   split
   ·simp only[cd,oX,aF]
    congr 1
    funext j
    by_cases hj:j=d
    ·subst hj;rw[aF,aF]
    ·rw[aS _ _ hj,aS _ _ hj,aS _ _ hj]
   ·rfl
  ·rfl
theorem sJ(dst:Option Nat)(es:List ar):cd E dst (St.na ⟨E',L,U⟩ dst es)=St.na ⟨E,L,U⟩ dst es:=by
 cases dst with
 |none=>rfl
 |some d=>simp only[cd,oX,St.na,aF]
theorem zO{x:Operand}(h:∀ t∈tmpsOf [x],E' t=E t):B3 ⟨E,L,U⟩ x=B3 ⟨E',L,U⟩ x:=by
 cases x with
 |tmp t=>simp only[B3];rw[h t (by simp[tmpsOf])]
 |const v=>rfl
 |global g=>rfl
 |func f=>rfl
theorem bW{x:Operand}(h:∀ t∈tmpsOf [x],E' t=E t):opd ⟨E,L,U⟩ x=opd ⟨E',L,U⟩ x:=by
 cases x with
 |tmp t=>simp only[opd];rw[h t (by simp[tmpsOf])]
 |const v=>rfl
 |global g=>rfl
 |func f=>rfl
theorem zP{x:Operand}{xs:List Operand}{t:Nat}(h:t∈tmpsOf (x::xs)):t∈tmpsOf [x]\/t∈tmpsOf xs:=by
 cases x <;> simp[tmpsOf]at h |- <;> exact h
theorem dJ{x:Operand}{xs:List Operand}{t:Nat}(h:t∈tmpsOf [x]):t∈tmpsOf (x::xs):=by
 cases x <;> simp[tmpsOf]at h |-;exact .inl h
theorem cY{x:Operand}{xs:List Operand}{t:Nat}(h:t∈tmpsOf xs):t∈tmpsOf (x::xs):=by
 cases x <;> simp[tmpsOf,h]
theorem uw{xs ys:List Operand}{t:Nat}(h:t∈tmpsOf xs\/t∈tmpsOf ys):t∈tmpsOf (xs++ys):=by
 induction xs with
 |nil=>rcases h with h|h;cases h;exact h
 |cons x xs ih=>
  rcases h with h|h
  ·rcases zP h with h|h
   ·exact dJ h
   ·exact cY (ih (.inl h))
  ·exact cY (ih (.inr h))
theorem zQ{xs:List Operand}(h:∀ t∈tmpsOf xs,E' t=E t):j4 ⟨E,L,U⟩ xs=j4 ⟨E',L,U⟩ xs:=by
 induction xs with
 |nil=>rfl
 |cons x xs ih=>
  simp only[j4]
  rw[bW (x:=x) (λt ht=>h t (dJ ht)),ih (λt ht=>h t (cY ht))]
theorem zR{ps:List (Nat×Operand)}(h:∀ t∈tmpsOf (ps.map (·.2)),E' t=E t):oW ⟨E,L,U⟩ ps=oW ⟨E',L,U⟩ ps:=by
 induction ps with
 |nil=>rfl
 |cons p ps ih=>
  simp only[oW]
  rw[bW (x:=p.2) (λt ht=>h t (dJ ht)),ih (λt ht=>h t (cY ht))]
theorem zT{x:Option Operand}(h:∀ t∈tmpsOf x.toList,E' t=E t):pP ⟨E,L,U⟩ x=pP ⟨E',L,U⟩ x:=by
 cases x with
 |none=>rfl
 |some x=>simp only[pP];rw[bW (x:=x) h]
theorem Ci(d:TD)(dst:Nat)(K:St->Option R):lW d ⟨E,L,U⟩ dst K=lW d ⟨E',L,U⟩ dst λσ'=>K (cd E (some dst) σ'):=by
 simp only[lW,gQ]
theorem HX(d:TD)(dst:Nat)(e:ar)(K:St->Option R):xw d ⟨E,L,U⟩ dst e K=xw d ⟨E',L,U⟩ dst e λσ'=>K (cd E (some dst) σ'):=by
 simp only[xw,gQ]
theorem FU(d:TD)(dst:Nat)(e1 e2:ar)(K:St->Option R):pM d ⟨E,L,U⟩ dst e1 e2 K=pM d ⟨E',L,U⟩ dst e1 e2 λσ'=>K (cd E (some dst) σ'):=by
 simp only[pM,gQ]
theorem Cj(d:TD)(dst:Nat)(e:ar)(K:St->Option R):l6 d ⟨E,L,U⟩ dst e K=l6 d ⟨E',L,U⟩ dst e λσ'=>K (cd E (some dst) σ'):=by
 simp only[l6,gQ]
theorem DF(e:ar)(K:Nat->Lab->List Stp->V->Option R):plc ⟨E,L,U⟩ e K=plc ⟨E',L,U⟩ e K:=rfl
theorem Ck(d:TD)(dst:Option Nat)(e1 e2:ar)(K:St->Option R):(lV d ⟨E,L,U⟩ e1 e2 λσ'=>K (σ'.ki dst))=lV d ⟨E',L,U⟩ e1 e2 λσ'=>K (cd E dst (σ'.ki dst)):=by
 simp only[lV,nn]
 exact DF _ _
theorem HY(d:TD)(dst:Option Nat)(e1 e2:ar)(K:St->Option R):(xr d ⟨E,L,U⟩ e1 e2 λσ'=>K (σ'.ki dst))=xr d ⟨E',L,U⟩ e1 e2 λσ'=>K (cd E dst (σ'.ki dst)):=by
 simp only[xr,nn]
 exact DF _ _
theorem LL(d:TD)(dst:Option Nat)(e1 e2:ar)(K:St->Option R):(xSt d ⟨E,L,U⟩ e1 e2 λσ'=>K (σ'.ki dst))=xSt d ⟨E',L,U⟩ e1 e2 λσ'=>K (cd E dst (σ'.ki dst)):=by
 have h1:xu ⟨E,L,U⟩ e1=xu ⟨E',L,U⟩ e1:=rfl
 unfold xSt
 rw[h1,Ck]
 congr 1
 simp only[tW,nn]
theorem ux(d:TD)(str:Bool)(lk dst:Nat)(e1 e2:ar)(K:St->Option R):tX d ⟨E,L,U⟩ str lk dst e1 e2 K=tX d ⟨E',L,U⟩ str lk dst e1 e2 λσ'=>K (cd E (some dst) σ'):=by
 simp only[tX,gQ]
 rfl
theorem zU(d:TD)(str:Bool)(dst:Nat)(e1 e2:ar)(K:St->Option R):jt d ⟨E,L,U⟩ str dst e1 e2 K=jt d ⟨E',L,U⟩ str dst e1 e2 λσ'=>K (cd E (some dst) σ'):=by
 unfold jt
 split
 ·simp only[St.vO]
  split
  ·split
   ·congr 1
    exact ux _ _ _ _ _ _ _
   ·rfl
  ·rfl
 ·simp only[St.vO]
  split
  ·congr 1
   split
   ·split
    ·exact ux _ _ _ _ _ _ _
    ·rfl
   ·rfl
  ·rfl
 ·exact ux _ _ _ _ _ _ _
theorem Cm(TT:Tab)(t:TypeId)(dst:Nat)(own:Bool){ps:List (Nat×Operand)}(h:∀ t∈tmpsOf (ps.map (·.2)),E' t=E t)(K:St->Option R):(lY TT ⟨E,L,U⟩ t dst own ps (λe=>K (St.bZ ⟨E,L,U⟩ (some dst) e)) K)=lY TT ⟨E',L,U⟩ t dst own ps (λe=>K (cd E (some dst) (St.bZ ⟨E',L,U⟩ (some dst) e))) λσ'=>K (cd E (some dst) σ'):=by
 simp only[lY,gQ,bU]
 rw[zR h]
theorem HZ(d:TD)(dst len:Nat){ps:List (Nat×Operand)}(h:∀ t∈tmpsOf (ps.map (·.2)),E' t=E t)(K:St->Option R):xC d ⟨E,L,U⟩ dst len ps K=xC d ⟨E',L,U⟩ dst len ps λσ'=>K (cd E (some dst) σ'):=by
 simp only[xC,gQ]
 rw[zR h]
theorem H0(TT:Tab)(t:TypeId)(dst:Nat)(ex:ar)(lo hi:Option ar)(K:St->Option R):(xz TT ⟨E,L,U⟩ t dst ex lo hi (λe=>K (St.bZ ⟨E,L,U⟩ (some dst) e)) K)=xz TT ⟨E',L,U⟩ t dst ex lo hi (λe=>K (cd E (some dst) (St.bZ ⟨E',L,U⟩ (some dst) e))) λσ'=>K (cd E (some dst) σ'):=by
 simp only[xz,gQ,bU,St.vO]
theorem H2:∀ (rs:List (Ty×Md)) (x:(et rs).T) (key:Nat) (L:Nat->Option Lab) (U:Nat->Bool) (K:St->List ar->Option R),rA rs x key ⟨E,L,U⟩ K=rA rs x key ⟨E',L,U⟩ λσ' es=>K ⟨E,σ'.L,σ'.U⟩ es:=by
 intro rs
 induction rs with
 |nil=>intro x key L U K;rfl
 |cons p rs ih=>
  intro x key L U K
  simp only[rA,St.Q3]
  rw[ih,ih]
theorem H3(L0:Nat->Option Lab)(t:Ty)(m:Md)(e:ar)(K:t.T->(Nat->Option Lab)->List Nat->Option R):xD ⟨E,L,U⟩ L0 t m e K=xD ⟨E',L,U⟩ L0 t m e K:=rfl
theorem FV:∀ (ps:List (Ty×Md)) (es:List ar) (L0:Nat->Option Lab) (K:(et ps).T->(Nat->Option Lab)->List Nat->Option R),lv ⟨E,L,U⟩ ps es L0 K=lv ⟨E',L,U⟩ ps es L0 K:=by
 intro ps
 induction ps with
 |nil=>intro es L0 K;cases es <;> rfl
 |cons p ps ih=>
  intro es L0 K
  cases es with
  |nil=>rfl
  |cons e es=>
   simp only[lv]
   rw[H3 (E':=E')]
   congr 1
   funext x L1 b1
   exact ih _ _ _
theorem FW(es:List ar):∀ (mi:List Nat) (ms:List (Ty×Md)) (y:(et ms).T) (L0:Nat->Option Lab),o6 ⟨E,L,U⟩ es mi ms y L0=o6 ⟨E',L,U⟩ es mi ms y L0:=by
 intro mi
 induction mi with
 |nil=>intro ms y L0;cases ms <;> rfl
 |cons i mi ih=>
  intro ms y L0
  cases ms with
  |nil=>rfl
  |cons p ms=>
   simp only[o6]
   split
   ·split
    ·congr 1
     split
     ·rw[ih]
     ·rfl
    ·rfl
   ·rfl
theorem wN(dst:Option Nat)(c:Callee)(es:List ar)(K:St->Option R):jc ⟨E,L,U⟩ dst c es K=jc ⟨E',L,U⟩ dst c es λσ'=>K (cd E dst σ'):=by
 unfold jc
 rw[FV (E':=E')]
 congr 1
 funext x L0 bs
 congr 1
 congr 1
 funext r
 rw[FW (E':=E')]
 split
 ·cases dst with
  |none=>rfl
  |some d=>
   simp only
   rw[H2 (E':=E')]
   congr 1
   funext σ' es'
   simp only[cd,oX,aF]
 ·rfl
theorem xV(V:Env)(b:Builtin)(ts:List TypeId){xs:List Operand}(h:∀ t∈tmpsOf xs,E' t=E t)(dst:Option Nat)(K:St->Option R):gn V ⟨E,L,U⟩ b ts xs dst K=gn V ⟨E',L,U⟩ b ts xs dst λσ'=>K (cd E dst σ'):=by
 unfold gn
 split
 ·rw[bW h]
  simp only[bU]
  rfl
 ·rw[bW h]
  simp only[bU]
  rfl
 ·rename_i t tx x y
  rw[bW (x:=x) (λt ht=>h t (dJ ht)),bW (x:=y) (λt ht=>h t (cY ht))]
  cases dst with
  |none=>rfl
  |some d=>simp only[zU (E:=E) (E':=E')]
 ·rename_i t tx x y
  rw[bW (x:=x) (λt ht=>h t (dJ ht)),bW (x:=y) (λt ht=>h t (cY ht))]
  simp only[bU]
 ·rename_i t tx x y
  rw[bW (x:=x) (λt ht=>h t (dJ ht)),bW (x:=y) (λt ht=>h t (cY ht))]
  simp only[bU]
 ·rfl
theorem Cn(e:ar):ku ⟨E,L,U⟩ e=ku ⟨E',L,U⟩ e:=rfl
theorem LM(V:Env){o:Oper}(hc:calm V o=true)(h:∀ t∈looks o,E' t=E t)(K:St->Option R):opK V ⟨E,L,U⟩ o K=opK V ⟨E',L,U⟩ o λσ'=>K (cd E o.dst σ'):=by
 unfold looks at h
 unfold calm at hc
 unfold opK
 split
 ·rename_i x ho;rw[ho]at h;rw[zO (x:=x) h,bW (x:=x) h];simp only[bU,sJ]
 ·rename_i x ho;rw[ho]at h;rw[zO (x:=x) h,bW (x:=x) h];simp only[bU,sJ]
 ·rename_i c x y ho
  rw[ho]at h
  rw[bW (x:=c) (λt ht=>h t (dJ ht)),bW (x:=x) (λt ht=>h t (cY (dJ ht))),bW (x:=y) (λt ht=>h t (cY (cY ht)))]
  simp only[bU]
 ·cases o.dst with
  |none=>rfl
  |some d=>simp only[Ci (E:=E) (E':=E')]
 ·rename_i t x ho
  rw[ho]at h
  rw[bW (x:=x) h]
  cases o.dst with
  |none=>rfl
  |some d=>simp only[HX (E:=E) (E':=E')]
 ·rename_i t ps ho
  rw[ho]at h
  cases o.dst with
  |none=>rfl
  |some d=>exact Cm _ _ _ _ h K
 ·rename_i t len ps ho
  rw[ho]at h
  cases o.dst with
  |none=>rfl
  |some d=>simp only[HZ (E:=E) (E':=E') _ _ _ h,zN]
 ·rename_i t x ho
  rw[ho]at h
  rw[bW (x:=x) h]
  simp only[bU]
  rfl
 ·rename_i t p x ho
  rw[ho]at h
  rw[bW (x:=p) (λt ht=>h t (dJ ht)),bW (x:=x) (λt ht=>h t (cY ht))]
  simp only[LL (E:=E) (E':=E'),HY (E:=E) (E':=E'),Cn (E:=E) (E':=E')]
 ·rename_i x ho
  rw[ho]at h
  rw[bW (x:=x) h]
  simp only[bU]
  rfl
 ·rename_i op t x y yt ho
  rw[ho]at h
  rw[bW (x:=x) (λt ht=>h t (dJ ht)),bW (x:=y) (λt ht=>h t (cY ht))]
  simp only[bU]
  rfl
 ·rename_i op t x ho
  rw[ho]at h
  rw[bW (x:=x) h]
  simp only[bU]
 ·rename_i s t x ho
  rw[ho]at h
  rw[bW (x:=x) h]
  congr 1
  ·cases o.dst with
   |none=>rfl
   |some d=>simp only[Cj (E:=E) (E':=E')]
  ·simp only[bU]
   rfl
 ·rename_i t l c ho
  rw[ho]at h
  rw[bW (x:=l) (λt ht=>h t (dJ ht)),bW (x:=c) (λt ht=>h t (cY ht))]
  cases o.dst with
  |none=>rfl
  |some d=>simp only[FU (E:=E) (E':=E')]
 ·rename_i t x lo hi mx ho
  rw[ho]at h
  split
  ·rfl
  ·rw[bW (x:=x) (λt ht=>h t (dJ ht)),zT (x:=lo) (λt ht=>h t (cY (uw (.inl ht)))),zT (x:=hi) (λt ht=>h t (cY (uw (.inr ht))))]
   cases o.dst with
   |none=>rfl
   |some d=>simp only[H0 (E:=E) (E':=E')]
 ·rename_i s x f ho
  rw[ho]at h
  rw[bW (x:=x) h]
  simp only[bU]
  rfl
 ·rename_i s x f ho
  rw[ho]at h
  rw[bW (x:=x) h]
  simp only[bU]
  rfl
 ·rename_i t x i ho
  rw[ho]at h
  rw[bW (x:=x) (λt ht=>h t (dJ ht)),bW (x:=i) (λt ht=>h t (cY ht))]
  simp only[bU]
  rfl
 ·rename_i t x i ho
  rw[ho]at h
  rw[bW (x:=x) (λt ht=>h t (dJ ht)),bW (x:=i) (λt ht=>h t (cY ht))]
  simp only[bU]
 ·rename_i t i ho
  rw[ho]at h
  have:=h t (by simp[o8,tmpsOf])
  simp only[this,bU]
 ·rename_i c ho
  rw[ho]at h hc
  simp only at hc
  split
  ·rename_i b zV
   simp only[o8,lC,zV]at h
   exact xV V _ _ h _ K
  ·rename_i f zV
   simp only[o8,lC,zV]at h
   rw[zV]at hc
   simp only at hc
   cases hf:V.CT f with
   |none=>rfl
   |some ce=>
    rw[hf]at hc
    simp only at hc |-
    rw[zQ (xs:=c.args.toList) h]
    split
    ·simp only[hc,cond_true]
     exact wN _ _ _ K
    ·rfl
  ·rfl
 ·rfl
end
def cvQ(σ:St)(o:Oper):Bool:=match o.op with
 |.move (.tmp t)=>o7 (σ.E t)
 |.assign (.tmp t)=>o7 (σ.E t)
 |.call c=>(match c.callee with
  |.value (.tmp t)=>(match σ.E t with
   |some (.one (.val (.fn _) _))=>true
   |e=>o7 e)
  |_=>false)
 |_=>false
def cvC{R:Type}(V:Env)(σ:St)(dst:Option Nat)(f:FuncId)(es:List ar)(xs:List Operand)(K:St->Option R):Option R:=
 match V.CT f with
 |some ce=>(match j4 σ xs with
  |some xs1=>bif(cC ce.rs&&cC ce.ms)||V.uj dst then jc σ dst ce (xs1++es) K else none
  |none=>none)
 |none=>none
def cvM{R:Type}(σ:St)(dst:Option Nat)(t:Nat)(K:St->Option R):Option R:=match σ.E t with
 |some (.clo f es)=>K (σ.rG dst f es)
 |_=>none
def cvK{R:Type}(V:Env)(σ:St)(o:Oper)(K:St->Option R):Option R:=match o.op with
 |.move (.tmp t)=>cvM σ o.dst t K
 |.assign (.tmp t)=>cvM σ o.dst t K
 |.call c=>(match c.callee with
  |.value (.tmp t)=>(match σ.E t with
   |some (.one (.val (.fn f) _))=>cvC V σ o.dst f [] c.args.toList K
   |some (.clo f es)=>cvC V σ o.dst f es c.args.toList K
   |_=>none)
  |_=>none)
 |_=>none
def opD{R:Type}(V:Env)(σ:St)(o:Oper)(K:St->Option R):Option R:=bif cvQ σ o then cvK V σ o K else opK V σ o K
section
variable {P:Program} {B:dL} {F:af} {Sg:Nat->af} {cg:Nat->List Value} {σ:St} {a:Act} {w:World}
theorem H4{R:Type}{V:Env}{dst:Option Nat}{f:FuncId}{es:List ar}{xs:List Operand}{K:St->Option R}{r:R}(h:cvC V σ dst f es xs K=some r):
 ∃ ce xs1,V.CT f=some ce/\j4 σ xs=some xs1/\((cC ce.rs&&cC ce.ms)||V.uj dst)=true/\jc σ dst ce (xs1++es) K=some r:=by
 unfold cvC at h
 split at h
 ·rename_i ce hc
  split at h
  ·rename_i xs1 hx
   cases hb:(cC ce.rs&&cC ce.ms)||V.uj dst
   ·rw[hb]at h;cases h
   ·rw[hb]at h;exact⟨ce,xs1,hc,hx,hb,h⟩
  ·cases h
 ·cases h
theorem FX{R:Type}{V:Env}{o:Oper}{K:St->Option R}{r:R}(hq:cvQ σ o=true)(hk:cvK V σ o K=some r):opN V σ o K=some r:=by
 have mv:∀ t,(o.op=.move (.tmp t)\/o.op=.assign (.tmp t))->o7 (σ.E t)=true->cvM σ o.dst t K=some r->opN V σ o K=some r:=by
  intro t ho hc hk
  unfold cvM at hk
  cases hE:σ.E t with
  |none=>rw[hE]at hk;cases hk
  |some e=>
   cases e with
   |one _=>rw[hE]at hk;cases hk
   |tup _=>rw[hE]at hk;cases hk
   |clo f es=>
    rw[hE]at hk
    simp only at hk
    rcases ho with ho|ho
    ·have h1:nlQ σ o=false:=by simp[nlQ,ho,hE,HK]
     have h2:xR V σ o=none:=by simp[xR,ho]
     have h3:fnQ σ o=none:=by simp[fnQ,ho]
     have h4:gW V.TT o.op=false:=by rw[ho];rfl
     have h5:zy σ o=true:=by simp[zy,ho,hE,o7]
     unfold opN
     rw[h1,h2,h3,h4,h5]
     simp only[cond_false,cond_true]
     unfold FF
     rw[ho]
     simp only[hE]
     exact hk
    ·have h1:nlQ σ o=false:=by simp[nlQ,ho,hE,HK]
     have h2:xR V σ o=none:=by simp[xR,ho]
     have h3:fnQ σ o=none:=by simp[fnQ,ho]
     have h4:gW V.TT o.op=false:=by rw[ho];rfl
     have h5:zy σ o=true:=by simp[zy,ho,hE,o7]
     unfold opN
     rw[h1,h2,h3,h4,h5]
     simp only[cond_false,cond_true]
     unfold FF
     rw[ho]
     simp only[hE]
     exact hk
 unfold cvQ at hq
 unfold cvK at hk
 split at hq
 ·rename_i t ho
  rw[ho]at hk
  exact mv t (.inl ho) hq hk
 ·rename_i t ho
  rw[ho]at hk
  exact mv t (.inr ho) hq hk
 ·rename_i c ho
  rw[ho]at hk
  simp only at hk
  split at hq
  ·rename_i t hc
   rw[hc]at hk
   simp only at hk
   have h1:nlQ σ o=false:=by simp[nlQ,ho]
   have h2:xR V σ o=none:=by simp[xR,ho]
   have h4:gW V.TT o.op=false:=by rw[ho];simp[gW,HB,hc]
   split at hk
   ·rename_i f x hE
    obtain⟨ce,xs1,e1,e2,e3,e4⟩:=H4 hk
    have h3:fnQ σ o=some (f,c.args.toList):=by simp[fnQ,ho,hc,hE]
    unfold opN
    rw[h1,h2,h3]
    simp only[cond_false]
    unfold HN
    rw[e1]
    simp only
    rw[e2]
    simp only
    rw[e3]
    simp only[cond_true]
    rw[b9]at e4
    exact e4
   ·rename_i f es hE
    have h3:fnQ σ o=none:=by simp[fnQ,ho,hc,hE]
    have h5:zy σ o=true:=by simp[zy,ho,hc,hE,o7]
    obtain⟨ce,xs1,e1,e2,e3,e4⟩:=H4 hk
    unfold opN
    rw[h1,h2,h3,h4,h5]
    simp only[cond_false,cond_true]
    unfold FF
    rw[ho]
    simp only
    rw[hc]
    simp only[hE]
    rw[e1]
    simp only
    rw[e2]
    simp only
    rw[e3]
    exact e4
   ·cases hk
  ·cases hq
 ·cases hq
theorem Pk{R:Type}{V:Env}(hV:gf P V)(h:aT B F Sg cg σ a w){o:Oper}{K:St->Option R}{r:R}(hN:∀ d,o.dst=some d->d<B.N)(hk:opD V σ o K=some r){Q:Exit->Act->World->Prop}:
 o.wp P a w (Nx B σ o.dst K r) Q:=by
 unfold opD at hk
 cases hq:cvQ σ o
 ·rw[hq]at hk;exact B4 hV h hN hk
 ·rw[hq]at hk;exact HP hV h hN (FX hq hk)
end
section
variable {R R':Type} (G:R->Option R')
theorem zW(V:Env)(σ:St)(dst:Option Nat)(f:FuncId)(es:List ar)(xs:List Operand)(K:St->Option R):(cvC V σ dst f es xs K).bind G=cvC V σ dst f es xs λe=>(K e).bind G:=by
 unfold cvC
 split
 ·split
  ·rw[aK]
   congr 1
   exact po G _ _ _ _ _
  ·rfl
 ·rfl
theorem zX(σ:St)(dst:Option Nat)(t:Nat)(K:St->Option R):(cvM σ dst t K).bind G=cvM σ dst t λe=>(K e).bind G:=by
 unfold cvM
 split <;> rfl
theorem zY(V:Env)(σ:St)(o:Oper)(K:St->Option R):(opD V σ o K).bind G=opD V σ o λe=>(K e).bind G:=by
 unfold opD
 rw[aK,HW]
 congr 1
 unfold cvK
 split
 ·exact zX G _ _ _ _
 ·exact zX G _ _ _ _
 ·split
  ·split
   ·exact zW G _ _ _ _ _ _ _
   ·exact zW G _ _ _ _ _ _ _
   ·rfl
  ·rfl
 ·rfl
end
section
variable {R:Type} {E E':Nat->Option Ent} {L:Nat->Option Lab} {U:Nat->Bool}
theorem zZ(dst:Option Nat)(f:FuncId)(es:List ar):cd E dst (St.rG ⟨E',L,U⟩ dst f es)=St.rG ⟨E,L,U⟩ dst f es:=by
 cases dst with
 |none=>rfl
 |some d=>simp only[cd,oX,St.rG,aF]
theorem DG{dst:Option Nat}{t:Nat}(h:E' t=E t)(K:St->Option R):cvM ⟨E,L,U⟩ dst t K=cvM ⟨E',L,U⟩ dst t λσ'=>K (cd E dst σ'):=by
 unfold cvM
 simp only[h,zZ]
theorem DH(V:Env){dst:Option Nat}{f:FuncId}{es:List ar}{xs:List Operand}(h:∀ t∈tmpsOf xs,E' t=E t)(K:St->Option R):cvC V ⟨E,L,U⟩ dst f es xs K=cvC V ⟨E',L,U⟩ dst f es xs λσ'=>K (cd E dst σ'):=by
 unfold cvC
 rw[zQ (E:=E) (E':=E') h]
 split
 ·split
  ·congr 1
   exact wN _ _ _ K
  ·rfl
 ·rfl
theorem LN(V:Env){o:Oper}(hc:calm V o=true)(h:∀ t∈looks o,E' t=E t)(K:St->Option R):opD V ⟨E,L,U⟩ o K=opD V ⟨E',L,U⟩ o λσ'=>K (cd E o.dst σ'):=by
 have hq:cvQ ⟨E,L,U⟩ o=cvQ ⟨E',L,U⟩ o:=by
  unfold looks at h
  unfold cvQ
  split
  ·rename_i t ho
   rw[ho]at h
   simp only[h t (by simp[o8,tmpsOf])]
  ·rename_i t ho
   rw[ho]at h
   simp only[h t (by simp[o8,tmpsOf])]
  ·rename_i c ho
   rw[ho]at h
   split
   ·rename_i t zV
    simp only[o8,lC,zV]at h
    simp only[h t (by simp[tmpsOf])]
   ·rfl
  ·rfl
 unfold opD
 rw[hq,LM V hc h K]
 congr 1
 unfold looks at h
 unfold cvK
 split
 ·rename_i t ho
  rw[ho]at h
  exact DG (h t (by simp[o8,tmpsOf])) K
 ·rename_i t ho
  rw[ho]at h
  exact DG (h t (by simp[o8,tmpsOf])) K
 ·rename_i c ho
  rw[ho]at h
  split
  ·rename_i t zV
   simp only[o8,lC,zV]at h
   have ht:=h t (by simp[tmpsOf])
   have hx:∀ x∈tmpsOf c.args.toList,E' x=E x:=λx hx=>h x (by simp only[tmpsOf];exact bE _ hx)
   simp only[ht]
   split
   ·exact DH V hx K
   ·exact DH V hx K
   ·rfl
  ·rfl
 ·rfl
end
def ek:ar->List Nat
 |.hdr l ..=>[l]
 |.adr l ..=>[l]
 |.view l ..=>[l]
 |_=>[]
def lD:List ar->List Nat
 |[]=>[]
 |e::es=>ek e++lD es
def Of:Option Ent->List Nat
 |some (.one e)=>ek e
 |some (.tup es)=>lD es
 |some (.clo _ es)=>lD es
 |none=>[]
def j6(σ:St):List Nat->List Nat
 |[]=>[]
 |t::ts=>Of (σ.E t)++j6 σ ts
def vT(ks:List Nat)(dst:Option Nat)(l:Nat):Bool:=gp l ks||(match dst with|some d=>Nat.beq (l / 8) d|none=>false)
def fG(σ:St)(o:Oper):Nat->Bool:=vT (j6 σ (looks o)) o.dst
def jk(L:Nat->Option Lab)(T:Nat->Bool):Nat->Option Lab:=λl=>bif T l then L l else none
def jl(U:Nat->Bool)(T:Nat->Bool):Nat->Bool:=λl=>bif T l then U l else true
def lE(T:Nat->Bool)(L' L:Nat->Option Lab):Nat->Option Lab:=λl=>bif T l then L' l else L l
def kj(T:Nat->Bool)(U' U:Nat->Bool):Nat->Bool:=λl=>bif T l then U' l else U l
def DI(T:Nat->Bool):List Nat->Bool
 |[]=>true
 |l::ls=>T l&&DI T ls
def mg(T:Nat->Bool)(dst:Option Nat)(σ':St):Bool:=match dst with|some d=>DI T (Of (σ'.E d))|none=>true
def nq(σ:St)(o:Oper):St:=⟨λt=>bif gp t (looks o)then σ.E t else none,jk σ.L (fG σ o),jl σ.U (fG σ o)⟩
def pV(T:Nat->Bool)(dst:Option Nat)(σ σ':St):St:=⟨oX σ.E dst σ'.E,lE T σ'.L σ.L,kj T σ'.U σ.U⟩
section
variable {P:Program} {B:dL} {F:af} {Sg:Nat->af} {cg:Nat->List Value} {σ:St} {a:Act} {w:World}
theorem aT.gh(h:aT B F Sg cg σ a w):Gh F w:=B.gh.step h.f0 (λp hp=>h.fr.block p (B.ghl p hp) (B.ghs p hp))
def z6(h:aT B F Sg cg σ a w)(T:Nat->Bool):dL:=
 {w0:=w,S0:=λk=>∃ l b,T l=true/\σ.L l=some b/\Sg l k,F0:=F,N:=B.N,fix:=B.fix,gh:=h.gh,ghs:=λp hp ⟨l,b,_,h1,h2⟩=>h.eF l b h1 p h2 (h.gh p hp).1,ghl:=λp hp=>h.fl p (h.gh p hp).1}
theorem dv{L:Nat->Option Lab}{T:Nat->Bool}{l:Nat}{b:Lab}(h:jk L T l=some b):T l=true/\L l=some b:=by
 unfold jk at h
 cases hT:T l
 ·rw[hT]at h;cases h
 ·rw[hT]at h;exact⟨rfl,h⟩
theorem lF{U T:Nat->Bool}{l:Nat}(h:U l=true):jl U T l=true:=by
 unfold jl;cases T l
 ·rfl
 ·exact h
theorem aD.nq{T:Nat->Bool}{e:ar}{v:Value}(h:aD F w σ.L σ.U cg e v):aD F w (jk σ.L T) (jl σ.U T) cg e v:=by
 cases e with
 |val t x=>exact h
 |cst u=>exact h
 |lm t x=>exact h
 |hdr l n π c=>exact⟨lF h.1,λb hb=>h.2 b (dv hb).2⟩
 |adr l n π c=>exact⟨lF h.1,λb hb=>h.2 b (dv hb).2⟩
 |view l te lo hi=>exact⟨lF h.1,λb hb=>h.2 b (dv hb).2⟩
theorem aT.restrict(h:aT B F Sg cg σ a w)(T:Nat->Bool):aT (z6 h T) F Sg cg ⟨σ.E,jk σ.L T,jl σ.U T⟩ a w:=
 {fr:=⟨rfl,rfl,rfl,aq _,λ_ _ _=>rfl⟩
  size:=h.size
  defers:=h.defers
  f0:=Sub.refl _
  fl:=h.fl
  fs:=λk hk _ _=>hk
  lab:=λl b hb=>h.lab l b (dv hb).2
  dis:=λl l' b b' hne hb hb'=>h.dis l l' b b' hne (dv hb).2 (dv hb').2
  eF:=λl b hb=>h.eF l b (dv hb).2
  lt:=λl b hb=>h.lt l b (dv hb).2
  may:=λl b hb k hk _=>⟨l,b,(dv hb).1,(dv hb).2,hk⟩
  used:=λl b hb=>lF (h.used l b (dv hb).2)
  fix:=λl cs hf=>⟨⟨lF (h.fix l cs hf).1.1,(h.fix l cs hf).1.2⟩,λb hb=>(h.fix l cs hf).2 b (dv hb).2⟩
  ent:=λt e he=>(h.ent t e he).imp λe v hv=>hv.nq}
theorem aD.z7{T:Nat->Bool}{σ':St}{F':af}{w':World}{cg':Nat->List Value}{e:ar}{v:Value}(h:aD F' w' σ'.L σ'.U cg' e v)(hk:∀ l∈ek e,T l=true):
 aD F' w' (lE T σ'.L σ.L) (kj T σ'.U σ.U) (λl=>if T l=true then cg' l else cg l) e v:=by
 cases e with
 |val t x=>exact h
 |cst u=>exact h
 |lm t x=>exact h
 |hdr l n π c=>
  have hT:=hk l (by simp[ek])
  refine⟨by simp only[kj,hT,cond_true];exact h.1,λb hb=>?_⟩
  simp only[lE,hT,cond_true]at hb
  simp only[hT,if_true]
  exact h.2 b hb
 |adr l n π c=>
  have hT:=hk l (by simp[ek])
  refine⟨by simp only[kj,hT,cond_true];exact h.1,λb hb=>?_⟩
  simp only[lE,hT,cond_true]at hb
  simp only[hT,if_true]
  exact h.2 b hb
 |view l te lo hi=>
  have hT:=hk l (by simp[ek])
  refine⟨by simp only[kj,hT,cond_true];exact h.1,λb hb=>?_⟩
  simp only[lE,hT,cond_true]at hb
  simp only[hT,if_true]
  exact h.2 b hb
theorem aD.Pl{T:Nat->Bool}{σ':St}{F':af}{w':World}{cg':Nat->List Value}{e:ar}{v:Value}(h:aD F' w' σ.L σ.U cg e v)(hk:∀ l∈ek e,T l=false):
 aD F' w' (lE T σ'.L σ.L) (kj T σ'.U σ.U) (λl=>if T l=true then cg' l else cg l) e v:=by
 cases e with
 |val t x=>exact h
 |cst u=>exact h
 |lm t x=>exact h
 |hdr l n π c=>
  have hT:=hk l (by simp[ek])
  refine⟨by simp only[kj,hT,cond_false];exact h.1,λb hb=>?_⟩
  simp only[lE,hT,cond_false]at hb
  simp only[hT,au,if_false]
  exact h.2 b hb
 |adr l n π c=>
  have hT:=hk l (by simp[ek])
  refine⟨by simp only[kj,hT,cond_false];exact h.1,λb hb=>?_⟩
  simp only[lE,hT,cond_false]at hb
  simp only[hT,au,if_false]
  exact h.2 b hb
 |view l te lo hi=>
  have hT:=hk l (by simp[ek])
  refine⟨by simp only[kj,hT,cond_false];exact h.1,λb hb=>?_⟩
  simp only[lE,hT,cond_false]at hb
  simp only[hT,au,if_false]
  exact h.2 b hb
theorem Rm(e:ar):ek e=[]\/∃ l,ek e=[l]:=by cases e <;> simp[ek]
theorem aD.Pm{T:Nat->Bool}{F':af}{w':World}{e:ar}{v:Value}(h:aD F w σ.L σ.U cg e v)(hF:Sub F F')(hFw:∀ k,F k->w'.heap[k]?=w.heap[k]?)(rm:∀ l b,σ.L l=some b->Rep F w b.t b.m b.x (cg l) (Sg l))(hw:∀ l b,T l=false->σ.L l=some b->∀ k,Sg l k->w'.heap[k]?=w.heap[k]?)(hk:∀ l∈ek e,T l=false):aD F' w' σ.L σ.U cg e v:=by
 cases e with
 |val t x=>
  obtain⟨cs,h1,h2⟩:=h
  exact⟨cs,aY hF hFw t .ro x cs _ _ h1 (Sub.refl _) (λ_ h=>h.elim),h2⟩
 |cst u=>exact h
 |view l te lo hi=>exact h
 |lm t x=>
  obtain⟨a,ds,h1,h2,h3,h4⟩:=h
  exact⟨a,ds,h1,hF _ h2,h3.congr (hFw _ h2),aY hF hFw t .ro x ds _ _ h4 (Sub.refl _) (λ_ h=>h.elim)⟩
 |hdr l n π c=>
  have hT:=hk l (by simp[ek])
  refine⟨h.1,λb hb=>?_⟩
  obtain⟨h0,h1,h2⟩:=h.2 b hb
  refine⟨h0,h1,λhn=>?_⟩
  obtain⟨h3,h4,h5⟩:=h2 hn
  refine⟨h3,h4,?_⟩
  rw[resolve_congr π b.t b.m b.x (cg l) (Sg l) none (rm l b hb) h3 (by rw[h4];rfl) (hw l b hT hb)]
  exact h5
 |adr l n π c=>
  have hT:=hk l (by simp[ek])
  refine⟨h.1,λb hb=>?_⟩
  obtain⟨h0,h1,h2⟩:=h.2 b hb
  refine⟨h0,h1,λhn=>?_⟩
  obtain⟨h3,h4,h5⟩:=h2 hn
  refine⟨h3,h4,?_⟩
  rw[resolve_congr π b.t b.m b.x (cg l) (Sg l) none (rm l b hb) h3 (by rw[h4];rfl) (hw l b hT hb)]
  exact h5
theorem FY{T:Nat->Bool}{ls:List Nat}(h:DI T ls=true):∀ l∈ls,T l=true:=by
 induction ls with
 |nil=>intro l hl;simp at hl
 |cons x xs ih=>
  simp only[DI,ag]at h
  intro l hl
  rcases az.1 hl with rfl|hl
  ·exact h.1
  ·exact ih h.2 l hl
theorem cG.Rn{F F':af}{w w':World}{L L' L'':Nat->Option Lab}{U U' U'':Nat->Bool}{cg cg' Ro:Nat->List Value}:∀ {es:List ar} {vs:List Value},(∀ e v,e∈es->aD F w L U cg e v->aD F' w' L' U' cg' e v->aD F' w' L'' U'' Ro e v)->cG F w L U cg es vs->cG F' w' L' U' cg' es vs->cG F' w' L'' U'' Ro es vs:=by
 intro es
 induction es with
 |nil=>intro vs _ h _;exact h
 |cons e es ih=>
  rintro vs hi ⟨v,r,rfl,h1,h2⟩ ⟨v',r',e',h3,h4⟩
  injection e' with e1 e2
  subst e1;subst e2
  exact⟨v,r,rfl,hi e v (by simp) h1 h3,ih (λe v he=>hi e v (by simp[he])) h2 h4⟩
theorem cG.Rp{F:af}{w:World}{L L':Nat->Option Lab}{U U':Nat->Bool}{cg cg':Nat->List Value}:∀ {es:List ar} {vs:List Value},(∀ e v,e∈es->aD F w L U cg e v->aD F w L' U' cg' e v)->cG F w L U cg es vs->cG F w L' U' cg' es vs:=by
 intro es
 induction es with
 |nil=>intro vs _ h;exact h
 |cons e es ih=>
  rintro vs hi ⟨v,r,rfl,h1,h2⟩
  exact⟨v,r,rfl,hi e v (by simp) h1,ih (λe v he=>hi e v (by simp[he])) h2⟩
theorem pW{es:List ar}{e:ar}(he:e∈es):∀ l∈ek e,l∈lD es:=by
 induction es with
 |nil=>simp at he
 |cons x xs ih=>
  intro l hl
  rcases az.1 he with rfl|he
  ·simp[lD,hl]
  ·simp[lD,ih he l hl]
theorem aT.merge(h:aT B F Sg cg σ a w){T:Nat->Bool}{σ':St}{a':Act}{w':World}(h':Inv (z6 h T) σ' a' w'){dst:Option Nat}(htm:∀ t,dst≠some t->a'.tmps.getD t undef=a.tmps.getD t undef)(hE:∀ t,dst≠some t->σ'.E t=σ.E t)(hk:mg T dst σ'=true):
 Inv B ⟨σ'.E,lE T σ'.L σ.L,kj T σ'.U σ.U⟩ a' w':=by
 obtain⟨F',Sg',cg',h'⟩:=h'
 have sZ:∀ l b,T l=false->σ.L l=some b->∀ k,Sg l k->¬(z6 h T).S0 k:=by
  rintro l b hT hl k hk ⟨l2,b2,hT2,hl2,hk2⟩
  have hne:l≠l2:=λe=>by rw[e,hT2]at hT;cases hT
  exact h.dis l l2 b b2 hne hl hl2 k hk hk2
 have hblk:∀ l b,T l=false->σ.L l=some b->∀ k,Sg l k->w'.heap[k]?=w.heap[k]?:=λl b hT hl k hk=>h'.fr.block k (h.lt l b hl k hk) (sZ l b hT hl k hk)
 have hFS:∀ k,F k->¬(z6 h T).S0 k:=by
  rintro k hk ⟨l,b,_,hl,hs⟩
  exact h.eF l b hl k hs hk
 have hFw:∀ k,F k->w'.heap[k]?=w.heap[k]?:=λk hk=>h'.fr.block k (h.fl k hk) (hFS k hk)
 have hS0:∀ k,(z6 h T).S0 k->k<B.w0.heap.size->B.S0 k:=by
  rintro k ⟨l,b,_,hl,hs⟩ hlt
  exact h.may l b hl k hs hlt
 have cases2:∀ l b,lE T σ'.L σ.L l=some b->(T l=true/\σ'.L l=some b)\/(T l=false/\σ.L l=some b):=λl b hb=>by
  unfold lE at hb
  cases hT:T l
  ·rw[hT]at hb;exact .inr ⟨rfl,hb⟩
  ·rw[hT]at hb;exact .inl ⟨rfl,hb⟩
 refine⟨F',λl=>if T l=true then Sg' l else Sg l,λl=>if T l=true then cg' l else cg l,?_⟩
 exact
 {fr:=⟨h'.fr.os.trans h.fr.os,h'.fr.tape.trans h.fr.tape,h'.fr.output.trans h.fr.output,bF h.fr.size h'.fr.size,λk hk hn=>(h'.fr.block k (bA hk h.fr.size) (λhs=>hn (hS0 k hs hk))).trans (h.fr.block k hk hn)⟩
  size:=h'.size
  defers:=h'.defers
  f0:=h.f0.trans h'.f0
  fl:=h'.fl
  fs:=λk hk hlt hns=>h.fs k (h'.fs k hk (bA hlt h.fr.size) (λhs=>hns (hS0 k hs hlt))) hlt hns
  lab:=λl b hb=>by
   rcases cases2 l b hb with⟨hT,hl⟩|⟨hT,hl⟩
   ·simp only[hT,if_true];exact h'.lab l b hl
   ·simp only[hT,au,if_false];exact aY h'.f0 hFw _ _ _ _ _ _ (h.lab l b hl) (Sub.refl _) (hblk l b hT hl)
  dis:=λl l2 b b2 hne hb hb2=>by
   rcases cases2 l b hb with⟨hT,hl⟩|⟨hT,hl⟩ <;> rcases cases2 l2 b2 hb2 with⟨hT2,hl2⟩|⟨hT2,hl2⟩
   ·simp only[hT,hT2,if_true];exact h'.dis l l2 b b2 hne hl hl2
   ·simp only[hT,hT2,if_true,au,if_false]
    intro k h1 h2
    exact sZ l2 b2 hT2 hl2 k h2 (h'.may l b hl k h1 (h.lt l2 b2 hl2 k h2))
   ·simp only[hT,hT2,if_true,au,if_false]
    intro k h1 h2
    exact sZ l b hT hl k h1 (h'.may l2 b2 hl2 k h2 (h.lt l b hl k h1))
   ·simp only[hT,hT2,au,if_false];exact h.dis l l2 b b2 hne hl hl2
  eF:=λl b hb=>by
   rcases cases2 l b hb with⟨hT,hl⟩|⟨hT,hl⟩
   ·simp only[hT,if_true];exact h'.eF l b hl
   ·simp only[hT,au,if_false]
    intro k h1 h2
    exact h.eF l b hl k h1 (h'.fs k h2 (h.lt l b hl k h1) (sZ l b hT hl k h1))
  lt:=λl b hb k hk=>by
   rcases cases2 l b hb with⟨hT,hl⟩|⟨hT,hl⟩
   ·simp only[hT,if_true]at hk;exact h'.lt l b hl k hk
   ·simp only[hT,au,if_false]at hk;exact bA (h.lt l b hl k hk) h'.fr.size
  may:=λl b hb k hk hlt=>by
   rcases cases2 l b hb with⟨hT,hl⟩|⟨hT,hl⟩
   ·simp only[hT,if_true]at hk;exact hS0 k (h'.may l b hl k hk (bA hlt h.fr.size)) hlt
   ·simp only[hT,au,if_false]at hk;exact h.may l b hl k hk hlt
  used:=λl b hb=>by
   rcases cases2 l b hb with⟨hT,hl⟩|⟨hT,hl⟩
   ·simp only[kj,hT,cond_true];exact h'.used l b hl
   ·simp only[kj,hT,cond_false];exact h.used l b hl
  fix:=λl cs hf=>by
   have q:=h.fix l cs hf
   have q':=h'.fix l cs hf
   refine⟨⟨?_,q.1.2⟩,λb hb=>?_⟩
   ·simp only[kj]
    cases T l
    ·exact q.1.1
    ·exact q'.1.1
   ·rcases cases2 l b hb with⟨hT,hl⟩|⟨hT,hl⟩
    ·simp only[hT,if_true];exact q'.2 b hl
    ·simp only[hT,au,if_false];exact q.2 b hl
  ent:=λt e he=>by
   have h1:=h'.ent t e he
   by_cases hd:dst=some t
   ·subst hd
    simp only[mg]at hk
    have he':σ'.E t=some e:=he
    rw[he']at hk
    have hin:=FY hk
    cases e with
    |one e=>exact aD.z7 h1 hin
    |tup es=>
     obtain⟨vs,hv,hes⟩:=h1
     exact⟨vs,hv,hes.Rp λe v hm hv=>hv.z7 λl hl=>hin l (pW hm l hl)⟩
    |clo f es=>
     obtain⟨vs,hv,hes⟩:=h1
     exact⟨vs,hv,hes.Rp λe v hm hv=>hv.z7 λl hl=>hin l (pW hm l hl)⟩
   ·have h0:=h.ent t e (by rw[<-hE t hd];exact he)
    rw[htm t hd]at h1 |-
    have step:∀ e v,aD F w σ.L σ.U cg e v->aD F' w' σ'.L σ'.U cg' e v->aD F' w' (lE T σ'.L σ.L) (kj T σ'.U σ.U) (λl=>if T l=true then cg' l else cg l) e v:=by
     intro e v g0 g1
     rcases Rm e with hk0|⟨l,hl⟩
     ·exact g1.z7 (λl hl=>by rw[hk0]at hl;simp at hl)
     ·cases hT:T l
      ·have hkk:∀ j∈ek e,T j=false:=λj hj=>by rw[hl]at hj;simp at hj;rw[hj];exact hT
       exact(g0.Pm h'.f0 hFw h.lab hblk hkk).Pl hkk
      ·exact g1.z7 (λj hj=>by rw[hl]at hj;simp at hj;rw[hj];exact hT)
    cases e with
    |one e=>exact step e _ h0 h1
    |tup es=>
     obtain⟨vs,hv,hes⟩:=h0
     obtain⟨vs',hv',ul⟩:=h1
     rw[hv]at hv'
     injection hv' with hv'
     have:vs=vs':=by simpa using congrArg Array.toList hv'
     subst this
     exact⟨vs,hv,hes.Rn (λe v _=>step e v) ul⟩
    |clo f es=>
     obtain⟨vs,hv,hes⟩:=h0
     obtain⟨vs',hv',ul⟩:=h1
     rw[hv]at hv'
     injection hv' with _ _ hv'
     have:vs=vs':=by simpa using congrArg Array.toList hv'
     subst this
     exact⟨vs,hv,hes.Rn (λe v _=>step e v) ul⟩}
end
section
variable {P:Program} {B:dL} {F:af} {Sg:Nat->af} {cg:Nat->List Value} {σ:St} {a:Act} {w:World}
theorem uy{dst:Option Nat}{v:Value}{t:Nat}(h:dst≠some t):(a.put dst v).tmps.getD t undef=a.tmps.getD t undef:=by
 cases dst with
 |none=>rfl
 |some d=>
  have hne:t≠d:=λe=>h (by rw[e])
  simp only[Act.put,eO]
  rw[qG (Ne.symm hne)]
theorem Oper.LO{o:Oper}{next:Act->World->Prop}{Q:Exit->Act->World->Prop}(h:o.wp P a w next Q):o.wp P a w (λa' w'=>next a' w'/\∀ t,o.dst≠some t->a'.tmps.getD t undef=a.tmps.getD t undef) Q:=by
 unfold Oper.wp at *
 generalize (execOp a.eval o).run P w=res at *
 cases res with
 |ok n w'=>
  cases n <;> simp only[Oper.upon]at h |-
  case value u=>exact⟨h,λt ht=>uy ht⟩
  case skip=>exact⟨h,λt ht=>uy ht⟩
  case defer d=>exact⟨h,λt ht=>uy (a:={a with defers:=d::a.defers}) ht⟩
  case enter f args=>
   refine Calls.mono h λe w'' he=>?_
   cases e with
   |returned u=>exact⟨he,λt ht=>uy ht⟩
   |panicked c=>exact he
   |outgrown=>exact he
  case row row args=>exact Rows.mono h λu w'' he=>⟨he,λt ht=>uy ht⟩
 |halt x w'=>
  cases x <;> simp only[Oper.upon]at h |-
  case panic u=>exact h
theorem Rq{V:Env}(hV:gf P V)(h:Inv B σ a w){o:Oper}(hc:calm V o=true)(hN:∀ d,o.dst=some d->d<B.N){σ':St}(hk:opD V (nq σ o) o some=some σ')(hin:mg (fG σ o) o.dst σ'=true){Q:Exit->Act->World->Prop}:
 o.wp P a w (λa' w'=>Inv B (pV (fG σ o) o.dst σ σ') a' w') Q:=by
 obtain⟨F,Sg,cg,h⟩:=h
 have i1:=h.restrict (fG σ o)
 have hE:∀ t∈looks o,(λt=>bif gp t (looks o)then σ.E t else none) t=σ.E t:=λt ht=>by
  have:∀ l:List Nat,t∈l->gp t l=true:=by
   intro l
   induction l with
   |nil=>intro h;simp at h
   |cons x xs ih=>
    intro h
    simp only[gp,aG]
    rcases az.1 h with rfl|h
    ·exact .inl (cV _)
    ·exact .inr (ih h)
  simp only[this _ ht,cond_true]
 have z8:=LN (R:=St) (E:=σ.E) (L:=jk σ.L (fG σ o)) (U:=jl σ.U (fG σ o)) V hc hE some
 have hb:=zY (λσ'=>some (cd σ.E o.dst σ')) V (nq σ o) o some
 rw[hk]at hb
 have hk2:opD V ⟨σ.E,jk σ.L (fG σ o),jl σ.U (fG σ o)⟩ o some=some (cd σ.E o.dst σ'):=by
  rw[z8]
  exact hb.symm
 refine Oper.mb (Oper.LO (Pk (Q:=Q) hV i1 hN hk2)) (λa' w' hp=>?_) (λ_ _ _ h=>h)
 obtain⟨⟨rH,q1,q2,_⟩,q4⟩:=hp
 injection q1 with q1
 subst q1
 have:=h.merge q2 q4 (λt ht=>by
  simp only[cd,oX]
  cases hd:o.dst with
  |none=>rfl
  |some d=>exact aS _ _ (λe=>ht (by rw[hd,e]))) (by
  unfold mg at hin |-
  cases hd:o.dst with
  |none=>rfl
  |some d=>
   rw[hd]at hin
   simp only[cd,oX,aF]
   exact hin)
 exact this
def uz:List (Ty×Md)->Bool
 |[]=>true
 |p::ps=>decide (p.2=.ro)&&uz ps
def H5(c:Callee):Bool:=uz c.ps&&(uz c.rs&&(match c.mi with|[]=>(match c.ms with|[]=>true|_=>false)|_=>false))
def isV(V:Env)(o:Oper):Bool:=match o.op with
 |.move _|.assign _|.pick .. |.load .. |.nilCheck _|.binOp .. |.unOp .. |.fieldAddr .. |.field .. |.indexAddr .. |.index .. |.extract ..=>true
 |.call c=>(match c.callee with|.builtin .len=>true|.builtin .min=>true|.builtin .max=>true|.value (.func f)=>(match V.CT f with|some ce=>H5 ce&&((cC ce.rs&&cC ce.ms)||V.uj o.dst)|none=>false)|_=>false)
 |_=>false
theorem oF{dst:Option Nat}{e:ar}:(σ.bZ dst e).L=σ.L/\(σ.bZ dst e).U=σ.U:=by cases dst <;> exact⟨rfl,rfl⟩
theorem DJ{dst:Option Nat}{es:List ar}:(σ.na dst es).L=σ.L/\(σ.na dst es).U=σ.U:=by cases dst <;> exact⟨rfl,rfl⟩
theorem FZ{o:Oper}{σ':St}{f:Option ar}(h:(f.bind λe=>some (σ.bZ o.dst e))=some σ'):σ'.L=σ.L/\σ'.U=σ.U:=by
 obtain⟨e,_,h2⟩:=cn.1 h
 injection h2 with h2
 rw[<-h2];exact oF
theorem xW{R:Type}{σ:St}{e:ar}{K:Nat->Lab->List Stp->V->Option R}{r:R}(h:lq σ e K=some r):∃ l b π c,K l b π c=some r:=by
 unfold lq at h
 split at h
 ·split at h
  ·rename_i b _
   simp only[dq]at h
   split at h
   ·exact⟨_,_,_,_,h⟩
   ·split at h
    ·exact⟨_,_,_,_,h⟩
    ·cases h
  ·cases h
 ·cases h
theorem H6{σ:St}{es:List ar}{mi:List Nat}{ms:List (Ty×Md)}(hq:(match mi with|[]=>(match ms with|[]=>true|_=>false)|_=>false)=true){y:(et ms).T}{L L2:Nat->Option Lab}(h:o6 σ es mi ms y L=some L2):L2=L:=by
 cases mi with
 |cons _ _=>cases hq
 |nil=>cases ms with
  |cons _ _=>cases hq
  |nil=>injection h with h;exact h.symm
theorem H7{R:Type}{σ:St}:∀ {ps:List (Ty×Md)} {es:List ar} {L:Nat->Option Lab} {K:(et ps).T->(Nat->Option Lab)->List Nat->Option R} {r:R},uz ps=true->lv σ ps es L K=some r->∃ x bs,K x L bs=some r:=by
 intro ps
 induction ps with
 |nil=>
  intro es L K r _ h
  cases es with
  |nil=>exact⟨(),[],h⟩
  |cons _ _=>cases h
 |cons p ps ih=>
  intro es L K r ha h
  simp only[uz,ag]at ha
  cases es with
  |nil=>cases h
  |cons e es=>
   simp only[lv]at h
   unfold xD at h
   rw[ha.1]at h
   simp only[cond_true]at h
   split at h
   ·obtain⟨l,b,π,c,h⟩:=xW h
    split at h
    ·obtain⟨x,bs,h⟩:=ih ha.2 h;exact⟨_,_,h⟩
    ·cases h
   ·obtain⟨x0,h⟩:=O3 h
    obtain⟨x,bs,h⟩:=ih ha.2 h;exact⟨_,_,h⟩
theorem LP{R:Type}:∀ {rs:List (Ty×Md)} {x:(et rs).T} {k:Nat} {σ:St} {K:St->List ar->Option R} {r:R},uz rs=true->rA rs x k σ K=some r->∃ es,K σ es=some r:=by
 intro rs
 induction rs with
 |nil=>intro x k σ K r _ h;exact⟨[],h⟩
 |cons p rs ih=>
  intro x k σ K r ha h
  simp only[uz,ag,decide_eq_true_eq]at ha
  simp only[rA,ha.1,dM,cond_true]at h
  obtain⟨es,h⟩:=ih ha.2 h
  exact⟨_,h⟩
theorem LQ{V:Env}{o:Oper}(hv:isV V o=true){σ':St}(hk:opK V σ o some=some σ'):σ'.L=σ.L/\σ'.U=σ.U:=by
 have one:∀ (f:(ar->Option St)->Option St) (g:Option ar),(∀ K,f K=g.bind K)->f (λe=>some (σ.bZ o.dst e))=some σ'->σ'.L=σ.L/\σ'.U=σ.U:=λf g hf h=>by
  rw[hf]at h;exact FZ h
 unfold isV at hv
 unfold opK at hk
 split at hk
 ·split at hk
  ·injection hk with hk;rw[<-hk];exact DJ
  ·split at hk
   ·injection hk with hk;rw[<-hk];exact oF
   ·cases hk
 ·split at hk
  ·injection hk with hk;rw[<-hk];exact DJ
  ·split at hk
   ·injection hk with hk;rw[<-hk];exact oF
   ·cases hk
 ·split at hk
  ·split at hk
   ·split at hk
    ·injection hk with hk;rw[<-hk];exact oF
    ·cases hk
   ·split at hk
    ·injection hk with hk;rw[<-hk];exact oF
    ·cases hk
  ·cases hk
 ·rename_i t ho;rw[ho]at hv;cases hv
 ·rename_i t x ho;rw[ho]at hv;cases hv
 ·rename_i t x ho;rw[ho]at hv;cases hv
 ·rename_i t l x ho;rw[ho]at hv;cases hv
 ·split at hk
  ·split at hk
   ·exact one _ _ (λK=>(uu K _ _ _ some).symm) hk
   ·cases hk
  ·cases hk
 ·rename_i t l x ho;rw[ho]at hv;cases hv
 ·split at hk
  ·exact one _ _ (λK=>(wI K _ _ some).symm) hk
  ·cases hk
 ·split at hk
  ·split at hk
   ·exact one _ _ (λK=>(wL K _ _ _ _ _ _ _ some).symm) hk
   ·cases hk
  ·cases hk
 ·split at hk
  ·exact one _ _ (λK=>(zH K _ _ some).symm) hk
  ·cases hk
 ·rename_i s t x ho;rw[ho]at hv;cases hv
 ·rename_i t l x ho;rw[ho]at hv;cases hv
 ·rename_i t x l h m ho;rw[ho]at hv;cases hv
 ·split at hk
  ·exact one _ _ (λK=>(mK K _ _ _ _ _ some).symm) hk
  ·cases hk
 ·split at hk
  ·exact one _ _ (λK=>(sH K _ _ _ _ _ some).symm) hk
  ·cases hk
 ·split at hk
  ·split at hk
   ·exact one _ _ (λK=>(wM K _ _ _ _ _ some).symm) hk
   ·cases hk
  ·cases hk
 ·split at hk
  ·split at hk
   ·exact one _ _ (λK=>(sI K _ _ _ _ some).symm) hk
   ·cases hk
  ·cases hk
 ·split at hk
  ·split at hk
   ·injection hk with hk;rw[<-hk];exact oF
   ·cases hk
  ·cases hk
 ·rename_i c ho
  rw[ho]at hv
  simp only at hv
  split at hk
  ·rename_i b hc
   rw[hc]at hv
   unfold gn at hk
   split at hk
   ·split at hk
    ·exact one _ _ (λK=>(wF K _ _ _ _ some).symm) hk
    ·cases hk
   ·split at hk
    ·exact one _ _ (λK=>(wH K _ _ _ _ some).symm) hk
    ·cases hk
   ·cases hv
   ·split at hk
    ·split at hk
     ·exact one _ _ (λK=>(wJ K _ _ some).symm) hk
     ·cases hk
    ·cases hk
   ·split at hk
    ·split at hk
     ·exact one _ _ (λK=>(wK K _ _ some).symm) hk
     ·cases hk
    ·cases hk
   ·cases hk
  ·rename_i f hc
   rw[hc]at hv
   simp only at hv
   cases hf:V.CT f with
   |none=>rw[hf]at hv;cases hv
   |some ce=>
   rw[hf]at hv hk
   simp only[ag]at hv
   simp only at hk
   obtain⟨hro,hfl⟩:=hv
   split at hk
   ·rename_i es hes
    rw[hfl]at hk
    simp only[cond_true]at hk
    unfold H5 at hro
    simp only[ag]at hro
    obtain⟨r1,r2,r3⟩:=hro
    unfold jc at hk
    obtain⟨x,bs,hk⟩:=H7 r1 hk
    simp only[dq]at hk
    split at hk
    ·unfold aj at hk
     cases Fu:ce.den x with
     |none=>rw[Fu]at hk;cases hk
     |some y=>
     rw[Fu]at hk
     simp only at hk
     split at hk
     ·rename_i L2 hL2
      have hL2:=H6 r3 hL2
      subst hL2
      split at hk
      ·obtain⟨es',hk⟩:=LP r2 hk
       injection hk with hk
       rw[<-hk]
       exact⟨rfl,rfl⟩
      ·injection hk with hk
       rw[<-hk]
       exact⟨rfl,rfl⟩
     ·cases hk
    ·cases hk
   ·cases hk
  ·cases hk
 ·cases hk
theorem LR{V:Env}{o:Oper}(hv:isV V o=true){σ':St}(hk:opD V σ o some=some σ'):σ'.L=σ.L/\σ'.U=σ.U:=by
 unfold opD at hk
 cases hq:cvQ σ o
 ·rw[hq]at hk;exact LQ hv hk
 ·rw[hq]at hk
  simp only[cond_true]at hk
  have mv:∀ t,cvM σ o.dst t some=some σ'->σ'.L=σ.L/\σ'.U=σ.U:=by
   intro t hk
   unfold cvM at hk
   split at hk
   ·injection hk with hk
    rw[<-hk]
    unfold St.rG
    cases o.dst <;> exact⟨rfl,rfl⟩
   ·cases hk
  unfold cvK at hk
  split at hk
  ·exact mv _ hk
  ·exact mv _ hk
  ·rename_i c ho
   split at hk
   ·rename_i t hc
    simp[isV,ho,hc]at hv
   ·cases hk
  ·cases hk
end
def uA(σ:St)(ops:List Oper)(o:Oper):Option Bool:=
 match o.guard with
 |none=>some true
 |some (j,want)=>match ni ops j with
  |some s=>(match σ.E s with
   |some (.one (.val .bool b))=>some ((b:Bool) == want)
   |some (.one (.cst v))=>(match v with
    |.bool b=>some (b == want)
    |_=>some false)
   |_=>none)
  |none=>none
def cH(ops:List Oper)(o:Oper):List Nat:=match o.guard with
 |none=>[]
 |some (j,_)=>match ni ops j with|some s=>[s]|none=>[]
structure Tr where
 o:Oper
 st:St
 run:Bool
 e:Option Ent
 T:Nat->Bool
 L':Nat->Option Lab
 U':Nat->Bool
 re:List Nat
 TR:Nat->Bool
 anc:List Nat
 wh:Option St:=none
def Tr.U(t:Tr)(σ:St):St:=match t.wh with|some σ'=>σ'|none=>⟨match t.o.dst with|some d=>upd σ.E d t.e|none=>σ.E,lE t.T t.L' σ.L,kj t.T t.U' σ.U⟩
structure je(s t:Tr):Prop where
 r1:∀ d,s.o.dst=some d->d∉t.re
 r2:∀ d,t.o.dst=some d->d∉s.re
 w:∀ d,s.o.dst=some d->t.o.dst≠some d
 l1:∀ l,s.T l=true->t.TR l=true->False
 l2:∀ l,t.T l=true->s.TR l=true->False
 l3:∀ l,s.T l=true->t.T l=true->False
 n1:s.wh=none
 n2:t.wh=none
structure Ag(t:Tr)(σ1 σ2:St):Prop where
 e:∀ x∈t.re,σ1.E x=σ2.E x
 l:∀ l,t.TR l=true->σ1.L l=σ2.L l/\σ1.U l=σ2.U l
 w:t.wh.isSome=true->σ1=σ2
def cL(D:Nat->Bool):List Tr->Nat->St->St
 |[],_,σ=>σ
 |t::tr,m,σ=>cL D tr (m+1) (bif D m then t.U σ else σ)
section
theorem Ag.refl(t:Tr)(σ:St):Ag t σ σ:=⟨λ_ _=>rfl,λ_ _=>⟨rfl,rfl⟩,λ_=>rfl⟩
theorem Ag.both{t s:Tr}{σ1 σ2:St}(h:Ag t σ1 σ2):Ag t (s.U σ1) (s.U σ2):=by
 cases hw:s.wh with
 |some σ'=>simp only[Tr.U,hw];exact Ag.refl _ _
 |none=>
 refine⟨λx hx=>?_,λl hl=>?_,λhw'=>by rw[h.w hw']⟩
 ·simp only[Tr.U,hw]
  cases s.o.dst with
  |none=>exact h.1 x hx
  |some d=>
   by_cases e:x=d
   ·subst e;simp only[aF]
   ·simp only[aS _ _ e];exact h.1 x hx
 ·simp only[Tr.U,hw,lE,kj]
  cases s.T l
  ·exact h.2 l hl
  ·exact⟨rfl,rfl⟩
theorem Ag.one{t s:Tr}{σ:St}(h:je s t):Ag t (s.U σ) σ:=by
 refine⟨λx hx=>?_,λl hl=>?_,λhw=>by rw[h.n2]at hw;cases hw⟩
 ·simp only[Tr.U,h.n1]
  cases hd:s.o.dst with
  |none=>rfl
  |some d=>exact aS _ _ (λe=>h.r1 d hd (e ▸ hx))
 ·simp only[Tr.U,h.n1,lE,kj]
  cases hT:s.T l
  ·exact⟨rfl,rfl⟩
  ·exact(h.l1 l hT hl).elim
theorem Ag.trans{t:Tr}{σ1 σ2 σ3:St}(h:Ag t σ1 σ2)(k:Ag t σ2 σ3):Ag t σ1 σ3:=⟨λx hx=>(h.1 x hx).trans (k.1 x hx),λl hl=>⟨(h.2 l hl).1.trans (k.2 l hl).1,(h.2 l hl).2.trans (k.2 l hl).2⟩,λhw=>(h.w hw).trans (k.w hw)⟩
theorem Ag.symm{t:Tr}{σ1 σ2:St}(h:Ag t σ1 σ2):Ag t σ2 σ1:=⟨λx hx=>(h.1 x hx).symm,λl hl=>⟨(h.2 l hl).1.symm,(h.2 l hl).2.symm⟩,λhw=>(h.w hw).symm⟩
theorem je.symm{s t:Tr}(h:je s t):je t s:=⟨h.r2,h.r1,λd h1 h2=>h.w d h2 h1,h.l2,h.l1,λl h1 h2=>h.l3 l h2 h1,h.n2,h.n1⟩
theorem Pn{s t:Tr}(h:je s t)(σ:St):s.U (t.U σ)=t.U (s.U σ):=by
 have hE:(s.U (t.U σ)).E=(t.U (s.U σ)).E:=by
  simp only[Tr.U,h.n1,h.n2]
  cases hs:s.o.dst with
  |none=>cases t.o.dst <;> rfl
  |some d=>
   cases ht:t.o.dst with
   |none=>rfl
   |some d'=>
    have hne:d≠d':=λe=>h.w d hs (by rw[ht,e])
    funext j
    by_cases e1:j=d
    ·subst e1;simp only[aF,aS _ _ hne]
    ·by_cases e2:j=d'
     ·subst e2;simp only[aS _ _ e1,aF]
     ·simp only[aS _ _ e1,aS _ _ e2]
 have hL:(s.U (t.U σ)).L=(t.U (s.U σ)).L:=by
  funext l
  simp only[Tr.U,h.n1,h.n2,lE]
  cases h1:s.T l <;> cases h2:t.T l <;> first|rfl|exact(h.l3 l h1 h2).elim
 have hU:(s.U (t.U σ)).U=(t.U (s.U σ)).U:=by
  funext l
  simp only[Tr.U,h.n1,h.n2,kj]
  cases h1:s.T l <;> cases h2:t.T l <;> first|rfl|exact(h.l3 l h1 h2).elim
 cases h1:s.U (t.U σ)with
 |mk E1 L1 U1=>
  cases h2:t.U (s.U σ)with
  |mk E2 L2 U2=>
   rw[h1,h2]at hE hL hU
   simp only at hE hL hU
   rw[hE,hL,hU]
theorem rL{D D':Nat->Bool}:∀ (tr:List Tr) (m:Nat) (σ:St),(∀ k,m<=k->k<m+tr.length->D k=D' k)->cL D tr m σ=cL D' tr m σ:=by
 intro tr
 induction tr with
 |nil=>intro m σ _;rfl
 |cons t tr ih=>
  intro m σ h
  simp only[cL]
  rw[h m (aq _) (by simp)]
  exact ih (m+1) _ (λk h1 h2=>h k (by omega) (by simp at h2 |-;omega))
theorem F3{D:Nat->Bool}{i:Nat}{t:Tr}:∀ (tr:List Tr) (m:Nat) (σ:St),(m<=i)->tr[i-m]?=some t->D i=false->(∀ k s,i<k->D k=true->m<=k->tr[k-m]?=some s->je s t)->
 cL (λk=>D k||Nat.beq k i) tr m σ=t.U (cL D tr m σ):=by
 have H8:∀ (tr:List Tr) (m:Nat) (σ:St),i<m->(∀ k s,D k=true->m<=k->tr[k-m]?=some s->je s t)->cL (λk=>D k||Nat.beq k i) tr m (t.U σ)=t.U (cL D tr m σ):=by
  intro tr
  induction tr with
  |nil=>intro m σ _ _;rfl
  |cons s tr ih=>
   intro m σ hm ha
   have hne:Nat.beq m i=false:=by
    cases hb:Nat.beq m i
    ·rfl
    ·have:=bg hb;omega
   simp only[cL,hne,jI]
   cases hD:D m
   ·exact ih (m+1) σ (by omega) (λk s' h1 h2 h3=>ha k s' h1 (by omega) (by rw[show k-m=(k-(m+1))+1 by omega];exact h3))
   ·simp only[cond_true]
    rw[Pn (ha m s hD (aq _) (by simp))]
    exact ih (m+1) _ (by omega) (λk s' h1 h2 h3=>ha k s' h1 (by omega) (by rw[show k-m=(k-(m+1))+1 by omega];exact h3))
 intro tr
 induction tr with
 |nil=>intro m σ _ h;simp at h
 |cons s tr ih=>
  intro m σ hm ht hD ha
  by_cases e:m=i
  ·subst e
   simp at ht
   subst ht
   simp only[cL,hD,cV,cT,cond_true,cond_false]
   exact H8 tr (m+1) σ (dn _) (λk s' h1 h2 h3=>ha k s' (by omega) h1 (by omega) (by rw[show k-m=(k-(m+1))+1 by omega];exact h3))
  ·have hne:Nat.beq m i=false:=by
    cases hb:Nat.beq m i
    ·rfl
    ·exact absurd (bg hb) e
   simp only[cL,hne,jI]
   exact ih (m+1) _ (by omega) (by rw[show i-m=(i-(m+1))+1 by omega]at ht;exact ht) hD (λk s' h0 h1 h2 h3=>ha k s' h0 h1 (by omega) (by rw[show k-m=(k-(m+1))+1 by omega];exact h3))
theorem H9{D:Nat->Bool}{i:Nat}{t:Tr}:∀ (tr:List Tr) (m:Nat) (σ1 σ2:St),m<=i->i-m<=tr.length->Ag t σ1 σ2->D i=false->(∀ k s,m<=k->k<i->D k=false->tr[k-m]?=some s->je s t)->(∀ k s,i<k->D k=true->tr[k-m]?=some s->je s t)->
 Ag t (cL D tr m σ1) (cL (λ_=>true) (tr.take (i-m)) m σ2):=by
 have H8:∀ (tr:List Tr) (m:Nat) (σ1:St),i<m->(∀ k s,m<=k->D k=true->tr[k-m]?=some s->je s t)->Ag t (cL D tr m σ1) σ1:=by
  intro tr
  induction tr with
  |nil=>intro m σ1 _ _;exact Ag.refl _ _
  |cons s tr ih=>
   intro m σ1 hm ha
   simp only[cL]
   have hs:∀ k s',m+1<=k->D k=true->tr[k-(m+1)]?=some s'->je s' t:=λk s' h1 h2 h3=>ha k s' (by omega) h2 (by rw[show k-m=(k-(m+1))+1 by omega];exact h3)
   cases hD:D m
   ·exact ih (m+1) σ1 (by omega) hs
   ·exact(ih (m+1) _ (by omega) hs).trans (Ag.one (ha m s (aq _) hD (by simp)))
 intro tr
 induction tr with
 |nil=>intro m σ1 σ2 _ _ h _ _ _;simpa [cL]using h
 |cons s tr ih=>
  intro m σ1 σ2 hm hl h hD h1 h2
  by_cases e:m=i
  ·subst e
   simp only[Nat.sub_self,List.take_zero,cL,hD,cond_false]
   exact(H8 tr (m+1) σ1 (dn _) (λk s' q1 q2 q3=>h2 k s' (by omega) q2 (by rw[show k-m=(k-(m+1))+1 by omega];exact q3))).trans h
  ·rw[show i-m=(i-(m+1))+1 by omega,qS]
   simp only[cL,cond_true]
   refine ih (m+1) _ _ (by omega) (by simp at hl;omega) ?_ hD (λk s' q1 q2 q3 q4=>h1 k s' (by omega) q2 q3 (by rw[show k-m=(k-(m+1))+1 by omega];exact q4)) (λk s' q1 q2 q3=>h2 k s' q1 q2 (by rw[show k-m=(k-(m+1))+1 by omega];exact q3))
   cases hDm:D m
   ·exact h.trans (Ag.one (h1 m s (aq _) (by omega) hDm (by simp))).symm
   ·exact h.both
end
def ky(V:Env)(t:Tr):Prop:=∀ {P:Program} {B:dL} {σ:St} {a:Act} {w:World} {Q:Exit->Act->World->Prop},gf P V->Inv B σ a w->(∀ d,t.o.dst=some d->d<B.N)->Ag t σ t.st->t.o.wp P a w (λa' w'=>Inv B (t.U σ) a' w') Q
structure GoodP(V:Env)(ops:List Oper)(tr:List Tr)(σ0:St):Prop where
 op:∀ (i:Nat) (t:Tr),tr[i]?=some t->ops[i]?=some t.o
 st:∀ (i:Nat) (t:Tr),tr[i]?=some t->t.st=cL (λ_=>true) (tr.take i) 0 σ0
 gv:∀ (i:Nat) (t:Tr),tr[i]?=some t->uA t.st ops t.o=some t.run/\∀ s∈cH ops t.o,s∈t.re
 run:∀ (i:Nat) (t:Tr),tr[i]?=some t->t.run=true->ky V t
 skip:∀ (i:Nat) (t:Tr),tr[i]?=some t->t.run=false->∀ σ,σ.bZ t.o.dst (.cst undef)=t.U σ
 F4:∀ (i:Nat) (t:Tr) (e:Edge),tr[i]?=some t->e∈t.o.after->Region.binds .any e=true->e.on<i
 anc:∀ (i:Nat) (t:Tr) (m:Nat),tr[i]?=some t->m∈t.anc->m<i/\∃ e:Edge,e∈t.o.after/\Region.binds .any e=true/\(m=e.on\/∃ s:Tr,tr[e.on]?=some s/\m∈s.anc)
 apart:∀ (i j:Nat) (s t:Tr),i<j->tr[i]?=some s->tr[j]?=some t->i∉t.anc->je s t
 wE:∀ (i:Nat) (t:Tr) (σ':St),tr[i]?=some t->t.wh=some σ'->∀ j,t.o.dst≠some j->σ'.E j=t.st.E j
structure Good(V:Env)(ops:List Oper)(tr:List Tr)(σ0:St):Prop extends GoodP V ops tr σ0 where
 len:tr.length=ops.length
section
variable {P:Program} {B:dL} {V:Env} {ops:Array Oper} {tr:List Tr} {σ0:St}
theorem Ia{σ σ':St}{ops:List Oper}{o:Oper}(h:∀ s∈cH ops o,σ.E s=σ'.E s):uA σ ops o=uA σ' ops o:=by
 unfold cH at h
 unfold uA
 cases hg:o.guard with
 |none=>rfl
 |some p=>
  obtain⟨j,want⟩:=p
  rw[hg]at h
  simp only at h |-
  cases hs:ni ops j with
  |none=>rfl
  |some s=>rw[hs]at h;simp only at h |-;rw[h s (by simp)]
theorem LS{σ:St}{a:Act}{w:World}(h:Inv B σ a w){o:Oper}{b:Bool}(hg:uA σ ops.toList o=some b):Region.wanted o (yielded ops a.tmps)=b:=by
 obtain⟨F,Sg,cg,h⟩:=h
 unfold uA at hg
 unfold Region.wanted
 split at hg
 ·rename_i hg';rw[hg'];exact cS hg
 ·rename_i j want hg'
  rw[hg']
  simp only
  cases hs:ni ops.toList j with
  |none=>rw[hs]at hg;cases hg
  |some s=>
  rw[hs]at hg
  simp only at hg
  split at hg
  ·rename_i b' hE
   have hv:=jT (L:=σ.L) (U:=σ.U) (cg:=cg) (h.ent s _ hE)
   rw[ma hs hv]
   have hg:=cS hg
   rw[<-hg]
   cases b' <;> cases want <;> rfl
  ·rename_i v hE
   have hv:a.tmps.getD s undef=v:=h.ent s _ hE
   split at hg
   ·rename_i b'
    rw[ma hs hv]
    have hg:=cS hg
    rw[<-hg]
    cases b' <;> cases want <;> rfl
   ·rename_i hnb
    rw[sG hs (λb hb=>by rw[hv]at hb;exact hnb b hb)]
    have hg:=cS hg
    rw[<-hg]
    rfl
  ·cases hg
theorem Co{σ σ':St}:∀ {ts:List Nat},(∀ t∈ts,σ.E t=σ'.E t)->j6 σ ts=j6 σ' ts:=by
 intro ts
 induction ts with
 |nil=>intro _;rfl
 |cons t ts ih=>intro h;simp only[j6];rw[h t (by simp),ih (λt ht=>h t (by simp[ht]))]
theorem Aa{σ σ':St}{o:Oper}(h:∀ t∈looks o,σ.E t=σ'.E t):fG σ o=fG σ' o:=by
 unfold fG;rw[Co h]
theorem Ib{t:Nat}{l:List Nat}(h:gp t l=true):t∈l:=ur h
theorem F5{σ σ':St}{o:Oper}(h:∀ t∈looks o,σ.E t=σ'.E t)(hl:∀ l,fG σ' o l=true->σ.L l=σ'.L l/\σ.U l=σ'.U l):nq σ o=nq σ' o:=by
 unfold nq
 rw[Aa h]
 have e1:(λt=>bif gp t (looks o)then σ.E t else none)=λt=>bif gp t (looks o)then σ'.E t else none:=by
  funext t
  cases hm:gp t (looks o)
  ·rfl
  ·exact h t (Ib hm)
 have e2:jk σ.L (fG σ' o)=jk σ'.L (fG σ' o):=by
  funext l
  unfold jk
  cases hv:fG σ' o l
  ·rfl
  ·exact(hl l hv).1
 have e3:jl σ.U (fG σ' o)=jl σ'.U (fG σ' o):=by
  funext l
  unfold jl
  cases hv:fG σ' o l
  ·rfl
  ·exact(hl l hv).2
 rw[e1,e2,e3]
theorem ky.of{t:Tr}(h:(∀ x∈looks t.o,x∈t.re)/\(∀ l,fG t.st t.o l=true->t.TR l=true)/\calm V t.o=true/\∃ σ',opD V (nq t.st t.o) t.o some=some σ'/\mg (fG t.st t.o) t.o.dst σ'=true/\∀ σ,Ag t σ t.st->pV (fG t.st t.o) t.o.dst σ σ'=t.U σ):ky V t:=by
 intro P B σ a w Q hV hi hd hag
 obtain⟨r1,r2,r3,σ',r4,r5,r6⟩:=h
 have hlk:∀ x∈looks t.o,σ.E x=t.st.E x:=λx hx=>hag.1 x (r1 x hx)
 have hre:=F5 hlk (λl hl=>hag.2 l (r2 l hl))
 have hvi:=Aa hlk
 refine Oper.mb (Q:=Q) (Rq hV hi r3 hd (by rw[hre];exact r4) (by rw[hvi];exact r5)) (λa' w' hp=>?_) (λ_ _ _ h=>h)
 rw[hvi,r6 _ hag]at hp
 exact hp
def mvE(σ:St)(o:Oper):Option ar:=match o.op with
 |.move (.tmp t)|.assign (.tmp t)=>(match σ.E t with
  |some (.one (.hdr l n p c))=>some (.hdr l n p c)
  |some (.one (.adr l n p c))=>some (.adr l n p c)
  |_=>none)
 |_=>none
theorem Po{σ:St}{o:Oper}{e:ar}(h:mvE σ o=some e):∃ x,(o.op=.move (.tmp x)\/o.op=.assign (.tmp x))/\looks o=[x]/\σ.E x=some (.one e)/\coN e=e:=by
 unfold mvE at h
 split at h
 ·rename_i x ho
  refine⟨x,.inl ho,by unfold looks;rw[ho];rfl,?_⟩
  split at h
  ·rename_i hx;injection h with h;rw[<-h];exact⟨hx,rfl⟩
  ·rename_i hx;injection h with h;rw[<-h];exact⟨hx,rfl⟩
  ·cases h
 ·rename_i x ho
  refine⟨x,.inr ho,by unfold looks;rw[ho];rfl,?_⟩
  split at h
  ·rename_i hx;injection h with h;rw[<-h];exact⟨hx,rfl⟩
  ·rename_i hx;injection h with h;rw[<-h];exact⟨hx,rfl⟩
  ·cases h
 ·cases h
theorem ky.wh{t:Tr}{σ':St}(hw:t.wh=some σ')(hk:rB V t.st t.o some=some σ'):ky V t:=by
 intro P B σ a w Q hV hi hd hag
 have e:σ=t.st:=hag.w (by rw[hw];rfl)
 subst e
 obtain⟨F,Sg,cg,hg⟩:=hi
 refine Oper.mb (Q:=Q) (xP hV hg hd hk) (λa' w' hp=>?_) (λ_ _ _ h=>h)
 obtain⟨rH,q1,q2,_⟩:=hp
 injection q1 with q1
 unfold Tr.U
 rw[hw,<-q1];exact q2
def mkE(V:Env)(o:Oper):Option (Nat×Lab):=
 match o.op with
 |.makeMap t none=>(match o.dst with
  |some d=>nh V t λk q=>some (d,⟨0,.map k (.int q),.own .ro,[]⟩)
  |none=>none)
 |_=>none
theorem Ic{o:Oper}{d:Nat}{b:Lab}(h:mkE V o=some (d,b)):o.dst=some d/\∀ σ:St,σ.U (d*8)=false->rB V σ o some=some (σ.mk' σ.L (d*8) d b):=by
 unfold mkE at h
 split at h
 case h_2=>cases h
 rename_i t ho
 split at h
 case h_2=>cases h
 rename_i d' hd
 have hb:∀ {R:Type} (K:Ty->IntKind->Option R),nh V t K=(nh V t λk q=>some (k,q)).bind λp=>K p.1 p.2:=by
  intro R K
  unfold nh
  repeat' split
  all_goals rfl
 rw[hb]at h
 obtain⟨p,hp,h⟩:=cn.1 h
 injection h with h
 injection h with h1 h2
 subst h1
 refine⟨hd,λσ hU=>?_⟩
 unfold rB
 rw[ho,hd]
 simp only
 rw[hb,hp]
 simp only[gK,hU,cond_false]
 rw[h2]
theorem ky.mk{t:Tr}{d:Nat}{b:Lab}(h:mkE V t.o=some (d,b))(hU:t.st.U (d*8)=false)(hT:t.TR (d*8)=true)(hu:∀ σ:St,σ.mk' σ.L (d*8) d b=t.U σ):ky V t:=by
 intro P B σ a w Q hV hi hd hag
 obtain⟨h1,h2⟩:=Ic h
 have hU':σ.U (d*8)=false:=by rw[(hag.l _ hT).2];exact hU
 obtain⟨F,Sg,cg,hg⟩:=hi
 refine Oper.mb (Q:=Q) (xP hV hg hd (h2 σ hU')) (λa' w' hp=>?_) (λ_ _ _ h=>h)
 obtain⟨rH,q1,q2,_⟩:=hp
 injection q1 with q1
 rw[<-hu,<-q1];exact q2
theorem ky.mv{t:Tr}{e:ar}(h:mvE t.st t.o=some e)(hre:∀ x∈looks t.o,x∈t.re)(hU:∀ σ:St,σ.bZ t.o.dst e=t.U σ):ky V t:=by
 intro P B σ a w Q hV hi hd hag
 obtain⟨x,hx,hl,hE,hco⟩:=Po h
 have hE':σ.E x=some (.one e):=by rw[hag.1 x (hre x (by rw[hl];simp))];exact hE
 have hk:opK V σ t.o some=some (t.U σ):=by
  rw[<-hU]
  unfold opK
  rcases hx with hx|hx <;> rw[hx] <;> simp only[B3,opd,hE',hco]
 obtain⟨F,Sg,cg,hg⟩:=hi
 refine Oper.mb (Q:=Q) (B4 hV hg hd hk) (λa' w' hp=>?_) (λ_ _ _ h=>h)
 obtain⟨σ',q1,q2,_⟩:=hp
 injection q1 with q1
 rw[<-q1];exact q2
theorem F7{p p':Nat->Bool}:∀ {l:List Nat} {i:Nat},(∀ k,p' k=true->p k=true)->i∈l->p i=true->p' i=false->l.countP p' < l.countP p:=by
 intro l
 induction l with
 |nil=>intro i _ h;simp at h
 |cons x xs ih=>
  intro i hp hi h1 h2
  have hle:xs.countP p'<=xs.countP p:=List.countP_mono_left (λk _ h=>hp k h)
  rw[qZ,qZ]
  rcases az.1 hi with rfl|hi
  ·rw[h1,h2];simp;omega
  ·have:=ih hp hi h1 h2
   by_cases hx:p' x=true
   ·rw[hx,hp x hx];simp;omega
   ·have:p' x=false:=by simpa using hx
    rw[this];simp;omega
theorem LU(G:Good V ops.toList tr σ0)(hV:gf P V)(hN:nj B.N ops.toList=true){Q:Exit->Act->World->Prop}(hQ:∀ a w,Inv B (cL (λ_=>true) tr 0 σ0) a w->Q .normal a w):
 ∀ (cm:Nat) (listed:Array Bool) (a:Act) (w:World),listed.size=ops.size->(∀ (i:Nat) (t:Tr) (e:Edge),tr[i]?=some t->listed.getD i false=true->e∈t.o.after->Region.binds .any e=true->listed.getD e.on false=true)->(List.range ops.size).countP (λk=>!listed.getD k false)<=cm->
  Inv B (cL (λk=>listed.getD k false) tr 0 σ0) a w->wpAny P .any ops Q cm listed a w:=by
 have hlen:tr.length=ops.size:=by rw[G.len];simp
 have Rr:∀ i:Nat,i<ops.size->∃ t,tr[i]?=some t:=λi hi=>⟨tr[i]'(by omega),by simp[show i<tr.length by omega]⟩
 have Rs:∀ (i:Nat) (t:Tr),tr[i]?=some t->ops[i]?=some t.o:=λi t h=>by rw[<-ft];exact G.op i t h
 have HQ:∀ (i:Nat) (t:Tr),tr[i]?=some t->∀ d,t.o.dst=some d->d<B.N:=λi t h=>by
  have:∀ l:List Oper,nj B.N l=true->∀ o∈l,∀ d,o.dst=some d->d<B.N:=by
   intro l
   induction l with
   |nil=>intro _ o ho;simp at ho
   |cons x l ihl=>
    intro hl o ho d hd
    simp only[nj,ag]at hl
    rcases az.1 ho with rfl|ho
    ·rw[hd]at hl;exact gH hl.1
    ·exact ihl hl.2 o ho d hd
  exact this _ hN _ (cJ (G.op i t h))
 -- nothing ready:all done
 have done:∀ (listed:Array Bool) (a:Act) (w:World),listed.size=ops.size->Region.ready .any ops listed=[]->Inv B (cL (λk=>listed.getD k false) tr 0 σ0) a w->Q .normal a w:=by
  intro listed a w hs hr h
  have all:∀ k,k<ops.size->listed.getD k false=true:=by
   intro k
   induction k using Nat.strongRecOn with
   |_ k ih=>
    intro hk
    cases hl:listed.getD k false with
    |true=>rfl
    |false=>
     exfalso
     obtain⟨t,ht⟩:=Rr k hk
     have:k∈Region.ready .any ops listed:=by
      rw[mem_ready]
      refine⟨?_,t.o,Rs k t ht,λe he hb=>?_⟩
      ·rw[eO]at hl |-
       simp[show k<listed.size by omega]at hl |-
       exact hl
      ·have:=G.F4 k t e ht he hb
       exact ih e.on this (by omega)
     rw[hr]at this
     simp at this
  have e:cL (λk=>listed.getD k false) tr 0 σ0=cL (λ_=>true) tr 0 σ0:=rL tr 0 σ0 (λk _ hk=>all k (by omega))
  rw[e]at h
  exact hQ a w h
 intro cm
 induction cm with
 |zero=>
  intro listed a w hs hcl hc h
  have hr:Region.ready .any ops listed=[]:=by
   cases hr:Region.ready .any ops listed with
   |nil=>rfl
   |cons i is=>
    exfalso
    have hm:i∈Region.ready .any ops listed:=by rw[hr];simp
    obtain⟨h1,o,h2,_⟩:=mem_ready.1 hm
    have hi:i<ops.size:=(jB.1 h2).1
    have:0<(List.range ops.size).countP (λk=>!listed.getD k false):=by
     rw[List.countP_pos_iff]
     refine⟨i,by simpa using hi,?_⟩
     rw[eO]at h1 |-
     simp[show i<listed.size by omega]at h1 |-
     exact h1
    omega
  exact⟨hr,done listed a w hs hr h⟩
 |succ cm ih=>
  intro listed a w hs hcl hc h
  refine⟨λhr=>done listed a w hs hr h,λi hi=>?_⟩
  obtain⟨h1,o,h2,h3⟩:=mem_ready.1 hi
  have Rt:i<ops.size:=(jB.1 h2).1
  obtain⟨t,ht⟩:=Rr i Rt
  have hot:=Rs i t ht
  have hlf:listed.getD i false=false:=by
   rw[eO]at h1 |-
   simp[show i<listed.size by omega]at h1 |-
   exact h1
  -- Li is listed is closed
  have Ab:∀ (j:Nat) (s:Tr),tr[j]?=some s->(∀ e:Edge,e∈s.o.after->Region.binds .any e=true->listed.getD e.on false=true)->∀ m∈s.anc,listed.getD m false=true:=by
   intro j
   induction j using Nat.strongRecOn with
   |_ j ihj=>
    intro s hs' he m hm
    obtain⟨_,e,q1,q2,q3⟩:=G.anc j s m hs' hm
    rcases q3 with rfl|⟨s2,q4,q5⟩
    ·exact he e q1 q2
    ·exact ihj e.on (G.F4 j s e hs' q1 q2) s2 q4 (λe2 he2 hb2=>hcl e.on s2 e2 q4 (he e q1 q2) he2 hb2) m q5
  have hti:t.o=o:=by rw[hot]at h2;injection h2
  have Ru:∀ m∈t.anc,listed.getD m false=true:=Ab i t ht (λe he hb=>h3 e (hti ▸ he) hb)
  have Ry:∀ (k:Nat) (s:Tr),tr[k]?=some s->listed.getD k false=true->i∉s.anc:=λk s hk hl hm=>by
   have:=Ab k s hk (λe he hb=>hcl k s e hk hl he hb) i hm
   rw[hlf]at this;cases this
  have Tp:∀ (k:Nat) (s:Tr),0<=k->k<i->listed.getD k false=false->tr[k-0]?=some s->je s t:=λk s _ hk hl hsk=>G.apart k i s t hk hsk ht (λhm=>by rw[Ru k hm]at hl;cases hl)
  have Rz:∀ (k:Nat) (s:Tr),i<k->listed.getD k false=true->tr[k-0]?=some s->je s t:=λk s hk hl hsk=>(G.apart i k t s hk ht hsk (Ry k s hsk hl)).symm
  have hag:Ag t (cL (λk=>listed.getD k false) tr 0 σ0) t.st:=by
   rw[G.st i t ht]
   exact H9 tr 0 σ0 σ0 (aH _) (by omega) (Ag.refl _ _) hlf Tp Rz
  have B8:cL (λk=>(listed.setIfInBounds i true).getD k false) tr 0 σ0=t.U (cL (λk=>listed.getD k false) tr 0 σ0):=by
   rw[<-F3 (D:=λk=>listed.getD k false) tr 0 σ0 (aH _) (by simpa using ht) hlf (λk s h1 h2 _ h4=>Rz k s h1 h2 h4)]
   refine rL tr 0 σ0 (λk _ hk=>?_)
   by_cases e:k=i
   ·subst e
    simp[show k<listed.size by omega,cV]
   ·rw[getD_set_ne false (Ne.symm e)]
    have:Nat.beq k i=false:=by
     cases hb:Nat.beq k i
     ·rfl
     ·exact absurd (bg hb) e
    simp only[this,jI]
  have next:∀ a' w',Inv B (t.U (cL (λk=>listed.getD k false) tr 0 σ0)) a' w'->wpAny P .any ops Q cm (listed.setIfInBounds i true) a' w':=by
   intro a' w' h'
   refine ih (listed.setIfInBounds i true) a' w' (by simpa using hs) ?_ ?_ (by rw[B8];exact h')
   ·intro j s e hj hl he hb
    by_cases e':j=i
    ·subst e'
     have:s=t:=by rw[ht]at hj;injection hj with hj;exact hj.symm
     subst this
     have hlt:=G.F4 j s e ht he hb
     rw[getD_set_ne false (by omega)]
     exact h3 e (hti ▸ he) hb
    ·rw[getD_set_ne false (Ne.symm e')]at hl
     exact getD_set_true (hcl j s e hj hl he hb)
   ·have:=F7 (p:=λk=>!listed.getD k false) (p':=λk=>!(listed.setIfInBounds i true).getD k false) (l:=List.range ops.size) (i:=i) (λk hk=>by
     cases hl:listed.getD k false with
     |false=>rfl
     |true=>rw[getD_set_true hl]at hk;simp at hk) (by simpa using Rt) (by simp only[hlf];rfl) (by simp[show i<listed.size by omega])
    omega
  have hgv:=G.gv i t ht
  have hgs:uA (cL (λk=>listed.getD k false) tr 0 σ0) ops.toList t.o=some t.run:=by
   rw[Ia (σ':=t.st) (λs hs=>hag.1 s (hgv.2 s hs))];exact hgv.1
  have hw:=LS h hgs
  unfold wpOp
  rw[hot]
  simp only
  cases bY:t.run with
  |true=>
   rw[bY]at hw
   rw[if_pos hw]
   left
   exact Oper.mb (Q:=Q) (G.run i t ht bY hV h (HQ i t ht) hag) (λa' w' hp=>next a' w' hp) (λ_ _ _ h=>h)
  |false=>
   rw[bY]at hw
   rw[if_neg (by rw[hw];simp)]
   refine next _ _ ?_
   rw[<-G.skip i t ht bY]
   obtain⟨F,Sg,cg,h⟩:=h
   exact h.bZ (HQ i t ht) (e:=.cst undef) rfl
end
structure Fp where
 v:Bool
 re:List Nat
 dst:Option Nat
 ks:List Nat
 b:Bool:=false
def DK(d:Option Nat)(l:List Nat):Bool:=match d with|some d=>!gp d l|none=>true
def rM(k:Nat)(d:Option Nat):Bool:=match d with|some d=>!Nat.beq (k / 8) d|none=>true
def Ie(ks2:List Nat)(d2:Option Nat):List Nat->Bool
 |[]=>true
 |k::ks=>(!gp k ks2&&rM k d2)&&Ie ks2 d2 ks
def Ig(d1:Option Nat):List Nat->Bool
 |[]=>true
 |k::ks=>rM k d1&&Ig d1 ks
def neO(d d':Option Nat):Bool:=match d,d' with|some d,some d'=>!Nat.beq d d'|_,_=>true
def RA(f g:Fp):Bool:=DK f.dst g.re&&(DK g.dst f.re&&(neO f.dst g.dst&&((f.v&&g.v)||(Ie g.ks g.dst f.ks&&Ig f.dst g.ks))))
def xX(f g:Fp):Bool:=!(f.b||g.b)&&RA f g
def kz(fp:Fp)(an:List Nat):List (Fp×List Nat)->Nat->Bool
 |[],_=>true
 |p::ps,j=>(gp j an||xX p.1 fp)&&kz fp an ps (j+1)
def pX(i:Nat):List Edge->Bool
 |[]=>true
 |e::es=>(!Region.binds .any e||Nat.blt e.on i)&&pX i es
def DL{R:Type}(n:Nat)(k:Nat->R):R:=Nat.rec (k 0) (λm _=>k (m+1)) n
def jv{R:Type}:List Nat->(List Nat->R)->R
 |[],k=>k []
 |x::xs,k=>DL x λx=>jv xs λxs=>k (x::xs)
theorem Cp{R:Type}(n:Nat)(k:Nat->R):DL n k=k n:=by cases n <;> rfl
theorem pp{R:Type}:∀ (l:List Nat) (k:List Nat->R),jv l k=k l
 |[],_=>rfl
 |x::xs,k=>by rw[jv,Cp,pp xs]
def Ih:List Nat->List Nat->List Nat
 |[],l=>l
 |x::xs,l=>bif gp x l then Ih xs l else x::Ih xs l
theorem uB{m:Nat}:∀ {xs l:List Nat},m∈Ih xs l->m∈xs\/m∈l
 |[],l,h=>.inr h
 |x::xs,l,h=>by
  simp only[Ih]at h
  cases hb:gp x l
  ·rw[hb]at h
   simp only[cond_false,az]at h
   rcases h with h|h
   ·exact .inl (by simp[h])
   ·exact(uB h).imp (λh=>by simp[h]) id
  ·rw[hb]at h
   exact(uB h).imp (λh=>by simp[h]) id
def eL(acc:List (Fp×List Nat)):List Edge->List Nat
 |[]=>[]
 |e::es=>bif Region.binds .any e then jv (eL acc es) λr=>bif gp e.on r then r else e.on::Ih (match acc[e.on]? with|some p=>p.2|none=>[]) r else eL acc es
def uC(V:Env)(σ:St)(o:Oper)(σ':St):St:=bif isV V o then⟨oX σ.E o.dst σ'.E,σ.L,σ.U⟩else pV (fG σ o) o.dst σ σ'
def lG{R:Type}(V:Env)(ops:List Oper):List Oper->Nat->List (Fp×List Nat)->St->(St->Option R)->Option R
 |[],_,_,σ,K=>K σ
 |o::rest,i,acc,σ,K=>
  bif pX i o.after.toList then
   rF σ ops o
    (λσ1=>match mvE σ1 o with
     |some e=>jv (eL acc o.after.toList) λan=>bif kz ⟨true,cH ops o++looks o,o.dst,[],false⟩ an acc 0 then
      lG V ops rest (i+1) (acc++[(⟨true,cH ops o++looks o,o.dst,[],false⟩,an)]) (σ1.bZ o.dst e) K else none
     |none=>bif gW V.TT o.op then jv (eL acc o.after.toList) λan=>(match mkE V o with
      |some p=>bif σ1.U (p.1*8)then none else bif kz ⟨false,cH ops o,o.dst,[],false⟩ an acc 0 then
       lG V ops rest (i+1) (acc++[(⟨false,cH ops o,o.dst,[],false⟩,an)]) (σ1.mk' σ1.L (p.1*8) p.1 p.2) K else none
      |none=>bif kz ⟨false,cH ops o,o.dst,[],true⟩ an acc 0 then
       rB V σ1 o λσ'=>lG V ops rest (i+1) (acc++[(⟨false,cH ops o,o.dst,[],true⟩,an)]) σ' K else none)
     else jv (eL acc o.after.toList) λan=>jv (j6 σ1 (looks o)) λks=>bif calm V o&&kz ⟨isV V o,cH ops o++looks o,o.dst,ks,false⟩ an acc 0 then
     opD V (nq σ1 o) o λσ'=>bif mg (fG σ1 o) o.dst σ' then
      lG V ops rest (i+1) (acc++[(⟨isV V o,cH ops o++looks o,o.dst,ks,false⟩,an)]) (uC V σ1 o σ') K else none
     else none)
    (λσ1=>jv (eL acc o.after.toList) λan=>bif kz ⟨true,cH ops o,o.dst,[],false⟩ an acc 0 then
     lG V ops rest (i+1) (acc++[(⟨true,cH ops o,o.dst,[],false⟩,an)]) (σ1.bZ o.dst (.cst undef)) K else none)
  else none
section
variable {R:Type} {V:Env}
def Tr.fp(V:Env)(t:Tr):Fp:=bif t.run then(match mvE t.st t.o with|some _=>⟨true,t.re,t.o.dst,[],false⟩|none=>bif gW V.TT t.o.op then⟨false,t.re,t.o.dst,[],t.wh.isSome⟩else⟨isV V t.o,t.re,t.o.dst,j6 t.st (looks t.o),false⟩)else⟨true,t.re,t.o.dst,[],false⟩
theorem Tr.rN(t:Tr):(t.fp V).dst=t.o.dst:=by
 unfold Tr.fp;cases t.run
 ·rfl
 ·simp only[cond_true];split
  ·rfl
  ·cases gW V.TT t.o.op <;> rfl
theorem Tr.Og(t:Tr):(t.fp V).re=t.re:=by
 unfold Tr.fp;cases t.run
 ·rfl
 ·simp only[cond_true];split
  ·rfl
  ·cases gW V.TT t.o.op <;> rfl
theorem Ii{ks2:List Nat}{d2:Option Nat}{ks:List Nat}(h:Ie ks2 d2 ks=true){k:Nat}(hk:gp k ks=true):gp k ks2=false/\rM k d2=true:=by
 induction ks with
 |nil=>cases hk
 |cons x xs ih=>
  simp only[Ie,ag,bz]at h
  simp only[gp,aG]at hk
  rcases hk with hk|hk
  ·rw[bg hk];exact h.1
  ·exact ih h.2 hk
theorem Ij{d1:Option Nat}{ks:List Nat}(h:Ig d1 ks=true){k:Nat}(hk:gp k ks=true):rM k d1=true:=by
 induction ks with
 |nil=>cases hk
 |cons x xs ih=>
  simp only[Ig,ag]at h
  simp only[gp,aG]at hk
  rcases hk with hk|hk
  ·rw[bg hk];exact h.1
  ·exact ih h.2 hk
theorem DM{t:Nat}{l:List Nat}(h:t∈l):gp t l=true:=by
 induction l with
 |nil=>simp at h
 |cons x xs ih=>
  simp only[gp,aG]
  rcases az.1 h with rfl|h
  ·exact .inl (cV _)
  ·exact .inr (ih h)
theorem Ik{ks1 ks2:List Nat}{d1 d2:Option Nat}(h1:Ie ks2 d2 ks1=true)(h2:Ig d1 ks2=true)(hd:neO d1 d2=true){l:Nat}(v1:vT ks1 d1 l=true)(v2:vT ks2 d2 l=true):False:=by
 unfold vT at v1 v2
 simp only[aG]at v1 v2
 rcases v1 with v1|v1
 ·obtain⟨q1,q2⟩:=Ii h1 v1
  rcases v2 with v2|v2
  ·rw[q1]at v2;cases v2
  ·cases d2 with
   |none=>cases v2
   |some d2=>simp only[rM]at q2 v2;rw[v2]at q2;cases q2
 ·cases d1 with
  |none=>cases v1
  |some d1=>
   simp only at v1
   rcases v2 with v2|v2
   ·have q:=Ij h2 v2
    simp only[rM]at q
    rw[v1]at q;cases q
   ·cases d2 with
    |none=>cases v2
    |some d2=>
     simp only[neO]at hd v2
     have e1:=bg v1
     have e2:=bg v2
     rw[<-e1,<-e2,cV]at hd
     cases hd
structure Loc(V:Env)(t:Tr):Prop where
 t1:∀ l,t.T l=true->(t.fp V).v=false/\vT (t.fp V).ks t.o.dst l=true
 t2:∀ l,t.TR l=true->vT (t.fp V).ks t.o.dst l=true
 t3:(t.fp V).b=false->t.wh=none
theorem Il{s t:Tr}(hs:Loc V s)(ht:Loc V t)(h:xX (s.fp V) (t.fp V)=true):je s t:=by
 unfold xX RA at h
 simp only[ag,aG,bz,eP]at h
 obtain⟨⟨hb1,hb2⟩,h1,h2,h3,h4⟩:=h
 have dis:∀ l,((s.fp V).v=false\/(t.fp V).v=false)->vT (s.fp V).ks s.o.dst l=true->vT (t.fp V).ks t.o.dst l=true->False:=by
  intro l hv v1 v2
  rcases h4 with h4|h4
  ·rcases hv with hv|hv
   ·rw[hv]at h4;exact absurd h4.1 (by simp)
   ·rw[hv]at h4;exact absurd h4.2 (by simp)
  ·exact Ik h4.1 h4.2 h3 (by rw[Tr.rN];exact v1) (by rw[Tr.rN];exact v2)
 refine⟨λd hd hm=>?_,λd hd hm=>?_,λd hd hd'=>?_,λl a b=>dis l (.inl (hs.t1 l a).1) (hs.t1 l a).2 (ht.t2 l b),λl a b=>dis l (.inr (ht.t1 l a).1) (hs.t2 l b) (ht.t1 l a).2,λl a b=>dis l (.inl (hs.t1 l a).1) (hs.t1 l a).2 (ht.t1 l b).2,hs.t3 hb1,ht.t3 hb2⟩
 ·have e:(s.fp V).dst=some d:=(Tr.rN s).trans hd
  rw[e]at h1
  simp only[DK,bz]at h1
  have:gp d t.re=true:=DM hm
  rw[show(t.fp V).re=t.re from Tr.Og t]at h1
  rw[this]at h1;cases h1
 ·have e:(t.fp V).dst=some d:=(Tr.rN t).trans hd
  rw[e]at h2
  simp only[DK,bz]at h2
  have:gp d s.re=true:=DM hm
  rw[show(s.fp V).re=s.re from Tr.Og s]at h2
  rw[this]at h2;cases h2
 ·have e1:(s.fp V).dst=some d:=(Tr.rN s).trans hd
  have e2:(t.fp V).dst=some d:=(Tr.rN t).trans hd'
  rw[e1,e2]at h3
  simp[neO,cV]at h3
theorem F9{fp:Fp}{an:List Nat}:∀ {acc:List (Fp×List Nat)} {j:Nat},kz fp an acc j=true->∀ k p,acc[k]?=some p->j+k∉an->xX p.1 fp=true:=by
 intro acc
 induction acc with
 |nil=>intro j _ k p h;simp at h
 |cons q acc ih=>
  intro j h k p hk hn
  simp only[kz,ag,aG]at h
  cases k with
  |zero=>
   simp at hk
   subst hk
   rcases h.1 with h1|h1
   ·exact absurd (ur h1) hn
   ·exact h1
  |succ k=>
   simp at hk
   exact ih h.2 k p hk (by rw[show j+1+k=j+(k+1) by omega];exact hn)
theorem Ac{i:Nat}{es:List Edge}(h:pX i es=true):∀ e∈es,Region.binds .any e=true->e.on<i:=by
 induction es with
 |nil=>intro e he;simp at he
 |cons x xs ih=>
  intro e he hb
  simp only[pX,ag,aG,bz]at h
  rcases az.1 he with rfl|he
  ·rcases h.1 with h1|h1
   ·rw[hb]at h1;cases h1
   ·exact gH h1
  ·exact ih h.2 e he hb
theorem Ga{acc:List (Fp×List Nat)}{es:List Edge}{m:Nat}(h:m∈eL acc es):∃ e,e∈es/\Region.binds .any e=true/\(m=e.on\/∃ p,acc[e.on]?=some p/\m∈p.2):=by
 induction es with
 |nil=>simp[eL]at h
 |cons x xs ih=>
  simp only[eL]at h
  cases hb:Region.binds .any x
  ·rw[hb]at h
   obtain⟨e,q1,q2,q3⟩:=ih h
   exact⟨e,by simp[q1],q2,q3⟩
  ·rw[hb]at h
   simp only[cond_true,pp]at h
   have tail:m∈eL acc xs->∃ e,e∈x::xs/\Region.binds .any e=true/\(m=e.on\/∃ p,acc[e.on]?=some p/\m∈p.2):=λh=>by
    obtain⟨e,q1,q2,q3⟩:=ih h
    exact⟨e,by simp[q1],q2,q3⟩
   cases hm:gp x.on (eL acc xs)
   ·rw[hm]at h
    simp only[cond_false,az]at h
    rcases h with h|h
    ·exact⟨x,by simp,hb,.inl h⟩
    ·rcases uB h with h|h
     ·cases ha:acc[x.on]? with
      |none=>rw[ha]at h;simp at h
      |some p=>rw[ha]at h;exact⟨x,by simp,hb,.inr ⟨p,ha,h⟩⟩
     ·exact tail h
   ·rw[hm]at h;exact tail h
theorem Ad{σ:St}{ops:List Oper}{o:Oper}{Ky Kn:St->Option R}{r:R}(hk:rF σ ops o Ky Kn=some r):(uA σ ops o=some true/\Ky σ=some r)\/(uA σ ops o=some false/\Kn σ=some r):=by
 unfold rF at hk
 unfold uA
 split at hk
 ·rename_i hg;rw[hg];exact .inl ⟨rfl,hk⟩
 ·rename_i j want hg
  rw[hg]
  simp only
  cases hs:ni ops j with
  |none=>rw[hs]at hk;cases hk
  |some s=>
  rw[hs]at hk
  simp only at hk |-
  split at hk
  ·rename_i b hE
   rw[hE]
   dsimp only
   split at hk
   ·rw[oB hE]at hk
    cases want
    ·exact .inr ⟨rfl,hk⟩
    ·exact .inl ⟨rfl,hk⟩
   ·rw[oB hE]at hk
    cases want
    ·exact .inl ⟨rfl,hk⟩
    ·exact .inr ⟨rfl,hk⟩
  ·rename_i v hE
   rw[hE]
   simp only
   split at hk
   ·rename_i b
    cases b <;> cases want
    ·exact .inl ⟨rfl,hk⟩
    ·exact .inr ⟨rfl,hk⟩
    ·exact .inr ⟨rfl,hk⟩
    ·exact .inl ⟨rfl,hk⟩
   ·rename_i hnb
    refine .inr ⟨?_,hk⟩
    split
    ·rename_i b;exact absurd rfl (hnb b)
    ·rfl
  ·cases hk
end
section
variable {R:Type} {V:Env} {ops:List Oper} {σ0:St}
theorem iJ{D:Nat->Bool}:∀ (tr:List Tr) (m:Nat) (σ:St) (t:Tr),cL D (tr++[t]) m σ=bif D (m+tr.length)then t.U (cL D tr m σ)else cL D tr m σ:=by
 intro tr
 induction tr with
 |nil=>intro m σ t;simp only[bM,cL,bH,fS]
 |cons s tr ih=>
  intro m σ t
  simp only[dU,cL,aO]
  rw[ih,show m+1+tr.length=m+(tr.length+1) by omega]
theorem fL{tr:List Tr}{t:Tr}{i:Nat}{s:Tr}(h:(tr++[t])[i]?=some s):(i<tr.length/\tr[i]?=some s)\/(i=tr.length/\s=t):=by
 rcases ap i tr.length with hi|hi
 ·rw[dR hi]at h;exact .inl ⟨hi,h⟩
 ·rw[fo hi]at h
  cases hk:i-tr.length with
  |zero=>rw[hk]at h;simp at h;exact .inr ⟨by omega,h.symm⟩
  |succ n=>rw[hk]at h;simp at h
theorem Pp{tr:List Tr}{i:Nat}{s:Tr}(h:tr[i]?=some s):i<tr.length:=(bm.1 h).1
theorem Ae{tr:List Tr}{t:Tr}{i:Nat}{s:Tr}(h:tr[i]?=some s):(tr++[t])[i]?=some s:=by
 rw[dR (Pp h)];exact h
theorem cZ{tr:List Tr}{t:Tr}{i:Nat}(h:i<=tr.length):(tr++[t]).take i=tr.take i:=fO h
section
variable {R':Type} (G:R->Option R')
theorem jN(V:Env)(t:TypeId)(K:Ty->IntKind->Option R):(nh V t K).bind G=nh V t λa b=>(K a b).bind G:=by
 unfold nh
 repeat' split
 all_goals rfl
theorem wO(σ:St)(e:ar)(k v:Ty)(K:List (k.T×v.T)->Option R):(xM σ e k v K).bind G=xM σ e k v λx=>(K x).bind G:=by
 unfold xM
 split
 ·rw[eX]
  congr 1
  funext l b π c
  split <;> rfl
 ·exact bX G _ _ _
theorem rO(σ:St)(e:ar)(k v:Ty)(K:Nat->Lab->List Stp->List (k.T×v.T)->Option R):(vR σ e k v K).bind G=vR σ e k v λl b π x=>(K l b π x).bind G:=by
 unfold vR
 split
 ·rw[eX]
  congr 1
  funext l b π c
  rw[aK]
  congr 1
  split <;> rfl
 ·rfl
theorem nr(σ:St)(l:Nat)(b:Lab)(π:List Stp)(k v:Ty)(y:List (k.T×v.T))(K:St->Option R):(kG σ l b π k v y K).bind G=kG σ l b π k v y λx=>(K x).bind G:=by
 unfold kG
 split
 ·rw[oD]
 ·rfl
theorem Gb(V:Env)(σ:St)(o:Oper)(K:St->Option R):(rB V σ o K).bind G=rB V σ o λx=>(K x).bind G:=by
 unfold rB
 split
 ·split
  ·rw[jN]
   congr 1
   funext k q
   rw[aK]
   rfl
  ·rfl
 ·rw[jN]
  congr 1
  funext k q
  split
  ·split
   ·rw[wO]
    congr 1
    funext l
    rw[bX]
    congr 1
    funext y
    split <;> rfl
   ·rfl
  ·rfl
 ·rw[jN]
  congr 1
  funext k q
  split
  ·split
   ·split
    ·rw[rO]
     congr 1
     funext l b π xs
     rw[bX]
     congr 1
     funext y
     rw[bX]
     congr 1
     funext z
     rw[nr]
    ·rfl
   ·rfl
  ·rfl
 ·rw[jN]
  congr 1
  funext k q
  split
  ·split
   ·rw[rO]
    congr 1
    funext l b π xs
    rw[bX]
    congr 1
    funext y
    rw[aK,nr]
    rfl
   ·rfl
  ·rfl
 ·rw[jN]
  congr 1
  funext k q
  split
  ·split
   ·split
    ·rw[rO]
     congr 1
     funext l b π xs
     rw[bX]
     congr 1
     funext y
     rw[aK,bX]
     congr 1
     congr 1
     funext z
     rw[nr]
    ·rfl
   ·rfl
  ·rfl
 ·split
  ·rw[jN]
   congr 1
   funext k q
   split
   ·rw[wO]
    congr 1
    funext l
    rw[aK]
    rfl
   ·rfl
  ·rfl
 ·rfl
end
theorem Pq{V:Env}{σ σ':St}{o:Oper}(h:rB V σ o some=some σ'):∀ j,o.dst≠some j->σ'.E j=σ.E j:=by
 have sv:∀ (σ1:St) (e:ar),σ1.E=σ.E->∀ j,o.dst≠some j->(σ1.bZ o.dst e).E j=σ.E j:=by
  intro σ1 e h1 j hj
  unfold St.bZ
  split
  ·rename_i d hd
   exact(aS _ _ (λe=>hj (by rw[hd,e]))).trans (congrFun h1 j)
  ·exact congrFun h1 j
 have stt:∀ (σ1:St) (es:List ar),σ1.E=σ.E->∀ j,o.dst≠some j->(σ1.na o.dst es).E j=σ.E j:=by
  intro σ1 e h1 j hj
  unfold St.na
  split
  ·rename_i d hd
   exact(aS _ _ (λe=>hj (by rw[hd,e]))).trans (congrFun h1 j)
  ·exact congrFun h1 j
 have su:∀ (σ1:St),σ1.E=σ.E->∀ j,o.dst≠some j->(σ1.ki o.dst).E j=σ.E j:=by
  intro σ1 h1 j hj
  unfold St.ki
  split
  ·rename_i d hd
   exact(aS _ _ (λe=>hj (by rw[hd,e]))).trans (congrFun h1 j)
  ·exact congrFun h1 j
 have ms:∀ (l:Nat) (b:Lab) (π:List Stp) (k v:Ty) (y:List (k.T×v.T)) (K:St->Option St),kG σ l b π k v y K=some σ'->∃ L,K (σ.jY L)=some σ':=by
  intro l b π k v y K h
  unfold kG at h
  split at h
  ·rw[iT]at h
   obtain⟨x',_,h⟩:=cn.1 h
   exact⟨_,h⟩
  ·cases h
 have mt:∀ (t:TypeId) (K:Ty->IntKind->Option St),nh V t K=some σ'->∃ k q,K k q=some σ':=by
  intro t K h
  unfold nh at h
  repeat' split at h
  all_goals first
   |exact⟨_,_,h⟩
   |cases h
 have mr:∀ (e:ar) (k v:Ty) (K:List (k.T×v.T)->Option St),xM σ e k v K=some σ'->∃ x,K x=some σ':=by
  intro e k v K h
  unfold xM at h
  split at h
  ·obtain⟨l,b,π,c,h⟩:=xW h
   split at h
   ·exact⟨_,h⟩
   ·cases h
  ·obtain⟨x,h⟩:=mZ h
   exact⟨x,h⟩
 have mw:∀ (e:ar) (k v:Ty) (K:Nat->Lab->List Stp->List (k.T×v.T)->Option St),vR σ e k v K=some σ'->∃ l b π x,K l b π x=some σ':=by
  intro e k v K h
  unfold vR at h
  split at h
  ·obtain⟨l,b,π,c,h⟩:=xW h
   simp only[dq]at h
   split at h
   ·split at h
    ·exact⟨_,_,_,_,h⟩
    ·cases h
   ·cases h
  ·cases h
 unfold rB at h
 split at h
 ·split at h
  ·rename_i d hd
   obtain⟨k,q,h⟩:=mt _ _ h
   simp only[dq]at h
   split at h
   ·cases h
   ·injection h with h
    intro j hj
    rw[<-h]
    exact aS _ _ (λe=>hj (by rw[hd,e]))
  ·cases h
 ·obtain⟨k,q,h⟩:=mt _ _ h
  split at h
  case h_2=>cases h
  split at h
  case h_2=>cases h
  obtain⟨l,h⟩:=mr _ _ _ _ h
  obtain⟨y,h⟩:=mZ h
  split at h
  ·injection h with h;rw[<-h];exact sv σ _ rfl
  ·injection h with h;rw[<-h];exact stt σ _ rfl
 ·obtain⟨k,q,h⟩:=mt _ _ h
  split at h
  case h_2=>cases h
  split at h
  case h_2=>cases h
  split at h
  case h_2=>cases h
  obtain⟨l,b,π,xs,h⟩:=mw _ _ _ _ h
  obtain⟨y,h⟩:=mZ h
  obtain⟨z,h⟩:=mZ h
  obtain⟨L,h⟩:=ms _ _ _ _ _ _ _ h
  injection h with h;rw[<-h];exact su _ rfl
 ·obtain⟨k,q,h⟩:=mt _ _ h
  split at h
  case h_2=>cases h
  split at h
  case h_2=>cases h
  obtain⟨l,b,π,xs,h⟩:=mw _ _ _ _ h
  obtain⟨y,h⟩:=mZ h
  simp only[dq]at h
  split at h
  case isFalse=>cases h
  obtain⟨L,h⟩:=ms _ _ _ _ _ _ _ h
  injection h with h;rw[<-h];exact stt _ _ rfl
 ·obtain⟨k,q,h⟩:=mt _ _ h
  split at h
  case h_2=>cases h
  split at h
  case h_2=>cases h
  split at h
  case h_2=>cases h
  obtain⟨l,b,π,xs,h⟩:=mw _ _ _ _ h
  obtain⟨s,h⟩:=mZ h
  simp only[dq]at h
  split at h
  case isFalse=>cases h
  obtain⟨z,h⟩:=mZ h
  obtain⟨L,h⟩:=ms _ _ _ _ _ _ _ h
  injection h with h;rw[<-h];exact su _ rfl
 ·split at h
  case h_2=>cases h
  obtain⟨k,q,h⟩:=mt _ _ h
  split at h
  case h_2=>cases h
  obtain⟨l,h⟩:=mr _ _ _ _ h
  simp only[dq]at h
  split at h
  case isFalse=>cases h
  injection h with h;rw[<-h];exact sv σ _ rfl
 ·cases h
theorem GoodP.snoc{tr:List Tr}(G:GoodP V ops tr σ0){t:Tr}(h1:ops[tr.length]?=some t.o)(h2:t.st=cL (λ_=>true) tr 0 σ0)(h3:uA t.st ops t.o=some t.run/\∀ s∈cH ops t.o,s∈t.re)
 (h4:t.run=true->ky V t)
 (h5:t.run=false->∀ σ,σ.bZ t.o.dst (.cst undef)=t.U σ) (h6:∀ e,e∈t.o.after->Region.binds .any e=true->e.on<tr.length)
 (h7:∀ m,m∈t.anc->∃ e:Edge,e∈t.o.after/\Region.binds .any e=true/\(m=e.on\/∃ s:Tr,tr[e.on]?=some s/\m∈s.anc))
 (h8:∀ i s,tr[i]?=some s->i∉t.anc->je s t) (h9:∀ σ',t.wh=some σ'->∀ j,t.o.dst≠some j->σ'.E j=t.st.E j):GoodP V ops (tr++[t]) σ0 where
 op:=λi s hs=>by
  rcases fL hs with⟨_,hs⟩|⟨rfl,rfl⟩
  ·exact G.op i s hs
  ·exact h1
 st:=λi s hs=>by
  rcases fL hs with⟨hi,hs⟩|⟨rfl,rfl⟩
  ·rw[cZ (by omega)];exact G.st i s hs
  ·rw[cZ (aq _),cK];exact h2
 gv:=λi s hs=>by
  rcases fL hs with⟨_,hs⟩|⟨rfl,rfl⟩
  ·exact G.gv i s hs
  ·exact h3
 run:=λi s hs=>by
  rcases fL hs with⟨_,hs⟩|⟨rfl,rfl⟩
  ·exact G.run i s hs
  ·exact h4
 skip:=λi s hs=>by
  rcases fL hs with⟨_,hs⟩|⟨rfl,rfl⟩
  ·exact G.skip i s hs
  ·exact h5
 F4:=λi s e hs he hb=>by
  rcases fL hs with⟨_,hs⟩|⟨rfl,rfl⟩
  ·exact G.F4 i s e hs he hb
  ·exact h6 e he hb
 anc:=λi s m hs hm=>by
  rcases fL hs with⟨_,hs⟩|⟨rfl,rfl⟩
  ·obtain⟨q1,e,q2,q3,q4⟩:=G.anc i s m hs hm
   refine⟨q1,e,q2,q3,q4.imp id ?_⟩
   rintro⟨s2,q5,q6⟩
   exact⟨s2,Ae q5,q6⟩
  ·obtain⟨e,q2,q3,q4⟩:=h7 m hm
   have hlt:=h6 e q2 q3
   refine⟨?_,e,q2,q3,q4.imp id ?_⟩
   ·rcases q4 with rfl|⟨s2,q5,q6⟩
    ·exact hlt
    ·have:=(G.anc _ s2 m q5 q6).1;omega
   ·rintro⟨s2,q5,q6⟩
    exact⟨s2,Ae q5,q6⟩
 wE:=λi s σ' hs hw=>by
  rcases fL hs with⟨_,hs⟩|⟨rfl,rfl⟩
  ·exact G.wE i s σ' hs hw
  ·exact h9 σ' hw
 apart:=λi j s u hij hs hu hn=>by
  rcases fL hu with⟨hj,hu⟩|⟨rfl,rfl⟩
  ·rcases fL hs with⟨_,hs⟩|⟨rfl,rfl⟩
   ·exact G.apart i j s u hij hs hu hn
   ·omega
  ·rcases fL hs with⟨_,hs⟩|⟨e,rfl⟩
   ·exact h8 i s hs hn
   ·omega
theorem Im{σ:St}{dst:Option Nat}{e:ar}:σ.bZ dst e=⟨match dst with|some d=>upd σ.E d (some (.one e))|none=>σ.E,σ.L,σ.U⟩:=by
 cases dst <;> rfl
theorem Cq{K:St->Option R}{r:R}:∀ (rest:List Oper) (i:Nat) (acc:List (Fp×List Nat)) (σ:St) (tr0:List Tr),lG V ops rest i acc σ K=some r->ops.drop i=rest->tr0.length=i->acc=tr0.map (λt=>((t.fp V),t.anc))->σ=cL (λ_=>true) tr0 0 σ0->GoodP V ops tr0 σ0->(∀ t∈tr0,Loc V t)->
 ∃ tr,Good V ops tr σ0/\K (cL (λ_=>true) tr 0 σ0)=some r:=by
 intro rest
 induction rest with
 |nil=>
  intro i acc σ tr0 hk hd hl ha hσ G _
  subst hσ
  have hle:ops.length<=i:=by
   have:=congrArg List.length hd
   simp at this;omega
  have hge:i<=ops.length:=by
   rcases dz tr0.length with h0|h0
   ·omega
   ·have⟨t,ht⟩:∃ t,tr0[tr0.length-1]?=some t:=⟨tr0[tr0.length-1]'(by omega),by simp[show tr0.length-1<tr0.length by omega]⟩
    have:=(bm.1 (G.op _ t ht)).1
    omega
  exact⟨tr0,⟨G,by omega⟩,hk⟩
 |cons o rest ih=>
  intro i acc σ tr0 hk hd hl ha hσ G z8
  have hoi:ops[i]?=some o:=by
   have:=congrArg (·[0]?) hd
   simpa using this
  have hd':ops.drop (i+1)=rest:=by rw[<-List.tail_drop,hd];rfl
  simp only[lG,pp]at hk
  cases hed:pX i o.after.toList
  ·rw[hed]at hk;cases hk
  rw[hed]at hk
  simp only[cond_true]at hk
  have Af:∀ e,e∈o.after->Region.binds .any e=true->e.on<tr0.length:=λe he hb=>by rw[hl];exact Ac hed e (by simpa using he) hb
  have Ab:∀ m,m∈eL acc o.after.toList->∃ e:Edge,e∈o.after/\Region.binds .any e=true/\(m=e.on\/∃ s:Tr,tr0[e.on]?=some s/\m∈s.anc):=λm hm=>by
   obtain⟨e,q1,q2,q3⟩:=Ga hm
   refine⟨e,by simpa using q1,q2,q3.imp id ?_⟩
   rintro⟨p,q4,q5⟩
   rw[ha,bS]at q4
   obtain⟨s,q6,rfl⟩:=nU.1 q4
   exact⟨s,q6,q5⟩
  have hap:∀ (t:Tr),Loc V t->t.anc=eL acc o.after.toList->kz (t.fp V) (eL acc o.after.toList) acc 0=true->∀ k s,tr0[k]?=some s->k∉t.anc->je s t:=λt ht hta hok k s hs hn=>by
   refine Il (z8 s (cJ hs)) ht (F9 hok k ((s.fp V),s.anc) (by rw[ha,bS,hs];rfl) (by rw[eE,<-hta];exact hn))
  rcases Ad hk with⟨hg,hk⟩|⟨hg,hk⟩
  ·cases hmv:mvE σ o with
   |some e0=>
   rw[hmv]at hk
   simp only at hk
   cases hc:kz ⟨true,cH ops o++looks o,o.dst,[],false⟩ (eL acc o.after.toList) acc 0
   ·rw[hc]at hk;cases hk
   rw[hc]at hk
   simp only[cond_true]at hk
   let t:Tr:={o:=o,st:=σ,run:=true,e:=some (.one e0),T:=λ_=>false,L':=λ_=>none,U':=λ_=>false,re:=cH ops o++looks o,TR:=λ_=>false,anc:=eL acc o.after.toList}
   have hfp:(t.fp V)=⟨true,cH ops o++looks o,o.dst,[],false⟩:=by simp[t,Tr.fp,hmv]
   have hlt:Loc V t:=⟨λl hl=>(by cases hl),λl hl=>(by cases hl),λ_=>rfl⟩
   have hU:∀ σ1:St,σ1.bZ o.dst e0=t.U σ1:=λσ1=>Im
   refine ih (i+1) _ _ (tr0++[t]) hk hd' (by simp[hl]) (by rw[ha,eD,<-hfp,<-ha];rfl) (by rw[iJ,<-hσ];exact hU σ) ?_ (λs hs=>by
    rcases av.1 hs with hs|hs
    ·exact z8 s hs
    ·simp at hs;rw[hs];exact hlt)
   exact G.snoc (by rw[hl];exact hoi) hσ ⟨hg,λs hs=>av.2 (.inl hs)⟩ (λ_=>ky.mv (t:=t) hmv (λx hx=>av.2 (.inr hx)) hU) (λh=>(by cases h)) Af Ab (hap t hlt rfl (by rw[hfp];exact hc)) (λ_ h=>by cases h)
   |none=>
   rw[hmv]at hk
   simp only at hk
   cases hmo:gW V.TT o.op
   case true=>
    rw[hmo]at hk
    simp only[cond_true]at hk
    cases hmk:mkE V o with
    |some p=>
     obtain⟨d,b⟩:=p
     rw[hmk]at hk
     simp only at hk
     cases hU:σ.U (d*8)
     case true=>rw[hU]at hk;cases hk
     rw[hU]at hk
     simp only[cond_false]at hk
     cases hc:kz ⟨false,cH ops o,o.dst,[],false⟩ (eL acc o.after.toList) acc 0
     ·rw[hc]at hk;cases hk
     rw[hc]at hk
     simp only[cond_true]at hk
     obtain⟨hd0,_⟩:=Ic hmk
     let t:Tr:={o:=o,st:=σ,run:=true,e:=some (.one (.hdr (d*8) b.v [] ⟨b.t,b.x⟩)),T:=λl=>Nat.beq l (d*8),L':=λ_=>some b,U':=λ_=>true,re:=cH ops o,TR:=λl=>Nat.beq l (d*8),anc:=eL acc o.after.toList}
     have hfp:(t.fp V)=⟨false,cH ops o,o.dst,[],false⟩:=by simp[t,Tr.fp,hmv,hmo]
     have RB:∀ l,Nat.beq l (d*8)=true->vT [] o.dst l=true:=by
      intro l hl
      rw[bg hl,hd0]
      simp[vT,gp]
     have hlt:Loc V t:=⟨λl hl=>by rw[hfp];exact⟨rfl,RB l hl⟩,λl hl=>by rw[hfp];exact RB l hl,λ_=>rfl⟩
     have hUU:∀ σ1:St,σ1.mk' σ1.L (d*8) d b=t.U σ1:=by
      intro σ1
      have hU1:(λj=>Nat.beq j (d*8)||σ1.U j)=kj (λl=>Nat.beq l (d*8)) (λ_=>true) σ1.U:=by
       funext j
       show _=bif Nat.beq j (d*8)then true else σ1.U j
       cases Nat.beq j (d*8) <;> rfl
      show St.mk _ _ _=St.mk _ _ _
      rw[hU1]
      simp only[t,hd0]
      rfl
     refine ih (i+1) _ _ (tr0++[t]) hk hd' (by simp[hl]) (by rw[ha,eD,<-hfp,<-ha];rfl) (by rw[iJ,<-hσ];exact hUU σ) ?_ (λs hs=>by
      rcases av.1 hs with hs|hs
      ·exact z8 s hs
      ·simp at hs;rw[hs];exact hlt)
     exact G.snoc (by rw[hl];exact hoi) hσ ⟨hg,λs hs=>hs⟩ (λ_=>ky.mk (t:=t) hmk hU (cV _) hUU) (λh=>(by cases h)) Af Ab (hap t hlt rfl (by rw[hfp];exact hc)) (λ_ h=>by cases h)
    |none=>
     rw[hmk]at hk
     simp only at hk
     cases hc:kz ⟨false,cH ops o,o.dst,[],true⟩ (eL acc o.after.toList) acc 0
     ·rw[hc]at hk;cases hk
     rw[hc]at hk
     simp only[cond_true]at hk
     have hb:=Gb (λσ'=>lG V ops rest (i+1) (acc++[(⟨false,cH ops o,o.dst,[],true⟩,eL acc o.after.toList)]) σ' K) V σ o some
     rw[show(rB V σ o λx=>(some x).bind λσ'=>lG V ops rest (i+1) (acc++[(⟨false,cH ops o,o.dst,[],true⟩,eL acc o.after.toList)]) σ' K)=some r from hk]at hb
     obtain⟨σ',hop,hk⟩:=cn.1 hb
     let t:Tr:={o:=o,st:=σ,run:=true,e:=none,T:=λ_=>false,L':=λ_=>none,U':=λ_=>false,re:=cH ops o,TR:=λ_=>false,anc:=eL acc o.after.toList,wh:=some σ'}
     have hfp:(t.fp V)=⟨false,cH ops o,o.dst,[],true⟩:=by simp[t,Tr.fp,hmv,hmo]
     have hlt:Loc V t:=⟨λl hl=>(by cases hl),λl hl=>(by cases hl),λh=>by rw[hfp]at h;cases h⟩
     refine ih (i+1) _ _ (tr0++[t]) hk hd' (by simp[hl]) (by rw[ha,eD,<-hfp,<-ha];rfl) (by rw[iJ];rfl) ?_ (λs hs=>by
      rcases av.1 hs with hs|hs
      ·exact z8 s hs
      ·simp at hs;rw[hs];exact hlt)
     exact G.snoc (by rw[hl];exact hoi) hσ ⟨hg,λs hs=>hs⟩ (λ_=>ky.wh (t:=t) rfl hop) (λh=>(by cases h)) Af Ab (hap t hlt rfl (by rw[hfp];exact hc)) (λσ2 h=>by injection h with h;rw[<-h];exact Pq hop)
   rw[hmo]at hk
   simp only[cond_false]at hk
   cases hc:calm V o&&kz ⟨isV V o,cH ops o++looks o,o.dst,j6 σ (looks o),false⟩ (eL acc o.after.toList) acc 0
   ·rw[hc]at hk;cases hk
   rw[hc]at hk
   simp only[cond_true]at hk
   simp only[ag]at hc
   have hb:=zY (λσ'=>bif mg (fG σ o) o.dst σ' then lG V ops rest (i+1) (acc++[(⟨isV V o,cH ops o++looks o,o.dst,j6 σ (looks o),false⟩,eL acc o.after.toList)]) (uC V σ o σ') K else none) V (nq σ o) o some
   rw[show(opD V (nq σ o) o λe=>(some e).bind λσ'=>bif mg (fG σ o) o.dst σ' then lG V ops rest (i+1) (acc++[(⟨isV V o,cH ops o++looks o,o.dst,j6 σ (looks o),false⟩,eL acc o.after.toList)]) (uC V σ o σ') K else none)=some r from hk]at hb
   obtain⟨σ',hop,hk⟩:=cn.1 hb
   cases hin:mg (fG σ o) o.dst σ'
   ·rw[hin]at hk;cases hk
   rw[hin]at hk
   simp only[cond_true]at hk
   let t:Tr:={o:=o,st:=σ,run:=true,e:=match o.dst with|some d=>σ'.E d|none=>none,T:=λl=>bif isV V o then false else fG σ o l,L':=σ'.L,U':=σ'.U,re:=cH ops o++looks o,TR:=fG σ o,anc:=eL acc o.after.toList}
   have hfp:(t.fp V)=⟨isV V o,cH ops o++looks o,o.dst,j6 σ (looks o),false⟩:=by simp[t,Tr.fp,hmv,hmo]
   have hlt:Loc V t:=by
    refine⟨λl hl=>?_,λl hl=>by rw[hfp];exact hl,λ_=>rfl⟩
    rw[hfp]
    simp only[t]at hl
    cases hv:isV V o
    ·rw[hv]at hl;exact⟨rfl,hl⟩
    ·rw[hv]at hl;cases hl
   have hU:∀ σ1,Ag t σ1 σ->pV (fG σ o) o.dst σ1 σ'=t.U σ1:=by
    intro σ1 hag
    have hE:oX σ1.E o.dst σ'.E=match o.dst with|some d=>upd σ1.E d (match o.dst with|some d=>σ'.E d|none=>none)|none=>σ1.E:=by
     unfold oX
     cases o.dst <;> rfl
    unfold pV Tr.U
    simp only[t]
    cases hv:isV V o
    ·simp only[cond_false]
     rw[hE]
     try rfl
    ·simp only[cond_true]
     obtain⟨he1,he2⟩:=LR hv hop
     have e1:σ'.L=jk σ.L (fG σ o):=he1
     have e2:σ'.U=jl σ.U (fG σ o):=he2
     have f1:lE (fG σ o) σ'.L σ1.L=lE (λ_=>false) σ'.L σ1.L:=by
      funext l
      unfold lE
      cases hvl:fG σ o l
      ·rfl
      ·rw[e1];simp only[jk,hvl,cond_true,cond_false];exact(hag.2 l hvl).1.symm
     have f2:kj (fG σ o) σ'.U σ1.U=kj (λ_=>false) σ'.U σ1.U:=by
      funext l
      unfold kj
      cases hvl:fG σ o l
      ·rfl
      ·rw[e2];simp only[jl,hvl,cond_true,cond_false];exact(hag.2 l hvl).2.symm
     rw[hE,f1,f2]
     try rfl
   have wP:uC V σ o σ'=t.U σ:=by
    unfold uC
    cases hv:isV V o
    ·exact hU σ (Ag.refl _ _)
    ·simp only[cond_true,Tr.U,t,hv]
     unfold oX
     cases o.dst <;> rfl
   refine ih (i+1) _ _ (tr0++[t]) hk hd' (by simp[hl]) (by rw[ha,eD,<-hfp,<-ha];rfl) (by rw[iJ,<-hσ];exact wP) ?_ (λs hs=>by
    rcases av.1 hs with hs|hs
    ·exact z8 s hs
    ·simp at hs;rw[hs];exact hlt)
   exact G.snoc (by rw[hl];exact hoi) hσ ⟨hg,λs hs=>av.2 (.inl hs)⟩ (λ_=>ky.of (t:=t) ⟨λx hx=>av.2 (.inr hx),λl hl=>hl,hc.1,σ',hop,hin,hU⟩) (λh=>(by cases h)) Af Ab (hap t hlt rfl (by rw[hfp];exact hc.2)) (λ_ h=>by cases h)
  ·cases hc:kz ⟨true,cH ops o,o.dst,[],false⟩ (eL acc o.after.toList) acc 0
   ·rw[hc]at hk;cases hk
   rw[hc]at hk
   simp only[cond_true]at hk
   let t:Tr:={o:=o,st:=σ,run:=false,e:=some (.one (.cst undef)),T:=λ_=>false,L':=λ_=>none,U':=λ_=>false,re:=cH ops o,TR:=λ_=>false,anc:=eL acc o.after.toList}
   have hfp:(t.fp V)=⟨true,cH ops o,o.dst,[],false⟩:=by simp[t,Tr.fp]
   have hlt:Loc V t:=⟨λl hl=>(by cases hl),λl hl=>(by cases hl),λ_=>rfl⟩
   have hU:∀ σ1:St,σ1.bZ o.dst (.cst undef)=t.U σ1:=λσ1=>Im
   refine ih (i+1) _ _ (tr0++[t]) hk hd' (by simp[hl]) (by rw[ha,eD,<-hfp,<-ha];rfl) (by rw[iJ,<-hσ];exact hU σ) ?_ (λs hs=>by
    rcases av.1 hs with hs|hs
    ·exact z8 s hs
    ·simp at hs;rw[hs];exact hlt)
   exact G.snoc (by rw[hl];exact hoi) hσ ⟨hg,λs hs=>hs⟩ (λh=>(by cases h)) (λ_=>hU) Af Ab (hap t hlt rfl (by rw[hfp];exact hc)) (λ_ h=>by cases h)
end
inductive Alt where
 |leaf (perm:List Nat)
 |split (i j:Nat) (a b:Alt)
def Lin(E:Nat->Nat->Prop)(n:Nat)(D:Nat->Prop):List Nat->Prop
 |[]=>∀ k,k<n->D k
 |i::r=>i<n/\¬D i/\(∀ m,m<n->E m i->D m)/\Lin E n (λk=>D k\/k=i) r
section
variable {E E':Nat->Nat->Prop} {n:Nat}
theorem Lin.congr:∀ {r:List Nat} {D D':Nat->Prop},(∀ k,k<n->(D k↔D' k))->Lin E n D r->Lin E n D' r:=by
 intro r
 induction r with
 |nil=>intro D D' h hl k hk;exact(h k hk).1 (hl k hk)
 |cons i r ih=>
  intro D D' h hl
  obtain⟨h1,h2,h3,h4⟩:=hl
  exact⟨h1,λhd=>h2 ((h i h1).2 hd),λm hm he=>(h m hm).1 (h3 m hm he),ih (λk hk=>or_congr (h k hk) jK) h4⟩
theorem Lin.add{i j:Nat}:∀ {r:List Nat} {D:Nat->Prop},D i->Lin E n D r->Lin (λm k=>E m k\/(m=i/\k=j)) n D r:=by
 intro r
 induction r with
 |nil=>intro D _ h;exact h
 |cons x r ih=>
  intro D hD h
  obtain⟨h1,h2,h3,h4⟩:=h
  exact⟨h1,h2,λm hm he=>he.elim (h3 m hm) (λe=>e.1 ▸ hD),ih (.inl hD) h4⟩
theorem Lin.split{i j:Nat}(hij:i≠j)(hi:i<n)(hj:j<n):∀ {r:List Nat} {D:Nat->Prop},¬D i->¬D j->Lin E n D r->Lin (λm k=>E m k\/(m=i/\k=j)) n D r\/Lin (λm k=>E m k\/(m=j/\k=i)) n D r:=by
 intro r
 induction r with
 |nil=>intro D h1 _ h;exact absurd (h i hi) h1
 |cons x r ih=>
  intro D hi' hj' h
  obtain⟨h1,h2,h3,h4⟩:=h
  by_cases ei:x=i
  ·subst ei
   exact .inl ⟨h1,h2,λm hm he=>he.elim (h3 m hm) (λe=>absurd e.2 hij),Lin.add (.inr rfl) h4⟩
  ·by_cases ej:x=j
   ·subst ej
    exact .inr ⟨h1,h2,λm hm he=>he.elim (h3 m hm) (λe=>absurd e.2 (Ne.symm hij)),Lin.add (.inr rfl) h4⟩
   ·rcases ih (D:=λk=>D k\/k=x) (λh=>h.elim hi' (λe=>ei e.symm)) (λh=>h.elim hj' (λe=>ej e.symm)) h4 with h4|h4
    ·exact .inl ⟨h1,h2,λm hm he=>he.elim (h3 m hm) (λe=>absurd e.2 ej),h4⟩
    ·exact .inr ⟨h1,h2,λm hm he=>he.elim (h3 m hm) (λe=>absurd e.2 ei),h4⟩
theorem Lin.mono(hE:∀ m k,E' m k->E m k):∀ {r:List Nat} {D:Nat->Prop},Lin E n D r->Lin E' n D r:=by
 intro r
 induction r with
 |nil=>intro D h;exact h
 |cons x r ih=>intro D h;exact⟨h.1,h.2.1,λm hm he=>h.2.2.1 m hm (hE _ _ he),ih h.2.2.2⟩
theorem Lin.map{π inv:Nat->Nat}(hπ:∀ k,k<n->π k<n)(hinv:∀ k,k<n->inv k<n)(hl:∀ k,k<n->π (inv k)=k)(hr:∀ k,k<n->inv (π k)=k):∀ {r:List Nat} {D:Nat->Prop},Lin E n D r->Lin (λm k=>E (π m) (π k)) n (λk=>D (π k)) (r.map inv):=by
 intro r
 induction r with
 |nil=>intro D h k hk;exact h _ (hπ k hk)
 |cons x r ih=>
  intro D h
  obtain⟨h1,h2,h3,h4⟩:=h
  refine⟨hinv x h1,by show ¬D (π (inv x));rw[hl x h1];exact h2,λm hm he=>h3 _ (hπ m hm) (by have he:E (π m) (π (inv x)):=he;rw[hl x h1]at he;exact he),?_⟩
  refine(ih h4).congr (λk hk=>or_congr jK ⟨λe=>by rw[<-e,hr k hk],λe=>by rw[e,hl x h1]⟩)
end
section
variable {P:Program} {ops VH:Array Oper} {Q:Exit->Act->World->Prop}
end
section
variable {P:Program} {ops:Array Oper}
end
section
variable {P:Program} {B:dL} {V:Env} {σ:St} {a:Act} {w:World} {R:Type}
theorem Pr{V:Env}{ops:List Oper}{tr:List Tr}{σ:St}(G:GoodP V ops tr σ){j:Nat}(h:∀ t∈tr,t.o.dst≠some j):∀ n,n<=tr.length->(cL (λ_=>true) (tr.take n) 0 σ).E j=σ.E j:=by
 intro n
 induction n with
 |zero=>intro _;rfl
 |succ n ih=>
  intro hn
  have hg:tr[n]?=some tr[n]:=ah hn
  have hst:=G.st n _ hg
  have hw:=G.wE n tr[n]
  have hm:=h _ (bo hn)
  rw[jF,hg]
  generalize tr[n]=t at *
  simp only[Option.toList]
  rw[iJ,<-hst]
  simp only[cond_true]
  rw[<-hst]at ih
  rw[<-ih (by omega)]
  cases hw':t.wh with
  |some σ'=>simp only[Tr.U,hw'];exact hw σ' hg hw' j hm
  |none=>
   simp only[Tr.U,hw']
   cases hd:t.o.dst with
   |none=>rfl
   |some d=>exact aS _ _ (λe=>hm (by rw[hd,e]))
theorem Gc{ops:List Oper}{j:Nat}(h:lz ops j=false):∀ o∈ops,o.dst≠some j:=by
 induction ops with
 |nil=>intro o ho;simp at ho
 |cons x xs ih=>
  simp only[lz,eP]at h
  intro o ho
  rcases az.1 ho with rfl|ho
  ·intro e
   rw[e]at h
   simp[cV]at h
  ·exact ih h.2 o ho
theorem Cr:∀ (tr:List Tr) (m:Nat) (σ:St),cL (λ_=>false) tr m σ=σ:=by
 intro tr
 induction tr with
 |nil=>intro m σ;rfl
 |cons t tr ih=>intro m σ;simp only[cL,cond_false];exact ih _ _
theorem Io(hV:gf P V){ops:Array Oper}(hN:nj B.N ops.toList=true){K:St->Option R}{r:R}(hk:lG V ops.toList ops.toList 0 [] σ K=some r)(h:Inv B σ a w){Q:Exit->Act->World->Prop}(hQ:∀ σ' a' w',K σ'=some r->Inv B σ' a' w'->ES σ σ' (lz ops.toList)->Q .normal a' w'):
 wpAny P .any ops Q ops.size (Array.replicate ops.size false) a w:=by
 obtain⟨tr,G,hK⟩:=Cq (σ0:=σ) ops.toList 0 [] σ [] hk rfl rfl rfl rfl
  {op:=λi t h=>(by simp at h),st:=λi t h=>(by simp at h),gv:=λi t h=>(by simp at h),run:=λi t h=>(by simp at h),skip:=λi t h=>(by simp at h),F4:=λi t e h=>(by simp at h),anc:=λi t m h=>(by simp at h),apart:=λi j s t _ h=>(by simp at h),wE:=λi t σ' h=>(by simp at h)} (λt ht=>(by simp at ht))
 have hES:ES σ (cL (λ_=>true) tr 0 σ) (lz ops.toList):=by
  intro j hj
  refine .inl ((congrArg (λl=>(cL (λ_=>true) l 0 σ).E j) (cK (l:=tr)).symm).trans (Pr G.toGoodP (λt ht=>?_) tr.length (aq _)))
  obtain⟨i,hi⟩:=kQ.1 ht
  exact Gc hj t.o (cJ (G.op i t hi))
 refine LU G hV hN (B:=B) (λa' w' h'=>hQ _ a' w' hK h' hES) ops.size _ a _ (by simp) (λi t e _ hl=>?_) ?_ ?_
 ·simp[eO,Array.getElem?_replicate]at hl
  split at hl <;> simp at hl
 ·exact bF List.countP_le_length (by simp)
 ·rw[show cL (λk=>(Array.replicate ops.size false).getD k false) tr 0 σ=σ by
   refine(rL tr 0 σ (D':=λ_=>false) (λk _ _=>?_)).trans (Cr tr 0 σ)
   simp[eO,Array.getElem?_replicate]
   split <;> rfl]
  exact h
theorem Ip(h:Inv B σ a w):Inv B σ a {w with drawn:=w.drawn+1}:=by
 obtain⟨F,Sg,cg,h⟩:=h
 exact⟨F,Sg,cg,h.world rfl rfl rfl (aq _) (λ_ _=>rfl)⟩
end
def wpN(P:Program)(c:Code)(Q:Exit->Act->World->Prop)(a:Act)(w:World):Prop:=
 ∀ (b:Frame) (k:List Item) (cs:List Frame),b.kind=.normal->∃ e a' w',Q e a' w'/\Arrives P (lone (b.at a (.code c::k)) cs w) b k cs e a' w'
section
variable {P:Program} {Q:Exit->Act->World->Prop} {a:Act} {w:World}
theorem uD{c:Code}(h:c.wp P Q a w):wpN P c Q a w:=λb k cs _=>h b k cs
theorem gY{c:Code}{Q':Exit->Act->World->Prop}(h:wpN P c Q a w)(hq:∀ e a w,Q e a w->Q' e a w):wpN P c Q' a w:=by
 intro b k cs hb
 obtain⟨e,a',w',q,r⟩:=h b k cs hb
 exact⟨e,a',w',hq e a' w' q,r⟩
theorem LV{x y:Code}(h:wpN P x (Exit.then (wpN P y Q) Q) a w):wpN P (.seq x y) Q a w:=by
 intro b k cs hb
 obtain⟨e,a1,w1,hq,har⟩:=h b (.code y::k) cs hb
 by_cases he:e=.normal
 ·subst he
  obtain⟨e2,a2,w2,hq2,Ps⟩:=hq b k cs hb
  exact⟨e2,a2,w2,hq2,.of_steps (.head step_seq har) Ps⟩
 ·refine⟨e,a1,w1,?_,.of_steps (.one step_seq) (.pass (x:=.code y) rfl (λ_ _=>.inl he) har)⟩
  cases e <;> first|exact absurd rfl he|exact hq
theorem Iq{c:Operand}{x y:Code}{t:Bool}(hc:a.eval c=.bool t)(h:wpN P (if t then x else y) Q a w):wpN P (.cond c x y) Q a w:=by
 intro b k cs hb
 obtain⟨e,a1,w1,hq,har⟩:=h b k cs hb
 exact⟨e,a1,w1,hq,.of_steps (.one (step_cond hc)) har⟩
theorem Gd{id:Nat}{c:Code}(h:wpN P c (Exit.inBlock id Q) a w):wpN P (.block id c) Q a w:=by
 intro b k cs hb
 obtain⟨e,a1,w1,hq,har⟩:=h b (.inBlock id::k) cs hb
 cases e with
 |normal=>exact⟨.normal,a1,w1,hq,.head step_block (Steps.trans har (.one step_inBlock))⟩
 |exit j=>
  by_cases hj:j=id
  ·have hq:Q .normal a1 w1:=by simpa [Exit.inBlock,hj]using hq
   exact⟨.normal,a1,w1,hq,.head step_block (har k (by simp[exitTo,hj]))⟩
  ·have hq:Q (.exit j) a1 w1:=by simpa [Exit.inBlock,hj]using hq
   have hn:(id == j)=false:=by simpa using λe:id=j=>hj e.symm
   exact⟨.exit j,a1,w1,hq,λk' hk=>.head step_block (har k' (by simp[exitTo,hn,hk]))⟩
 |goto l=>exact⟨_,a1,w1,hq,λk' hk=>.head step_block (har k' (by simp[gotoIn,hk]))⟩
 |ret=>exact⟨_,a1,w1,hq,.of_steps (.one step_block) har⟩
 |panic _=>exact⟨_,a1,w1,hq,.of_steps (.one step_block) har⟩
 |outgrown=>exact⟨_,a1,w1,hq,.of_steps (b:=b) (k:=k) (cs:=cs) (e:=.outgrown) (.one step_block) har⟩
theorem Ir{c:Code}(I:Nat->Act->World->Prop)(h0:∀ a w,¬I 0 a w)(round:∀ m a w,I (m+1) a w->wpN P c (Exit.then (I m) Q) a w)(m:Nat)(a:Act)(w:World)(h:I m a w):wpN P (.loop c) Q a w:=by
 intro b k cs hb
 have key:∀ m a w,I m a w->∃ e a' w',Q e a' w'/\Arrives P (lone (b.at a (.code c::.inLoop c::k)) cs w) b k cs e a' w':=by
  intro m
  induction m with
  |zero=>intro a w h;exact absurd h (h0 a w)
  |succ m ih=>
   intro a w hI
   obtain⟨e,a1,w1,hq,har⟩:=round m a w hI b (.inLoop c::k) cs hb
   by_cases he:e=.normal
   ·subst he
    obtain⟨e2,a2,w2,hq2,Ps⟩:=ih a1 w1 hq
    exact⟨e2,a2,w2,hq2,.of_steps (Steps.trans har (.one step_inLoop)) Ps⟩
   ·refine⟨e,a1,w1,?_,.pass (x:=.inLoop c) rfl (λ_ _=>.inl he) har⟩
    cases e <;> first|exact absurd rfl he|exact hq
 obtain⟨e,a',w',hq,har⟩:=key m a w h
 exact⟨e,a',w',hq,.of_steps (.one step_loop) har⟩
theorem xY{f:FuncId}{fn:Func}{c:Code}{args:Array Value}{R:Ending->World->Prop}(hf:P.funcs[f]?=some fn)(hb:fn.body=some c)
 (h:wpN P c (bodyPost P fn R) {tmps:=args++Array.replicate (fn.ntmps-args.size) undef,defers:=[]} w):Calls P f args w R:=by
 intro cs
 have hen:Frame.enter P f args .normal=({(default:Frame)with fn:=f,kind:=.normal}:Frame).at {tmps:=args++Array.replicate (fn.ntmps-args.size) undef,defers:=[]} [.code c]:=by
  simp[Frame.enter,Frame.at,hf,hb]
 obtain⟨e,a',w',hq,har⟩:=h {(default:Frame)with fn:=f,kind:=.normal} [] cs rfl
 rw[<-hen]at har
 cases e with
 |normal=>
  obtain⟨hd,v,hr,hR⟩:=hq
  exact⟨.returned v,w',_,hR,Steps.trans har (.one step_end),rfl,rfl,hd,rfl,fn,hf,hr⟩
 |ret=>
  obtain⟨hd,v,hr,hR⟩:=hq
  obtain⟨todo,hs⟩:=har
  exact⟨.returned v,w',_,hR,hs,rfl,rfl,hd,rfl,fn,hf,hr⟩
 |panic chain=>
  obtain⟨hd,hR⟩:=hq
  obtain⟨todo,hs⟩:=har
  exact⟨.panicked chain,w',_,hR,hs,rfl,rfl,hd,fn,hf⟩
 |exit id=>exact hq.elim
 |goto l=>exact hq.elim
 |outgrown=>exact⟨.outgrown,w',{(default:Frame)with fn:=f,kind:=.normal},hq,har.resolve_left (by simp),rfl,trivial⟩
end
section
variable {P:Program} {B:dL} {F:af} {Sg:Nat->af} {cg:Nat->List Value} {σ:St} {a:Act} {w:World}
end
inductive Ann where
 |nop
 |seq (x y:Ann)
 |cond (j:Option Spec) (x y:Ann)
 |block (j:Option Spec) (x:Ann)
 |loop (s:Spec) (x:Ann)
 |reg (j:Option Spec) (fz:List Nat)
 |rgf (j:Option Spec) (pf fz:List Nat)
 |rgp (j:Option Spec) (pf fz:List Nat) (pz:List (Nat×List Stp))
 |rga (j:Option Spec) (pf fz:List Nat) (t:Alt)
def Ann.a1:Ann->Ann
 |.seq x _=>x
 |.cond _ x _=>x
 |.block _ x=>x
 |.loop _ x=>x
 |_=>.nop
def Ann.a2:Ann->Ann
 |.seq _ y=>y
 |.cond _ _ y=>y
 |_=>.nop
def Ann.j:Ann->Option Spec
 |.cond j _ _=>j
 |.block j _=>j
 |.loop s _=>some s
 |.reg j _=>j
 |.rgf j _ _=>j
 |.rgp j _ _ _=>j
 |.rga j _ _ _=>j
 |_=>none
def Ann.fz:Ann->List Nat
 |.reg _ l=>l
 |.rgf _ _ l=>l
 |.rgp _ _ l _=>l
 |.rga _ _ l _=>l
 |_=>[]
def Ann.alt:Ann->Option Alt
 |.rga _ _ _ t=>some t
 |_=>none
def Ann.pf:Ann->List Nat
 |.rgf _ l _=>l
 |.rgp _ l _ _=>l
 |.rga _ l _ _=>l
 |_=>[]
def Ann.pz:Ann->List (Nat×List Stp)
 |.rgp _ _ _ l=>l
 |_=>[]
def nu:Ty->List Stp->Bool
 |_,[]=>true
 |.st t,.st::π=>nu t π
 |.pair a _,.fst::π=>nu a π
 |.pair _ b,.snd::π=>nu b π
 |.box t,.deref::π=>nu t π
 |_,_=>false
def LW(σ:St)(s:Nat)(π:List Stp):St:=
 match σ.E s with
 |some (.one (.hdr l _ [] _))=>(match σ.L l with
  |some b=>bif nu b.t π then(match gz b.t b.m π .ro with
   |some mr=>{σ with L:=upd σ.L l (some ⟨b.v+1,b.t,mr,b.x⟩)}
   |none=>σ)else σ
  |none=>σ)
 |_=>σ
def Ah(σ:St):List (Nat×List Stp)->St
 |[]=>σ
 |p::ps=>Ah (LW σ p.1 p.2) ps
def xZ(σ:St):List Nat->St
 |[]=>σ
 |s::ss=>match σ.E s with
  |some (.one (.hdr l _ _ _))=>(match σ.L l with|some b=>xZ (σ.frz l b) ss|none=>xZ σ ss)
  |_=>xZ σ ss
structure Ks(R:Type)where
 nrm:St->Option R
 ext:Nat->St->Option R
 ret:St->Option R
def aw{A R:Type}(J:A->Option R)(body:(A->Option R)->Option R):Option R:=body J
def aE{A R:Type}(body:A->(A->Option R)->Option R):Nat->A->Option R
 |0,_=>none
 |n+1,x=>body x (aE body n)
def Ai{R:Type}(o:Option Spec)(W:Nat->Bool)(σ:St)(K:St->Option R)(body:(St->Option R)->Option R):Option R:=
 match o with
 |none=>body K
 |some s=>bif nk σ s W then aw (λx=>K (stJ σ s x)) (λj=>body λσ1=>zB σ s σ1 j)else none
def wrC:Code->Nat->Bool
 |.region _ ops _,j=>lz ops.toList j
 |.seq x y,j=>wrC x j||wrC y j
 |.cond _ x y,j=>wrC x j||wrC y j
 |.block _ x,j=>wrC x j
 |.loop x,j=>wrC x j
 |_,_=>false
def Pt{R:Type}(V:Env)(N:Nat)(ops:Array Oper)(draw:Bool)(alt:Option Alt)(σ:St)(K:St->Option R):Option R:=
 bif nj N ops.toList then(bif draw then lG V ops.toList ops.toList 0 [] σ K else FG V ops.toList ops.toList σ K)else none
def exec{R:Type}(V:Env)(N n:Nat):Code->Ann->St->Ks R->Option R
 |.skip,_,σ,k=>k.nrm σ
 |.region _ ops draw,an,σ,k=>Ai an.j (lz ops.toList) σ k.nrm λnrm=>Pt V N ops draw an.alt (xZ σ an.pf) λσ1=>nrm (Ah (xZ σ1 an.fz) an.pz)
 |.seq x y,an,σ,k=>exec V N n x an.a1 σ {k with nrm:=λσ1=>exec V N n y an.a2 σ1 k}
 |.cond c x y,an,σ,k=>Ai an.j (λj=>wrC x j||wrC y j) σ k.nrm λnrm=>(match opd σ c with
  |some (.val .bool b)=>(match(b:Bool)with
   |true=>exec V N n x an.a1 σ {k with nrm:=nrm}
   |false=>exec V N n y an.a2 σ {k with nrm:=nrm})
  |_=>none)
 |.block id x,an,σ,k=>Ai an.j (wrC x) σ k.nrm λnrm=>exec V N n x an.a1 σ {nrm:=nrm,ext:=λi σ1=>bif Nat.beq i id then nrm σ1 else k.ext i σ1,ret:=k.ret}
 |.loop x,an,σ,k=>(match an.j with
  |some s=>bif nk σ s (wrC x)then zB σ s σ λx0=>aE (λy cont=>exec V N n x an.a1 (stJ σ s y) {k with nrm:=λσ1=>zB σ s σ1 cont}) n x0 else none
  |none=>none)
 |.exit id,_,σ,k=>k.ext id σ
 |.ret,_,σ,k=>k.ret σ
 |_,_,_,_=>none
def uE{R:Type}(B:dL)(σ:St)(W:Nat->Bool)(k:Ks R)(r:R):Exit->Act->World->Prop
 |.normal,a,w=>∃ σ',k.nrm σ'=some r/\Inv B σ' a w/\ES σ σ' W
 |.exit id,a,w=>∃ σ',k.ext id σ'=some r/\Inv B σ' a w/\ES σ σ' W
 |.ret,a,w=>∃ σ',k.ret σ'=some r/\Inv B σ' a w
 |_,_,_=>False
section
variable {P:Program} {B:dL} {σ:St} {a:Act} {w:World}
theorem uE.imp{R:Type}{σ σ1:St}{W W1:Nat->Bool}{k k1:Ks R}{r:R}(hes:ES σ σ1 W)(hW:∀ j,W j=false->W1 j=false)(hn:∀ σ' a w,k1.nrm σ'=some r->Inv B σ' a w->ES σ σ' W->∃ rH,k.nrm rH=some r/\Inv B rH a w/\ES σ rH W)
 (he:∀ i σ',k1.ext i σ'=k.ext i σ') (hr:∀ σ',k1.ret σ'=k.ret σ') {e:Exit} {a:Act} {w:World} (h:uE B σ1 W1 k1 r e a w):uE B σ W k r e a w:=by
 cases e with
 |normal=>
  obtain⟨σ',h1,h2,h3⟩:=h
  exact hn σ' a w h1 h2 (hes.trans h3 (λ_ h=>h) hW)
 |exit id=>
  obtain⟨σ',h1,h2,h3⟩:=h
  exact⟨σ',by rw[<-he];exact h1,h2,hes.trans h3 (λ_ h=>h) hW⟩
 |ret=>
  obtain⟨σ',h1,h2⟩:=h
  exact⟨σ',by rw[<-hr];exact h1,h2⟩
 |goto _=>exact h
 |panic _=>exact h
 |outgrown=>exact h
theorem uF{R:Type}{o:Option Spec}{c:Code}{W:Nat->Bool}(h:Inv B σ a w){k:Ks R}{r:R}{body:(St->Option R)->Option R}(hk:Ai o W σ k.nrm body=some r)(main:∀ nrm,body nrm=some r->wpN P c (uE B σ W {k with nrm:=nrm} r) a w):
 wpN P c (uE B σ W k r) a w:=by
 unfold Ai at hk
 split at hk
 ·exact main _ hk
 ·rename_i s
  cases hs:nk σ s W
  ·rw[hs]at hk;cases hk
  rw[hs]at hk
  simp only[cond_true]at hk
  have hv:DD σ:=by obtain⟨F,Sg,cg,h⟩:=h;exact h.ver
  have hvf:DE B σ:=by obtain⟨F,Sg,cg,h⟩:=h;exact h.Oe
  refine gY (main _ hk) (λe a' w' hp=>uE.imp (k:=k) (k1:={k with nrm:=λσ1=>zB σ s σ1 λx=>k.nrm (stJ σ s x)}) (ES.refl _ _) (λ_ h=>h) (λσ' a w h1 h2 h3=>?_) (λ_ _=>rfl) (λ_=>rfl) hp)
  have h1:(zB σ s σ' λx=>k.nrm (stJ σ s x))=some r:=h1
  obtain⟨x,g1,g2⟩:=Ca h2 hv hvf h3 hs h1
  exact⟨_,g1,g2,Cb hs x⟩
theorem LX{R:Type}{V:Env}(hV:gf P V){id:Nat}{ops:Array Oper}{draw:Bool}{alt:Option Alt}(h:Inv B σ a w){k:Ks R}{r:R}(hk:Pt V B.N ops draw alt σ k.nrm=some r):wpN P (Code.region id ops draw) (uE B σ (lz ops.toList) k r) a w:=by
 unfold Pt at hk
 cases hN:nj B.N ops.toList
 ·rw[hN]at hk;cases hk
 rw[hN]at hk
 simp only[cond_true]at hk
 cases draw
 ·simp only[cond_false]at hk
  exact uD (FI hV hN h hk (λσ' a' w' h1 h2 h3=>⟨σ',h1,h2,h3⟩))
 ·simp only[cond_true]at hk
  exact uD (wp_region_any hV.mix (Io hV hN hk (Ip h) (λσ' a' w' h1 h2 h3=>⟨σ',h1,h2,h3⟩)))
theorem DN:∀ (ss:List Nat) {σ:St},Inv B σ a w->Inv B (xZ σ ss) a w/\∀ j,ER (σ.E j) ((xZ σ ss).E j):=by
 intro ss
 induction ss with
 |nil=>intro σ h;exact⟨h,λ_=>.refl _⟩
 |cons s ss ih=>
  intro σ h
  simp only[xZ]
  split
  ·rename_i l n π c hE
   cases hl:σ.L l with
   |none=>simp only;exact ih h
   |some b=>
    simp only
    obtain⟨F,Sg,cg,h⟩:=h
    obtain⟨g1,g2⟩:=ih ⟨_,Sg,cg,h.frz hl⟩
    exact⟨g1,λj=>(Hy j).trans (g2 j)⟩
  ·exact ih h
theorem Is:∀ (π:List Stp) (t:Ty) (m mr:Md) (x:t.T) (cs:List Value) (S F:af) (w:World),Rep F w t m x cs S->nu t π=true->gz t m π .ro=some mr->
 ∃ Sp S':af,Sub Sp S/\Sub S' S/\Dis Sp S'/\∀ F',Sub F F'->Sub Sp F'->Rep F' w t mr x cs S':=by
 intro π
 induction π with
 |nil=>
  intro t m mr x cs S F w h _ hm
  have hmr:Md.ro=mr:=by unfold gz at hm;cases t <;> (injection hm)
  subst hmr
  exact⟨S,af.none,Sub.refl _,λ_ h=>h.elim,λ_ _ h=>h.elim,λF' hF hS=>jS hF _ _ _ _ _ _ h hS⟩
 |cons p π ih=>
  intro t m mr x cs S F w h hp hm
  cases t <;> cases p <;> simp only[nu,au]at hp
  case st.st t=>
   simp only[gz]at hm
   exact ih t m mr x cs S F w h hp hm
  case pair.fst a b=>
   simp only[gz]at hm
   cases h1:gz a m.fst π .ro with
   |none=>rw[h1]at hm;cases hm
   |some r=>
    obtain⟨c1,c2,S1,S2,rfl,g1,g2,s1,s2,d⟩:=h
    obtain⟨Sp,S1',q1,q2,q3,q4⟩:=ih a m.fst r x.1 c1 S1 F w g1 hp h1
    refine⟨Sp,S1'.or S2,q1.trans s1,λk hk=>hk.elim (λh=>s1 k (q2 k h)) (λh=>s2 k h),λk a b=>b.elim (λb=>q3 k a b) (λb=>d k (q1 k a) b),λF' hF hS=>?_⟩
    have hx1:=q4 F' hF hS
    have hx2:=aY (w':=w) hF (λ_ _=>rfl) _ _ _ _ _ _ g2 (Sub.refl _) (λ_ _=>rfl)
    rw[h1]at hm
    simp only at hm
    have fin:∀ mm:Md,mm.fst=r->mm.snd=m.snd->Rep F' w (.pair a b) mm x (c1++c2) (S1'.or S2):=λmm e1 e2=>
     ⟨c1,c2,S1',S2,rfl,by rw[e1];exact hx1,by rw[e2];exact hx2,λ_ h=>.inl h,λ_ h=>.inr h,λk a b=>d k (q2 k a) b⟩
    split at hm
    ·rename_i he
     injection hm with hm;subst hm;exact fin _ he.symm rfl
    ·injection hm with hm;subst hm;exact fin _ rfl rfl
  case pair.snd a b=>
   simp only[gz]at hm
   cases h1:gz b m.snd π .ro with
   |none=>rw[h1]at hm;cases hm
   |some r=>
    obtain⟨c1,c2,S1,S2,rfl,g1,g2,s1,s2,d⟩:=h
    obtain⟨Sp,S2',q1,q2,q3,q4⟩:=ih b m.snd r x.2 c2 S2 F w g2 hp h1
    refine⟨Sp,S1.or S2',q1.trans s2,λk hk=>hk.elim (λh=>s1 k h) (λh=>s2 k (q2 k h)),λk a b=>b.elim (λb=>d k b (q1 k a)) (λb=>q3 k a b),λF' hF hS=>?_⟩
    have hx2:=q4 F' hF hS
    have hx1:=aY (w':=w) hF (λ_ _=>rfl) _ _ _ _ _ _ g1 (Sub.refl _) (λ_ _=>rfl)
    rw[h1]at hm
    simp only at hm
    have fin:∀ mm:Md,mm.fst=m.fst->mm.snd=r->Rep F' w (.pair a b) mm x (c1++c2) (S1.or S2'):=λmm e1 e2=>
     ⟨c1,c2,S1,S2',rfl,by rw[e1];exact hx1,by rw[e2];exact hx2,λ_ h=>.inl h,λ_ h=>.inr h,λk a b=>d k a (q2 k b)⟩
    split at hm
    ·rename_i he
     injection hm with hm;subst hm;exact fin _ rfl he.symm
    ·injection hm with hm;subst hm;exact fin _ rfl rfl
  case box.deref t=>
   cases m with
   |ro=>simp[gz]at hm
   |pr _ _=>simp[gz]at hm
   |own e=>
    simp only[gz]at hm
    cases h1:gz t e π .ro with
    |none=>rw[h1]at hm;cases hm
    |some r=>
     rw[h1]at hm
     simp only[bh]at hm
     subst hm
     obtain⟨b,c,ee,rfl,hb,hS,S1,hr,s1,n1⟩:=h
     obtain⟨Sp,S1',q1,q2,q3,q4⟩:=ih t e r x _ S1 F w hr hp h1
     refine⟨Sp,λk=>S1' k\/k=b,q1.trans s1,λk hk=>hk.elim (λh=>s1 k (q2 k h)) (λh=>h ▸ hS),λk a c=>c.elim (λc=>q3 k a c) (λc=>n1 (c ▸ q1 k a)),λF' hF hSp=>?_⟩
     exact⟨b,c,ee,rfl,hb,.inr rfl,S1',q4 F' hF hSp,λk h=>.inl h,λh=>n1 (q2 b h)⟩
theorem LY(h:Inv B σ a w)(s:Nat)(π:List Stp):Inv B (LW σ s π) a w/\(LW σ s π).E=σ.E:=by
 unfold LW
 split
 case h_2=>exact⟨h,rfl⟩
 rename_i l n c hE
 cases hl:σ.L l with
 |none=>exact⟨h,rfl⟩
 |some b=>
 simp only
 cases hp:nu b.t π
 ·exact⟨h,rfl⟩
 simp only[cond_true]
 cases hm:gz b.t b.m π .ro with
 |none=>exact⟨h,rfl⟩
 |some mr=>
 obtain⟨F,Sg,cg,h⟩:=h
 obtain⟨Sp,S',q1,q2,q3,q4⟩:=Is π b.t b.m mr b.x (cg l) (Sg l) F w (h.lab l b hl) hp hm
 have hL:∀ j bj,upd σ.L l (some ⟨b.v+1,b.t,mr,b.x⟩) j=some bj->(j=l/\bj=⟨b.v+1,b.t,mr,b.x⟩)\/(j≠l/\σ.L j=some bj):=λj bj hj=>by
  rcases fJ hj with⟨e,e2⟩|e
  ·injection e2 with e2;exact .inl ⟨e,e2.symm⟩
  ·exact .inr e
 refine⟨⟨λk=>F k\/Sp k,λj=>if j=l then S' else Sg j,cg,h.step (w':=w) (S:=af.none) ⟨rfl,rfl,rfl,aq _,λ_ _ _=>rfl⟩ (λ_ h=>h.elim) (λ_ h=>h.elim) ?_ ?_ ?_ ?_ ?_ (λ_ h=>.inl h) ?_ ?_⟩,rfl⟩
 ·intro j bj hj
  rcases hL j bj hj with⟨rfl,rfl⟩|⟨hne,hj⟩
  ·right
   exact⟨b,hl,dn _,rfl,by rw[if_pos rfl];exact q4 _ (λ_ h=>.inl h) (λ_ h=>.inr h)⟩
  ·left
   exact⟨hj,if_neg hne,λ_ _ h=>h.elim⟩
 ·intro j j' bj bj' hne hj hj'
  rcases hL j bj hj with⟨rfl,rfl⟩|⟨h1,hj1⟩ <;> rcases hL j' bj' hj' with⟨rfl,rfl⟩|⟨h2,hj2⟩
  ·exact absurd rfl hne
  ·rw[if_pos rfl,if_neg h2];exact(h.dis j j' b bj' hne hl hj2).mono q2 (Sub.refl _)
  ·rw[if_pos rfl,if_neg h1];exact(h.dis j j' bj b hne hj1 hl).mono (Sub.refl _) q2
  ·rw[if_neg h1,if_neg h2];exact h.dis j j' bj bj' hne hj1 hj2
 ·intro j bj hj
  rcases hL j bj hj with⟨rfl,rfl⟩|⟨h1,hj⟩
  ·rw[if_pos rfl]
   rintro k hk (hf|hf)
   ·exact h.eF j b hl k (q2 k hk) hf
   ·exact q3 k hf hk
  ·rw[if_neg h1]
   rintro k hk (hf|hf)
   ·exact h.eF j bj hj k hk hf
   ·exact h.dis j l bj b h1 hj hl k hk (q1 k hf)
 ·intro j bj hj k hk
  rcases hL j bj hj with⟨rfl,rfl⟩|⟨h1,hj⟩
  ·rw[if_pos rfl]at hk;exact h.lt j b hl k (q2 k hk)
  ·rw[if_neg h1]at hk;exact h.lt j bj hj k hk
 ·intro j bj hj k hk hlt
  rcases hL j bj hj with⟨rfl,rfl⟩|⟨h1,hj⟩
  ·rw[if_pos rfl]at hk;exact h.may j b hl k (q2 k hk) hlt
  ·rw[if_neg h1]at hk;exact h.may j bj hj k hk hlt
 ·rintro k (hk|hk)
  ·exact h.fl k hk
  ·exact h.lt l b hl k (q1 k hk)
 ·rintro k (hk|hk) hlt hn
  ·exact h.fs k hk hlt hn
  ·exact absurd (h.may l b hl k (q1 k hk) hlt) hn
theorem Iu:∀ (ps:List (Nat×List Stp)) {σ:St},Inv B σ a w->Inv B (Ah σ ps) a w/\(Ah σ ps).E=σ.E:=by
 intro ps
 induction ps with
 |nil=>intro σ h;exact⟨h,rfl⟩
 |cons p ps ih=>
  intro σ h
  obtain⟨h1,h2⟩:=LY h p.1 p.2
  obtain⟨h3,h4⟩:=ih h1
  exact⟨h3,h4.trans h2⟩
theorem LZ{R:Type}{V:Env}(hV:gf P V)(n:Nat):∀ (c:Code) (an:Ann) (σ:St) (k:Ks R) (r:R) (a:Act) (w:World),exec V B.N n c an σ k=some r->Inv B σ a w->wpN P c (uE B σ (wrC c) k r) a w:=by
 intro c
 induction c with
 |skip=>intro an σ k r a w hk h;exact uD (wp_skip ⟨σ,hk,h,ES.refl _ _⟩)
 |region id ops draw=>
  intro an σ k r a w hk h
  refine uF h hk (λnrm hk=>?_)
  obtain⟨h',xB⟩:=DN an.pf h
  have hwp:=LX (id:=id) hV (k:={k with nrm:=λσ1=>nrm (Ah (xZ σ1 an.fz) an.pz)}) h' hk
  refine gY hwp (λe a' w' hp=>?_)
  cases e with
  |normal=>
   obtain⟨σ1,q1,q2,q3⟩:=hp
   obtain⟨g1,g2⟩:=DN an.fz q2
   obtain⟨g3,g4⟩:=Iu an.pz g1
   exact⟨_,q1,g3,λj hj=>(xB j).trans ((q3 j hj).trans (by rw[g4];exact g2 j))⟩
  |exit i=>obtain⟨σ1,q1,q2,q3⟩:=hp;exact⟨σ1,q1,q2,λj hj=>(xB j).trans (q3 j hj)⟩
  |ret=>exact hp
  |goto _=>exact hp
  |panic _=>exact hp
  |outgrown=>exact hp
 |seq x y ihx ihy=>
  intro an σ k r a w hk h
  simp only[exec]at hk
  have wx:∀ j,wrC (.seq x y) j=false->wrC x j=false:=λj hj=>by simp only[wrC,eP]at hj;exact hj.1
  have wy:∀ j,wrC (.seq x y) j=false->wrC y j=false:=λj hj=>by simp only[wrC,eP]at hj;exact hj.2
  refine LV (gY (ihx an.a1 σ _ r a w hk h) (λe a' w' hp=>?_))
  cases e with
  |normal=>
   obtain⟨σ1,h1,h2,h3⟩:=hp
   exact gY (ihy an.a2 σ1 k r a' w' h1 h2) (λe a'' w'' hp=>uE.imp (h3.mono wx) wy (λσ' a w q1 q2 q3=>⟨σ',q1,q2,q3⟩) (λ_ _=>rfl) (λ_=>rfl) hp)
  |exit id=>obtain⟨σ1,h1,h2,h3⟩:=hp;exact⟨σ1,h1,h2,h3.mono wx⟩
  |ret=>exact hp
  |goto _=>exact hp
  |panic _=>exact hp
  |outgrown=>exact hp
 |cond c x y ihx ihy=>
  intro an σ k r a w hk h
  refine uF (W:=wrC (.cond c x y)) h hk (λnrm hk=>?_)
  have wx:∀ j,wrC (.cond c x y) j=false->wrC x j=false:=λj hj=>by simp only[wrC,eP]at hj;exact hj.1
  have wy:∀ j,wrC (.cond c x y) j=false->wrC y j=false:=λj hj=>by simp only[wrC,eP]at hj;exact hj.2
  split at hk
  ·rename_i b hc
   have hcv:a.eval c=.bool b:=by obtain⟨F,Sg,cg,h⟩:=h;exact jT (bC h hc)
   refine Iq hcv ?_
   split at hk
   ·exact gY (ihx an.a1 σ _ r a w hk h) (λe a' w' hp=>uE.imp (k:={k with nrm:=nrm}) (ES.refl _ _) wx (λσ' a w q1 q2 q3=>⟨σ',q1,q2,q3⟩) (λ_ _=>rfl) (λ_=>rfl) hp)
   ·exact gY (ihy an.a2 σ _ r a w hk h) (λe a' w' hp=>uE.imp (k:={k with nrm:=nrm}) (ES.refl _ _) wy (λσ' a w q1 q2 q3=>⟨σ',q1,q2,q3⟩) (λ_ _=>rfl) (λ_=>rfl) hp)
  ·cases hk
 |block id x ihx=>
  intro an σ k r a w hk h
  refine uF (W:=wrC (.block id x)) h hk (λnrm hk=>?_)
  refine Gd (gY (ihx an.a1 σ _ r a w hk h) (λe a' w' hp=>?_))
  cases e with
  |normal=>exact hp
  |exit i=>
   obtain⟨σ1,h1,h2,h3⟩:=hp
   simp only at h1
   show(if i=id then _ else _:Prop)
   cases hb:Nat.beq i id
   ·rw[hb]at h1
    rw[if_neg (λe=>by rw[e,cV]at hb;cases hb)]
    exact⟨σ1,h1,h2,h3⟩
   ·rw[hb]at h1
    rw[if_pos (bg hb)]
    exact⟨σ1,h1,h2,h3⟩
  |ret=>exact hp
  |goto _=>exact hp
  |panic _=>exact hp
  |outgrown=>exact hp
 |loop x ihx=>
  intro an σ k r a w hk h
  simp only[exec]at hk
  cases hj:an.j with
  |none=>rw[hj]at hk;cases hk
  |some s=>
  rw[hj]at hk
  simp only at hk
  cases hs:nk σ s (wrC x)
  ·rw[hs]at hk;cases hk
  rw[hs]at hk
  simp only[cond_true]at hk
  have hv:DD σ:=by obtain⟨F,Sg,cg,h⟩:=h;exact h.ver
  have hvf:DE B σ:=by obtain⟨F,Sg,cg,h⟩:=h;exact h.Oe
  obtain⟨x0,hk,h0⟩:=Ca h hv hvf (ES.refl σ (wrC x)) hs hk
  refine Ir (λm a w=>∃ y,aE (λy cont=>exec V B.N n x an.a1 (stJ σ s y) {k with nrm:=λσ1=>zB σ s σ1 cont}) m y=some r/\Inv B (stJ σ s y) a w) (λa w h=>by obtain⟨y,h1,_⟩:=h;cases h1) ?_ n a w ⟨x0,hk,h0⟩
  rintro m a w ⟨y,h1,h2⟩
  simp only[aE]at h1
  refine gY (ihx an.a1 _ _ r a w h1 h2) (λe a' w' hp=>?_)
  cases e with
  |normal=>
   obtain⟨σ1,q1,q2,q3⟩:=hp
   exact Ca q2 hv hvf ((Cb hs y).trans q3 (λ_ h=>h) (λ_ h=>h)) hs q1
  |exit i=>obtain⟨σ1,q1,q2,q3⟩:=hp;exact⟨σ1,q1,q2,(Cb hs y).trans q3 (λ_ h=>h) (λ_ h=>h)⟩
  |ret=>exact hp
  |goto _=>exact hp
  |panic _=>exact hp
  |outgrown=>exact hp
 |exit id=>intro an σ k r a w hk h;exact uD (wp_exit ⟨σ,hk,h,ES.refl _ _⟩)
 |ret=>intro an σ k r a w hk h;exact uD (wp_ret ⟨σ,hk,h⟩)
 |rangeFunc f ps x y _ _=>intro an σ k r a w hk h;cases hk
 |scope x _=>intro an σ k r a w hk h;cases hk
 |label l=>intro an σ k r a w hk h;cases hk
 |goto l=>intro an σ k r a w hk h;cases hk
 |refuse s=>intro an σ k r a w hk h;cases hk
end
def eI:(ps:List (Ty×Md))->(et ps).T->Nat->St
 |[],_,_=>⟨λ_=>none,λ_=>none,λ_=>false⟩
 |p::ps,x,i=>bif dM p.2 then(eI ps x.2 (i+1)).tJ i (.val p.1 x.1)
  else {E:=upd (eI ps x.2 (i+1)).E i (some (.one (.hdr (i*8+6) 0 [] ⟨p.1,x.1⟩))),L:=upd (eI ps x.2 (i+1)).L (i*8+6) (some ⟨0,p.1,p.2,x.1⟩),U:=λj=>Nat.beq j (i*8+6)||(eI ps x.2 (i+1)).U j}
def L3(TT:Tab)(σ:St):ResultVar->Option ar
 |.tmp t=>match σ.E t with
  |some (.one e)=>some e
  |_=>none
 |.cell a t=>match σ.E a with
  |some (.one e)=>(match TT t with|some td=>tO td σ e some|none=>none)
  |_=>none
def jf(TT:Tab)(σ:St):List ResultVar->Option (List ar)
 |[]=>some []
 |t::ts=>match L3 TT σ t with
  |some e=>(match jf TT σ ts with|some es=>some (e::es)|none=>none)
  |none=>none
def L4{R:Type}:(ms:List (Ty×Md))->List Nat->(Nat->Option Lab)->((et ms).T->(Nat->Option Lab)->Option R)->Option R
 |[],[],L,K=>K () L
 |p::ms,i::mi,L,K=>match L (i*8+6)with
  |some ⟨_,t,m,x⟩=>if h:t=p.1 then(bif decide (m=p.2)&&!p.1.agg then L4 ms mi (upd L (i*8+6) none) λys L'=>K (h ▸ x,ys) L' else none)else none
  |none=>none
 |_,_,_,_=>none
def Iv(ps:List (Ty×Md)):List Nat->Bool
 |[]=>true
 |i::mi=>(match ps[i]? with|some p=>!dM p.2&&!p.1.agg|none=>false)&&Iv ps mi
def L5(TT:Tab)(rs:List (Ty×Md))(mi:List Nat)(ms:List (Ty×Md))(rv:List ResultVar)(σ:St):Option ((et rs).T×(et ms).T):=
 match jf TT σ rv with
 |some es=>lv σ rs es σ.L λx L bs=>L4 ms mi L λys L'=>bif bs.all λl=>(L' l).isSome then some (x,ys)else none
 |none=>none
def DO(V:Env)(N n:Nat)(c:Code)(an:Ann)(ps rs:List (Ty×Md))(mi:List Nat)(ms:List (Ty×Md))(rv:List ResultVar)(x:(et ps).T):Option ((et rs).T×(et ms).T):=
 exec V N n c an (eI ps x 0) {nrm:=L5 V.TT rs mi ms rv,ext:=λ_ _=>none,ret:=L5 V.TT rs mi ms rv}
section
variable {P:Program} {F:af} {w:World} {a:Act}
theorem L6{B:dL}{vs:List Value}{S:af}(hB:B.w0=w/\B.S0=S/\B.F0=F/\(∀ l,B.fix l=none))(hsz:a.tmps.size=B.N)(hde:a.defers=[])(ha:∀ t,t<vs.length->a.tmps.getD t undef=vs.getD t undef)(hSF:Dis S F)(hF:∀ k,F k->k<w.heap.size)(hS:∀ k,S k->k<w.heap.size):
 ∀ (ps:List (Ty×Md)) (x:(et ps).T) (i:Nat) (S':af),ju F w ps x (vs.drop i) S'->Sub S' S->∃ Sg cg,aT B F Sg cg (eI ps x i) a w/\(∀ l b,(eI ps x i).L l=some b->Sub (Sg l) S')/\(∀ l,(eI ps x i).U l=true->i*8<=l/\l % 8=6/\∀ b,(eI ps x i).L l=some b->cg l=(vs.getD (l / 8) undef).cells.toList):=by
 obtain⟨hB1,hB2,hB3,hB4⟩:=hB
 intro ps
 induction ps with
 |nil=>
  intro x i S' h fK
  refine⟨λ_=>af.none,λ_=>[],?_,λl b h=>(by cases h),λl h=>(by cases h)⟩
  exact
  {fr:=⟨by rw[hB1],by rw[hB1],by rw[hB1],by rw[hB1];exact aq _,λk _ _=>by rw[hB1]⟩
   size:=hsz
   defers:=hde
   f0:=by rw[hB3];exact Sub.refl _
   fl:=hF
   fs:=λk hk _ _=>by rw[hB3];exact hk
   lab:=λl b h=>by cases h
   dis:=λl l' b b' _ h=>by cases h
   eF:=λl b h=>by cases h
   lt:=λl b h=>by cases h
   may:=λl b h=>by cases h
   used:=λl b h=>by cases h
   fix:=λl cs h=>by rw[hB4]at h;cases h
   ent:=λt e h=>by cases h}
 |cons p ps ih=>
  intro x i S' h fK
  obtain⟨v,vs',cs,S1,S2,e,h1,h2,h3,s1,s2,d⟩:=h
  have hi:i<vs.length:=by
   rcases ap i vs.length with h|h
   ·exact h
   ·rw[fq h]at e;cases e
  have hv:vs.getD i undef=v:=by
   rw[cQ hi]at e
   injection e with e1 e2
   simp[hi,e1]
  have Tq:vs'=vs.drop (i+1):=by
   rw[<-List.tail_drop,e];rfl
  rw[Tq]at h3
  obtain⟨Sg,cg,g1,g2,g3⟩:=ih x.2 (i+1) S2 h3 (s2.trans fK)
  have Oh:a.tmps.getD i undef=v:=by rw[ha i hi,hv]
  simp only[eI]
  cases hm:dM p.2
  ·simp only[cond_false]
   have hU:(eI ps x.2 (i+1)).U (i*8+6)=false:=by
    cases hu:(eI ps x.2 (i+1)).U (i*8+6)
    ·rfl
    ·have:=(g3 _ hu).1;omega
   have i1:=g1.jX (w':=w) rfl rfl rfl (aq _) (l:=i*8+6) (b:=⟨0,p.1,p.2,x.1⟩) hU (upd (eI ps x.2 (i+1)).L (i*8+6) (some ⟨0,p.1,p.2,x.1⟩)) (λ_ _ _=>rfl) h1 (aF _ _ _) (λj hj=>.inr (aS _ _ hj))
    (λk hk=>⟨λj bj hj hbj hs=>by rw[aS _ _ hj]at hbj;exact d k hk (g2 j bj hbj k hs),λhf=>hSF k (fK k (s1 k hk)) hf,hS k (fK k (s1 k hk)),λ_=>by rw[hB2];exact fK k (s1 k hk)⟩)
   refine⟨_,_,i1.xT (s:=i) (e:=.one (.hdr (i*8+6) 0 [] ⟨p.1,x.1⟩)) (gx i1 (l:=i*8+6) (b:=⟨0,p.1,p.2,x.1⟩) (aF _ _ _) (by rw[Oh];simpa using h2)),λl b hl=>?_,λl hl=>?_⟩
   ·rcases fJ hl with⟨e,_⟩|⟨e,e'⟩
    ·rw[if_pos e];exact s1
    ·rw[if_neg e];exact(g2 l b e').trans s2
   ·by_cases e:l=i*8+6
    ·refine⟨by omega,by omega,λb _=>?_⟩
     rw[if_pos e,show l / 8=i by omega,hv,h2.cells]
    ·have hl':(eI ps x.2 (i+1)).U l=true:=by
      simp only[aG]at hl
      rcases hl with hl|hl
      ·exact absurd (bg hl) e
      ·exact hl
     obtain⟨q1,q2,q3⟩:=g3 l hl'
     refine⟨by omega,q2,λb hb=>?_⟩
     rw[if_neg e]
     simp only[aS _ _ e]at hb
     exact q3 b hb
  ·simp only[cond_true]
   refine⟨Sg,cg,g1.xT (s:=i) (e:=.one (.val p.1 x.1)) ⟨cs,eU _ _ hm _ _ _ _ h1,by rw[Oh];exact h2⟩,λl b hl=>(g2 l b hl).trans s2,λl hl=>?_⟩
   obtain⟨q1,q2,q3⟩:=g3 l hl
   exact⟨by omega,q2,q3⟩
theorem x4{t:TypeId}{v z:Value}(h:(Instr.loadAt t v).run P w=.ok z w):(do loadVar t (<-asAddr v):Sem Value).run P w=.ok z w:=by
 unfold Instr.loadAt Instr.sureAddr at h
 split at h
 ·simpa [asAddr]using h
 ·simp[stuck]at h
theorem Aj{B:dL}{Sg:Nat->af}{cg:Nat->List Value}{σ:St}(h:aT B F Sg cg σ a w){TT:Tab}(hT:cM P TT){f:ResultVar->Sem Value}(hf:∀ t,f (.tmp t)=pure (a.tmps.getD t undef))(hf2:∀ t u,f (.cell t u)=(do loadVar u (<-asAddr (a.tmps.getD t undef)):Sem Value)):
 ∀ {ts:List ResultVar} {es:List ar},jf TT σ ts=some es->∃ vs,cG F w σ.L σ.U cg es vs/\(List.mapM f ts).run P w=.ok vs w:=by
 intro ts
 induction ts with
 |nil=>intro es he;simp only[jf,bh]at he;subst he;exact⟨[],rfl,by simp[bp]⟩
 |cons t ts ih=>
  intro es he
  simp only[jf]at he
  cases h1:L3 TT σ t with
  |none=>rw[h1]at he;cases he
  |some e=>
  rw[h1]at he
  simp only at he
  cases h2:jf TT σ ts with
  |none=>rw[h2]at he;cases he
  |some es'=>
  rw[h2]at he
  simp only[bh]at he
  subst he
  obtain⟨vs,g1,g2⟩:=ih h2
  have one:∃ z,aD F w σ.L σ.U cg e z/\(f t).run P w=.ok z w:=by
   cases t with
   |tmp t=>
    simp only[L3]at h1
    split at h1
    ·rename_i e' hE
     injection h1 with h1
     subst h1
     exact⟨_,h.ent t _ hE,by rw[hf,bp]⟩
    ·cases h1
   |cell t u=>
    simp only[L3]at h1
    split at h1
    ·rename_i e' hE
     cases hu:TT u with
     |none=>rw[hu]at h1;cases h1
     |some td=>
      rw[hu]at h1
      obtain⟨e2,z,k1,k2,k3⟩:=yZ h (hT u td hu) h1 (h.ent t _ hE)
      injection k1 with k1
      subst k1
      exact⟨z,k3,by rw[hf2];exact x4 k2⟩
    ·cases h1
  obtain⟨z,o1,o2⟩:=one
  refine⟨z::vs,⟨_,_,rfl,o1,g1⟩,?_⟩
  rw[List.mapM_cons]
  simp only[aP,o2,aR,g2,bp]
theorem L7{B:dL}{Sg:Nat->af}{cg:Nat->List Value}{σ:St}(h:aT B F Sg cg σ a w){F2:af}(hFF:Sub F F2){vs:List Value}{mi0:List Nat}(Ts:∀ i,i∈mi0->∀ b,σ.L (i*8+6)=some b->b.t.agg=false->VR b.t (cg (i*8+6)) (vs.getD i undef)){R:Type}:∀ (ms:List (Ty×Md)) (mi:List Nat) (L:Nat->Option Lab) (K:(et ms).T->(Nat->Option Lab)->Option R) (r:R),L4 ms mi L K=some r->(∀ i∈mi,i∈mi0)->(∀ j,L j=none\/L j=σ.L j)->
 ∃ ys L' Sm,K ys L'=some r/\ju F2 w ms ys (mi.map λi=>vs.getD i undef) Sm/\(∀ j,L' j=none\/L' j=L j)/\(∀ k,Sm k->∃ l2 b2,L l2=some b2/\σ.L l2=some b2/\L' l2=none/\Sg l2 k):=by
 intro ms
 induction ms with
 |nil=>
  intro mi L K r hk hmi hL
  cases mi with
  |nil=>exact⟨(),L,af.none,hk,rfl,λ_=>.inr rfl,λ_ h=>h.elim⟩
  |cons _ _=>cases hk
 |cons p ms ih=>
  intro mi L K r hk hmi hL
  cases mi with
  |nil=>cases hk
  |cons i mi=>
   simp only[L4]at hk
   cases hl:L (i*8+6)with
   |none=>rw[hl]at hk;cases hk
   |some b=>
    rw[hl]at hk
    obtain⟨v,t,m,x⟩:=b
    simp only at hk
    split at hk
    ·rename_i ht
     cases hm:decide (m=p.2)&&!p.1.agg
     ·rw[hm]at hk;cases hk
     rw[hm]at hk
     simp only[cond_true]at hk
     simp only[ag,bz]at hm
     obtain⟨hm,hag⟩:=hm
     replace hm:=of_decide_eq_true hm
     have hσ:σ.L (i*8+6)=some ⟨v,t,m,x⟩:=by
      rcases hL (i*8+6)with e|e
      ·rw[e]at hl;cases hl
      ·rw[<-e];exact hl
     have hLu:∀ j,upd L (i*8+6) none j=none\/upd L (i*8+6) none j=L j:=λj=>by
      by_cases e:j=i*8+6
      ·subst e;exact .inl (aF _ _ _)
      ·exact .inr (aS _ _ e)
     obtain⟨ys,L',Sm,g1,g2,g3,g4⟩:=ih mi _ _ r hk (λi hi=>hmi i (by simp[hi])) (λj=>by
      rcases hLu j with e|e
      ·exact .inl e
      ·rw[e];exact hL j)
     have bG:=aY hFF (λ_ _=>rfl) _ _ _ _ _ _ (h.lab _ _ hσ) (Sub.refl _) (λ_ _=>rfl)
     have hvr:=Ts i (hmi i (by simp)) _ hσ (show t.agg=false by rw[ht];exact hag)
     have Tt:L' (i*8+6)=none:=by
      rcases g3 (i*8+6)with e|e
      ·exact e
      ·rw[e];exact aF _ _ _
     obtain⟨p1,p2⟩:=p
     simp only at ht hm
     subst ht;subst hm
     refine⟨(x,ys),L',(Sg (i*8+6)).or Sm,g1,⟨_,_,_,Sg (i*8+6),Sm,rfl,bG,hvr,g2,λk h=>.inl h,λk h=>.inr h,λk h1 h2=>?_⟩,λj=>?_,λk hk=>?_⟩
     ·obtain⟨l2,b2,q1,q2,q3,q4⟩:=g4 k h2
      by_cases e:i*8+6=l2
      ·subst e;rw[aF]at q1;cases q1
      ·exact h.dis _ l2 _ b2 e hσ q2 k h1 q4
     ·rcases g3 j with e|e
      ·exact .inl e
      ·rw[e];exact hLu j
     ·rcases hk with hk|hk
      ·exact⟨_,_,hl,hσ,Tt,hk⟩
      ·obtain⟨l2,b2,q1,q2,q3,q4⟩:=g4 k hk
       refine⟨l2,b2,?_,q2,q3,q4⟩
       rcases hLu l2 with e|e
       ·rw[e]at q1;cases q1
       ·rw[<-e];exact q1
    ·cases hk
theorem Ak{B:dL}{Sg:Nat->af}{cg:Nat->List Value}{σ:St}(h:aT B F Sg cg σ a w){TT:Tab}(hT:cM P TT){fn:Func}{rv:List ResultVar}(hr:fn.results=rv.toArray){es:List ar}(he:jf TT σ rv=some es):∃ vs,cG F w σ.L σ.U cg es vs/\(results fn a.tmps).run P w=.ok (BZ vs) w:=by
 unfold results
 rw[hr,aP,Array.mapM_eq_mapM_toList]
 generalize hf:(λx:ResultVar=>(match x with
  |.tmp t=>pure (a.tmps.getD t undef)
  |.cell c t=>do loadVar t (<-asAddr (a.tmps.getD c undef)):Sem Value))=f
 obtain⟨vs,g1,g2⟩:=Aj h hT (f:=f) (λt=>by rw[<-hf]) (λt u=>by rw[<-hf]) he
 refine⟨vs,g1,?_⟩
 rw[show Sem.run P (List.toArray <$> List.mapM f rv.toArray.toList) w=.ok vs.toArray w by
  change Sem.run P (List.mapM f rv >>= λl=>pure l.toArray) w=_
  simp only[aP,g2,aR,bp]]
 simp only[aR,bp]
 congr 1
 cases vs with
 |nil=>simp[BZ]
 |cons t rv=>
  cases rv with
  |nil=>simp[BZ]
  |cons t2 rv=>simp[BZ]
theorem ju.get:∀ {ps:List (Ty×Md)} {x:(et ps).T} {vs:List Value} {S:af} (i:Nat) (p:Ty×Md),ju F w ps x vs S->ps[i]?=some p->∃ cs,VR p.1 cs (vs.getD i undef):=by
 intro ps
 induction ps with
 |nil=>intro x vs S i p _ h;simp at h
 |cons q ps ih=>
  rintro x vs S i p ⟨v,vs',cs,S1,S2,rfl,h1,h2,h3,_⟩ hi
  cases i with
  |zero=>simp at hi;subst hi;exact⟨cs,h2⟩
  |succ i=>simp at hi;simpa using ih i p h3 hi
theorem Pu:∀ (ps:List (Ty×Md)) (x:(et ps).T) (i j:Nat) (p:Ty×Md),ps[j]?=some p->dM p.2=false->(eI ps x i).U ((i+j)*8+6)=true:=by
 intro ps
 induction ps with
 |nil=>intro x i j p h;simp at h
 |cons q ps ih=>
  intro x i j p h hp
  cases j with
  |zero=>
   simp at h
   subst h
   simp only[eI,hp,cond_false,fS,cV,dW]
  |succ j=>
   simp at h
   have:=ih x.2 (i+1) j p h hp
   rw[show i+1+j=i+(j+1) by omega]at this
   simp only[eI]
   cases dM q.2
   ·simp only[cond_false,this,fy]
   ·exact this
theorem Iw{ps:List (Ty×Md)}:∀ {mi:List Nat},Iv ps mi=true->∀ i∈mi,∃ p,ps[i]?=some p/\dM p.2=false/\p.1.agg=false:=by
 intro mi
 induction mi with
 |nil=>intro _ i h;simp at h
 |cons j mi ih=>
  intro h i hi
  simp only[Iv,ag]at h
  rcases az.1 hi with rfl|hi
  ·cases hp:ps[i]? with
   |none=>rw[hp]at h;exact absurd h.1 (by simp)
   |some p=>
    rw[hp]at h
    simp only[ag,bz]at h
    exact⟨p,rfl,h.1⟩
  ·exact ih h.2 i hi
theorem RC{V:Env}(hV:gf P V){f:FuncId}{fn:Func}{c:Code}(hf:P.funcs[f]?=some fn)(hb:fn.body=some c){ps rs:List (Ty×Md)}{mi:List Nat}{ms:List (Ty×Md)}{rv:List ResultVar}(hr:fn.results=rv.toArray){N:Nat}(hN:fn.ntmps=N)(hps:ps.length<=N)(hmi:Iv ps mi=true)(an:Ann)(n:Nat):
 fX P f ⟨ps,rs,mi,ms,DO V N n c an ps rs mi ms rv⟩:=by
 intro x r hx F w S vs jZ hSF hF hS hG
 refine xY hf hb ?_
 have hlen:=jZ.len
 simp only at hlen
 have hx:DO V N n c an ps rs mi ms rv x=some r:=hx
 have jZ:ju F w ps x vs S:=jZ
 generalize ha0:({tmps:=vs.toArray++Array.replicate (fn.ntmps-vs.toArray.size) undef,defers:=[]}:Act)=a0
 have hsz:a0.tmps.size=N:=by rw[<-ha0];simp;omega
 have hde:a0.defers=[]:=by rw[<-ha0]
 have vN:∀ t,t<vs.length->a0.tmps.getD t undef=vs.getD t undef:=λt ht=>by
  rw[<-ha0]
  simp only[eO]
  rw[qH (by simpa using ht)]
  simp
 obtain⟨Sg,cg,i0,_,i2⟩:=L6 (a:=a0) (B:=⟨w,S,F,N,λ_=>none,hG,λp hp h=>hSF p h (hG p hp).1,λp hp=>hF p (hG p hp).1⟩) ⟨rfl,rfl,rfl,λ_=>rfl⟩ hsz hde vN hSF hF hS ps x 0 S (by simpa using jZ) (Sub.refl _)
 let B:dL:=⟨w,S,F,N,λl=>if(eI ps x 0).U l=true then some ((vs.getD (l / 8) undef).cells.toList)else none,hG,λp hp h=>hSF p h (hG p hp).1,λp hp=>hF p (hG p hp).1⟩
 have i1:aT B F Sg cg (eI ps x 0) a0 w:=
  {i0 with
   fr:=i0.fr
   fix:=λl cs hl=>by
    simp only[B]at hl
    by_cases hu:(eI ps x 0).U l=true
    ·rw[if_pos hu]at hl
     injection hl with hl
     obtain⟨_,q2,q3⟩:=i2 l hu
     exact⟨⟨hu,q2⟩,λb hb=>by rw[<-hl];exact q3 b hb⟩
    ·rw[if_neg hu]at hl;cases hl}
 have hwp:=LZ (B:=B) hV n c an (eI ps x 0) _ r a0 w hx ⟨F,Sg,cg,i1⟩
 have fin:∀ (σ':St) (a':Act) (w':World),L5 V.TT rs mi ms rv σ'=some r->Inv B σ' a' w'->a'.defers=[]/\∃ v,(results fn a'.tmps).run P w'=.ok v w'/\ue ⟨ps,rs,mi,ms,DO V N n c an ps rs mi ms rv⟩ r F w S vs (.returned v) w':=by
  rintro σ' a' w' hk ⟨F',Sg',cg',h⟩
  unfold L5 at hk
  cases hes:jf V.TT σ' rv with
  |none=>rw[hes]at hk;cases hk
  |some es=>
  rw[hes]at hk
  simp only at hk
  obtain⟨ws,RD,bY⟩:=Ak h hV.tab hr hes
  refine⟨h.defers,_,bY,?_⟩
  obtain⟨x',L1,bs,Sr,hk,hA,hL1,hSr,hbs⟩:=zo h rs es _ σ'.L _ r hk RD (λ_=>.inr rfl)
  have hFF:Sub F' (λk=>F' k\/∃ l∈bs,Sg' l k):=λk hk=>.inl hk
  obtain⟨ys,L2,Sm,hk,hM,hL2,hSm⟩:=L7 h hFF (vs:=vs) (mi0:=mi) (λi hi b hb hag=>by
   obtain⟨p,hp,ho,hpa⟩:=Iw hmi i hi
   have hU:=Pu ps x 0 i p hp ho
   rw[eE]at hU
   have hq:=(h.fix (i*8+6) ((vs.getD i undef).cells.toList) (by
    simp only[B]
    rw[if_pos hU,show(i*8+6) / 8=i by omega])).2 b hb
   obtain⟨cs,hcs⟩:=jZ.get i p hp
   rw[hq,hcs.cells]
   unfold VR at hcs |-
   rw[hpa]at hcs
   rw[hag]
   exact hcs) ms mi L1 _ r hk (λ_ h=>h) hL1
  cases fW:bs.all λl=>(L2 l).isSome
  ·rw[fW]at hk;cases hk
  rw[fW]at hk
  simp only[cond_true,bh]at hk
  subst hk
  simp only[cR]at fW
  have hbl:∀ l∈bs,∃ b,L2 l=some b/\L1 l=some b/\σ'.L l=some b:=λl hl=>by
   obtain⟨b,hb⟩:=kN.1 (fW l hl)
   have h1:L1 l=some b:=by
    rcases hL2 l with e|e
    ·rw[e]at hb;cases hb
    ·rw[<-e];exact hb
   refine⟨b,hb,h1,?_⟩
   rcases hL1 l with e|e
   ·rw[e]at h1;cases h1
   ·rw[<-e];exact h1
  have Tu:∀ k,Sr k\/Sm k->¬∃ l∈bs,Sg' l k:=by
   rintro k hk ⟨l,hl,hlk⟩
   obtain⟨b,q1,q2,q3⟩:=hbl l hl
   rcases hk with hk|hk
   ·obtain⟨l2,b2,e1,e2,e3,e4⟩:=hSr k hk
    by_cases e:l2=l
    ·subst e;rw[e3]at q2;cases q2
    ·exact h.dis l2 l b2 b e e2 q3 k e4 hlk
   ·obtain⟨l2,b2,e1,e2,e3,e4⟩:=hSm k hk
    by_cases e:l2=l
    ·subst e;rw[e3]at q1;cases q1
    ·exact h.dis l2 l b2 b e e2 q3 k e4 hlk
  refine⟨_,λk=>F' k\/∃ l∈bs,Sg' l k,Sr,Sm,rfl,hA _ hFF (λl hl k hk=>.inr ⟨l,hl,hk⟩),hM,?_,h.fr,?_,?_,?_,?_⟩
  ·intro k h1 h2
   obtain⟨l2,b2,e1,e2,e3,e4⟩:=hSr k h1
   obtain⟨l3,b3,f1,f2,f3,f4⟩:=hSm k h2
   by_cases e:l2=l3
   ·subst e;rw[e3]at f1;cases f1
   ·exact h.dis l2 l3 b2 b3 e e2 f2 k e4 f4
  ·exact λk hk=>.inl (h.f0 k hk)
  ·rintro k (hk|⟨l,hl,hk⟩)
   ·exact h.fl k hk
   ·obtain⟨b,_,_,q3⟩:=hbl l hl;exact h.lt l b q3 k hk
  ·rintro k (hk|⟨l,hl,hk⟩) hlt hns
   ·exact h.fs k hk hlt hns
   ·obtain⟨b,_,_,q3⟩:=hbl l hl;exact absurd (h.may l b q3 k hk hlt) hns
  ·intro k hk
   have hl2:∃ l2 b2,σ'.L l2=some b2/\Sg' l2 k:=by
    rcases hk with hk|hk
    ·obtain⟨l2,b2,e1,e2,e3,e4⟩:=hSr k hk;exact⟨l2,b2,e2,e4⟩
    ·obtain⟨l2,b2,e1,e2,e3,e4⟩:=hSm k hk;exact⟨l2,b2,e2,e4⟩
   obtain⟨l2,b2,e2,e4⟩:=hl2
   exact⟨h.lt l2 b2 e2 k e4,λhf=>hf.elim (h.eF l2 b2 e2 k e4) (Tu k hk),λhlt=>h.may l2 b2 e2 k e4 hlt⟩
 exact gY hwp (λe a' w' hp=>by
  cases e with
  |normal=>obtain⟨σ',h1,h2,_⟩:=hp;exact fin σ' a' w' h1 h2
  |ret=>obtain⟨σ',h1,h2⟩:=hp;exact fin σ' a' w' h1 h2
  |exit i=>obtain⟨σ',h1,_⟩:=hp;cases h1
  |goto _=>exact hp.elim
  |panic _=>exact hp.elim
  |outgrown=>exact hp.elim)
end
def Al:List (Nat×TD)->Tab
 |[]=>λ_=>none
 |p::ps=>λt=>bif Nat.beq t p.1 then some p.2 else Al ps t
def RE(P:Program):List (Nat×TD)->Prop
 |[]=>True
 |p::ps=>TOk P p.1 p.2/\RE P ps
theorem Ix{P:Program}:∀ {l:List (Nat×TD)},RE P l->cM P (Al l):=by
 intro l
 induction l with
 |nil=>intro _ t d h;cases h
 |cons p ps ih=>
  intro hl t d h
  simp only[Al]at h
  cases hb:Nat.beq t p.1
  ·rw[hb]at h;exact ih hl.2 t d h
  ·rw[hb]at h
   simp only[cond_true,bh]at h
   subst h
   rw[bg hb]
   exact hl.1
theorem aA{P:Program}{t:Nat}{i:TypeInfo}{d:TD}{z:Value}(h:∀ w:World,(typeInfo t).run P w=.ok i w)(h1:i.size=d.ty.width)(h2:i.bytes=d.bytes)(h3:i.zero=some z)(h4:z.cells.toList=d.zero):∃ i z,P.info? t=some i/\i.size=d.ty.width/\i.bytes=d.bytes/\i.zero=some z/\z.cells.toList=d.zero:=by
 refine⟨i,z,?_,h1,h2,h3,h4⟩
 have h0:=h default
 cases hi:P.info? t with
 |none=>simp[typeInfo,hi]at h0
 |some j=>
  simp[typeInfo,hi]at h0
  rw[h0]
theorem jr{P:Program}{t:Nat}{i:TypeInfo}{d:TD}{k0:IntKind}(hd:d.kd=.int k0)(h:∀ w:World,(typeInfo t).run P w=.ok i w)(h3:i.zero=some (.int k0 0)):∀ k,d.kd=.int k->∃ i,P.info? t=some i/\i.zero=some (.int k 0):=by
 intro k hk
 rw[hd]at hk
 cases hk
 have h0:=h default
 cases hi:P.info? t with
 |none=>simp[typeInfo,hi]at h0
 |some j=>
  simp[typeInfo,hi]at h0
  exact⟨j,rfl,by rw[h0];exact h3⟩
theorem bc{P:Program}{t:Nat}{d:TD}(hd:(match d.kd with|.int _=>false|_=>true)=true):∀ k,d.kd=.int k->∃ i,P.info? t=some i/\i.zero=some (.int k 0):=by
 intro k hk
 rw[hk]at hd
 cases hd
def DP:List (FuncId×Callee)->FuncId->Option Callee
 |[],_=>none
 |p::ps,f=>bif Nat.beq f p.1 then some p.2 else DP ps f
def Pv(P:Program):List (FuncId×Callee)->Prop
 |[]=>True
 |p::ps=>(fX P p.1 p.2/\Plain P p.1)/\Pv P ps
theorem Iy{P:Program}:∀ {l:List (FuncId×Callee)},Pv P l->∀ f c,DP l f=some c->fX P f c/\Plain P f:=by
 intro l
 induction l with
 |nil=>intro _ f c h;cases h
 |cons p ps ih=>
  intro hl f c h
  simp only[DP]at h
  cases hb:Nat.beq f p.1
  ·rw[hb]at h;exact ih hl.2 f c h
  ·rw[hb]at h
   simp only[cond_true,bh]at h
   subst h
   rw[bg hb]
   exact hl.1
theorem fX.of_eq{P:Program}{f:FuncId}{ps rs:List (Ty×Md)}{mi:List Nat}{ms:List (Ty×Md)}{den Pw:(et ps).T->Option ((et rs).T×(et ms).T)}(h:fX P f ⟨ps,rs,mi,ms,den⟩)(he:∀ x,Pw x=den x):fX P f ⟨ps,rs,mi,ms,Pw⟩:=by
 have:Pw=den:=funext he
 rw[this];exact h
def Ge(rd:TypeId->Ty->Bool):List (TypeId×Nat)->Ty->Nat->Bool
 |[],u,_=>(match u with|.unit=>true|_=>false)
 |[p],u,k=>Nat.beq p.2 k&&rd p.1 u
 |p::q::fs,u,k=>(match u with
  |.pair a b=>Nat.beq p.2 k&&(rd p.1 a&&Ge rd (q::fs) b (k+a.width))
  |_=>false)
def s7(TT:Tab):Nat->TypeId->Ty->Bool
 |0,_,_=>false
 |n+1,t,ty=>match TT t with
  |none=>false
  |some d=>decide (d.ty=ty)&&(match d.kd with
   |.int k=>decide (ty=.int k)
   |.bool=>decide (ty=.bool)
   |.str=>decide (ty=.str)
   |.slice e=>(match ty with|.sl u=>s7 TT n e u&&Nat.blt 0 u.width|_=>false)
   |.array m e=>(match ty with|.arr m' u=>Nat.beq m m'&&s7 TT n e u|_=>false)
   |.struct fs=>(match ty with|.st u=>Ge (s7 TT n) fs u 0|_=>false)
   |_=>false)
theorem nv{TT:Tab}{P:Program}(hT:cM P TT){n:Nat}{t:TypeId}{ty:Ty}(h:s7 TT n t ty=true):P.cellsOf t=ty.width:=by
 cases n with
 |zero=>cases h
 |succ n=>
  simp only[s7]at h
  cases hd:TT t with
  |none=>rw[hd]at h;cases h
  |some d=>
   rw[hd]at h
   simp only[ag,decide_eq_true_eq]at h
   obtain⟨i,z,h1,h2,_⟩:=(hT t d hd).vI
   simp[Program.cellsOf,h1,h2,h.1]
theorem mapM_some{α β:Type}{f:α->Option β}:∀ {l:List α} {xs:List β},l.mapM f=some xs->xs.length=l.length/\∀ (i:Nat) (a:α),l[i]?=some a->∃ x:β,xs[i]?=some x/\f a=some x:=by
 intro l
 induction l with
 |nil=>intro xs h;simp at h;subst h;exact⟨rfl,λi a h=>by simp at h⟩
 |cons a l ih=>
  intro xs h
  rw[List.mapM_cons]at h
  cases ha:f a with
  |none=>rw[ha]at h;cases h
  |some b=>
   rw[ha]at h
   cases hl:l.mapM f with
   |none=>rw[hl]at h;cases h
   |some bs=>
    rw[hl]at h
    have h:some (b::bs)=some xs:=h
    injection h with h
    subst h
    obtain⟨h1,h2⟩:=ih hl
    refine⟨by simp[h1],λi x hi=>?_⟩
    cases i with
    |zero=>simp at hi;subst hi;exact⟨b,rfl,ha⟩
    |succ i=>simp at hi;simpa using h2 i x hi
section
variable {H:Type} {enc:TypeId×Value->H} {P:Program} {w:World}
theorem Iz{a:Addr}{n:Nat}{cs:List Value}(h:w.cells? 0 a n=some cs):cs.length=n/\At w a cs:=by
 unfold World.cells? at h
 rw[if_pos (aH _)]at h
 obtain⟨h1,h2⟩:=mapM_some h
 refine⟨by simpa using h1,λj v hj=>?_⟩
 have hlt:j<n:=by have:=(bm.1 hj).1;simp at h1;omega
 obtain⟨x,hx,hc⟩:=h2 j j (by simp[hlt])
 rw[hj]at hx
 injection hx with hx
 rw[hx];exact hc
theorem L8{t:Ty}{F:af}{a:Addr}{len:Nat}(h:∀ i,i<len->∃ cs x,w.cells? 0 (a.add (i*t.width)) t.width=some cs/\Rep F w t .ro x cs af.none):∃ (xs:List t.T) (ds:List Value),xs.length=len/\At w a ds/\ds.length=len*t.width/\bq (Rep F w t .ro) xs ds af.none:=by
 induction len with
 |zero=>exact⟨[],[],rfl,λj v hj=>by simp at hj,by simp,rfl⟩
 |succ len ih=>
  obtain⟨xs,ds,h1,h2,h3,h4⟩:=ih (λi hi=>h i (by omega))
  obtain⟨cs,x,h5,h6⟩:=h len (by omega)
  obtain⟨h7,h8⟩:=Iz h5
  refine⟨xs++[x],ds++cs,by simp[h1],λj v hj=>?_,by rw[ak,h3,h7,jJ],?_⟩
  ·rcases ap j ds.length with hlt|hge
   ·rw[dR hlt]at hj;exact h2 j v hj
   ·rw[fo hge]at hj
    have:=h8 (j-ds.length) v hj
    rw[add_add,<-h3]at this
    rw[show ds.length+(j-ds.length)=j by omega]at this
    exact this
  ·have h7:bq (Rep F w t .ro) [x] cs af.none:=⟨cs,[],af.none,af.none,by simp,h6,rfl,Sub.refl _,Sub.refl _,λ_ h=>h.elim⟩
   exact(bq.append h4 h7 (λ_ h=>h.elim)).mono (λk h=>h.elim id id)
theorem L9{a:Addr}{v:Value}(h:w.cell? a=some v):a.block<w.heap.size:=by
 rcases ap a.block w.heap.size with h'|h'
 ·exact h'
 ·simp[World.cell?,Array.getElem?_eq_none h']at h
def LtB(w:World):af:=λk=>k<w.heap.size
theorem Px{TT:Tab}(hT:cM P TT){n:Nat}{F:af}{g:TypeId->List Value->Prop}
 (ih:∀ t ty cs,s7 TT n t ty=true->g t cs->∃ x,Rep F w ty .ro x cs af.none):
 ∀ (fs:List (TypeId×Nat)) (u:Ty) (k:Nat) (cs:List Value),Ge (s7 TT n) fs u k=true->k<=cs.length->(cs.length=k+u.width)->
  (∀ f∈fs,g f.1 ((cs.drop f.2).take (P.cellsOf f.1)))->∃ x,Rep F w u .ro x (cs.drop k) af.none:=by
 intro fs
 induction fs with
 |nil=>
  intro u k cs h hk hl _
  cases u <;> simp only[Ge,au]at h
  exact⟨(),fq (by simp[Ty.width]at hl;omega)⟩
 |cons p fs ihf=>
  intro u k cs h hk hl hg
  cases fs with
  |nil=>
   simp only[Ge,ag]at h
   obtain⟨x,hx⟩:=ih p.1 u _ h.2 (hg p (by simp))
   rw[bg h.1,nv hT h.2,bR (by rw[bB];omega)]at hx
   exact⟨x,hx⟩
  |cons q fs=>
   simp only[Ge]at h
   cases u <;> simp only[au,ag]at h
   rename_i a b
   obtain⟨h1,h2,h3⟩:=h
   simp only[Ty.width]at hl
   obtain⟨x,hx⟩:=ih p.1 a _ h2 (hg p (by simp))
   obtain⟨y,hy⟩:=ihf b (k+a.width) cs h3 (by omega) (by omega) (λf hf=>hg f (by simp only[az]at hf |-;exact .inr hf))
   rw[bg h1,nv hT h2]at hx
   refine⟨(x,y),_,_,af.none,af.none,?_,hx,hy,Sub.refl _,Sub.refl _,λ_ h=>h.elim⟩
   rw[<-gM]
   exact(eA _ _).symm
theorem IA{TT:Tab}(hT:cM P TT){spare:Nat->Bool}{held:Bool}:∀ (n:Nat) (t:TypeId) (ty:Ty),s7 TT n t ty=true->∀ (cm:Nat) (cs:List Value) (d:DataW H×List MemPlace),DataW.trod enc P w 0 spare held cm t cs=some d->∃ x,Rep (LtB w) w ty .ro x cs af.none:=by
 intro n
 induction n with
 |zero=>intro t ty h;cases h
 |succ n ih=>
  intro t ty h cm cs d hd
  have RF:=nv hT h
  simp only[s7]at h
  cases hdd:TT t with
  |none=>rw[hdd]at h;cases h
  |some td=>
  rw[hdd]at h
  simp only[ag,decide_eq_true_eq]at h
  obtain⟨hty,h⟩:=h
  have bK:=(hT t td hdd).desc
  split at h
  ·rename_i k hk
   rw[hk]at bK
   have h:=of_decide_eq_true h
   subst h
   obtain⟨m,rfl,_,hwf⟩:=DataW.trod_int bK.1 hd
   refine⟨m,rfl,?_⟩
   simp only[Lit.wf,ag,decide_eq_true_eq]at hwf
   revert hwf
   cases k <;> simp[inK,kLo,kHi,IntKind.min,IntKind.max,IntKind.signed,IntKind.bits] <;> omega
  ·rename_i hk
   rw[hk]at bK
   have h:=of_decide_eq_true h
   subst h
   obtain⟨m,rfl,_⟩:=DataW.trod_bool bK.1 hd
   exact⟨m,rfl⟩
  ·rename_i hk
   rw[hk]at bK
   have h:=of_decide_eq_true h
   subst h
   obtain⟨m,rfl,_,hs⟩:=DataW.trod_string bK.1 hd
   exact⟨cr m,m,rfl,rfl,hs⟩
  ·rename_i e hk
   rw[hk]at bK
   cases ty <;> simp only[au]at h
   rename_i u
   simp only[ag]at h
   obtain⟨h,hw0⟩:=h
   have hw0:=show 0<u.width by simpa [lj]using hw0
   rcases DataW.trod_slice bK hd with⟨rfl,_⟩|⟨a,len,cap,Oi,rest,m,_,rfl,_,_,h1,h2,h3,h4,_⟩
   ·exact⟨[],none,0,rfl,aq _,aH _,λh=>absurd h (eR _)⟩
   ·have kq:=nv hT h
    have gS:∀ i,i<len->∃ cs x,w.cells? 0 (a.add (i*u.width)) u.width=some cs/\Rep (LtB w) w u .ro x cs af.none:=λi hi=>by
     have:=h4 i hi
     rw[kq]at this
     cases hc:w.cells? 0 (a.add (i*u.width)) u.width with
     |none=>rw[hc]at this;simp[ah (show i<Oi.length by omega)]at this
     |some cs=>
      rw[hc]at this
      simp only[gK]at this
      rw[ah (show i<Oi.length by omega)]at this
      obtain⟨x,hx⟩:=ih e u h _ _ _ this
      exact⟨cs,x,rfl,hx⟩
    obtain⟨xs,ds,g1,g2,g3,g4⟩:=L8 gS
    refine⟨xs,some a,cap,?_,by rw[g1];exact h1,h2,λhp=>⟨a,rfl,?_,ds,g2,g4⟩⟩
    ·show _=[Value.slice (some a) (List.length xs) cap];rw[g1]
    ·have h0:0<ds.length:=by rw[g3];rw[g1]at hp;exact Nat.mul_pos hp hw0
     have hcc:=g2 0 ds[0] (by simp[h0])
     have:=L9 hcc
     rwa [jL]at this
  ·rename_i m e hk
   rw[hk]at bK
   cases ty <;> simp only[au]at h
   rename_i m' u
   simp only[ag]at h
   obtain⟨h,hw0⟩:=h
   have h:=bg h
   subst h
   obtain⟨xs,k,_,_,g1,g2,g3⟩:=DataW.trod_array bK hd
   have kq:=nv hT hw0
   rw[RF]at g1
   have key:∀ j,j<=m->∃ ys:List u.T,ys.length=j/\bq (Rep (LtB w) w u .ro) ys (cs.take (j*u.width)) af.none:=by
    intro j
    induction j with
    |zero=>intro _;exact⟨[],rfl,by simp[bq]⟩
    |succ j ihj=>
     intro hj
     obtain⟨ys,q1,q2⟩:=ihj (by omega)
     have:=g3 j (by omega)
     rw[kq,ah (show j<xs.length by omega)]at this
     obtain⟨x,hx⟩:=ih e u hw0 _ _ _ this
     refine⟨ys++[x],by simp[q1],?_⟩
     have e1:cs.take ((j+1)*u.width)=cs.take (j*u.width)++(cs.drop (j*u.width)).take u.width:=by
      rw[jJ,List.take_add]
     rw[e1]
     have h7:bq (Rep (LtB w) w u .ro) [x] ((cs.drop (j*u.width)).take u.width) af.none:=⟨_,[],af.none,af.none,(b9 _).symm,hx,rfl,Sub.refl _,Sub.refl _,λ_ h=>h.elim⟩
     exact(bq.append q2 h7 (λ_ h=>h.elim)).mono (λk h=>h.elim id id)
   obtain⟨ys,q1,q2⟩:=key m (aq _)
   rw[bR (by rw[g1];exact aq _)]at q2
   exact⟨ys,q1,q2⟩
  ·rename_i fs hk
   rw[hk]at bK
   obtain⟨f,hf1,hf2⟩:=bK
   cases ty <;> simp only[au]at h
   rename_i u
   obtain⟨xs,k,_,_,g1,g2,g3⟩:=DataW.trod_struct hf1 hd
   rw[RF]at g1
   obtain⟨x,hx⟩:=Px hT (F:=LtB w) (g:=λt cs=>∃ d,DataW.trod enc P w 0 spare held k t cs=some d) (λt ty cs hr hg=>by obtain⟨d,hg⟩:=hg;exact ih t ty hr _ _ _ hg) fs u 0 cs h (aH _) (by rw[g1];simp[Ty.width]) (λp hp=>by
    rw[<-hf2]at hp
    obtain⟨fl,hfl,rfl⟩:=gN.1 hp
    obtain⟨i,hi⟩:=kQ.1 hfl
    have hi':f[i]?=some fl:=by simpa using hi
    have hlt:i<f.size:=(jB.1 hi').1
    exact⟨_,(g3 i fl hi').trans (ah (show i<xs.length by omega))⟩)
   rw[du]at hx
   exact⟨x,hx⟩
  ·cases h
end
def WfT:(t:Ty)->t.T->Prop
 |.int k,n=>inK k n
 |.bool,_=>True
 |.str,s=>List.length s<=maxLen/\∀ c∈(s:List Int),0<=c/\c<=255
 |.unit,_=>True
 |.pair a b,x=>WfT a x.1/\WfT b x.2
 |.st t,x=>WfT t x
 |.sl t,x=>List.length x<=maxLen/\∀ y∈(x:List t.T),WfT t y
 |.arr n t,x=>List.length x=n/\∀ y∈(x:List t.T),WfT t y
 |.box t,x=>WfT t x
 |.ptr _,none=>True
 |.ptr t,some x=>WfT t x
 |.jP,_=>True
 |.hol _,_=>True
 |.chan,_=>True
 |.fn _,_=>True
 |.may _,_=>True
 |.nl t,x=>List.length x<=maxLen/\∀ y∈(x:List t.T),WfT t y
 |.map k v,x=>∀ p∈(x:List (k.T×v.T)),WfT k p.1/\WfT v p.2
theorem pY{α:Type}{R:α->List Value->af->Prop}{p:α->Prop}(hp:∀ y c S,R y c S->p y):∀ {x:List α} {cs:List Value} {S:af},bq R x cs S->∀ y∈x,p y:=by
 intro x
 induction x with
 |nil=>intro cs S _ y hy;simp at hy
 |cons z zs ih=>
  rintro cs S ⟨c1,c2,S1,S2,rfl,h1,h2,_⟩ y hy
  rcases az.1 hy with rfl|hy
  ·exact hp _ _ _ h1
  ·exact ih h2 y hy
theorem Py{F:af}{w:World}:∀ (t:Ty) (m:Md) (x:t.T) (cs:List Value) (S:af),Rep F w t m x cs S->WfT t x:=by
 intro t
 induction t with
 |int k=>intro m x cs S h;exact h.2
 |bool=>intro m x cs S h;trivial
 |str=>
  rintro m x cs S ⟨u,rfl,rfl,hs⟩
  refine⟨by simpa [cr]using hs,λc hc=>?_⟩
  obtain⟨b,_,rfl⟩:=gN.1 hc
  have:=b.toNat_lt
  omega
 |unit=>intro m x cs S h;trivial
 |jP=>intro m x cs S h;trivial
 |hol t ih=>intro m x cs S h;trivial
 |chan=>intro m x cs S h;trivial
 |fn f=>intro m x cs S h;trivial
 |nl t ih=>
  rintro m x cs S ⟨⟨a,cap,rfl,h1,h2,h3⟩,_⟩
  refine⟨bF h1 h2,λy hy=>?_⟩
  obtain⟨ad,_,_,ds,_,hr⟩:=h3 (qM hy)
  exact pY (λy c S h=>ih _ _ _ _ h) hr y hy
 |map k v ihk ihv=>
  intro m x cs S h
  have main:∀ (es:List MapEntry) (i:Nat),dY (RV (Rep F w k .ro)) (RV (Rep F w v .ro)) x es i->∀ p∈(x:List (k.T×v.T)),WfT k p.1/\WfT v p.2:=by
   clear h
   induction x with
   |nil=>intro es i _ p hp;simp at hp
   |cons y ys ih=>
    rintro es i ⟨e,r,rfl,_,⟨ck,hk,_⟩,⟨cv,hv,_⟩,hr⟩ p hp
    rcases az.1 hp with rfl|hp
    ·exact⟨ihk _ _ _ _ hk,ihv _ _ _ _ hv⟩
    ·exact ih r (i+1) hr p hp
  cases m with
  |own m=>obtain⟨b,es,_,_,_,hr⟩:=h;exact main _ _ hr
  |ro=>
   rcases h with⟨_,rfl⟩|⟨b,es,_,_,_,hr⟩
   ·intro p hp;simp at hp
   ·exact main _ _ hr
  |pr _ _=>
   rcases h with⟨_,rfl⟩|⟨b,es,_,_,_,hr⟩
   ·intro p hp;simp at hp
   ·exact main _ _ hr
 |may t ih=>intro m x cs S h;trivial
 |pair a b iha ihb=>
  rintro m x cs S ⟨c1,c2,S1,S2,rfl,h1,h2,_⟩
  exact⟨iha _ _ _ _ h1,ihb _ _ _ _ h2⟩
 |st t ih=>intro m x cs S h;exact ih m x cs S h
 |arr n t ih=>rintro m x cs S ⟨hn,h⟩;exact⟨hn,pY (λy c S=>ih m.el y c S) h⟩
 |sl t ih=>
  have ro:∀ (x:List t.T) (cs:List Value),BJ F w (Rep F w t .ro) x cs->List.length x<=maxLen/\∀ y∈x,WfT t y:=by
   rintro x cs ⟨a,cap,rfl,h1,h2,h3⟩
   refine⟨bF h1 h2,λy hy=>?_⟩
   obtain⟨ad,rfl,_,ds,_,hr⟩:=h3 (qM hy)
   exact pY (λy c S=>ih .ro y c S) hr y hy
  intro m x cs S h
  cases m with
  |ro=>exact ro x cs h
  |pr _ _=>exact ro x cs h
  |own m=>
   obtain⟨a,cap,rfl,h1,h2,h3⟩:=h
   refine⟨bF h1 h2,λy hy=>?_⟩
   rcases h3 with rfl|⟨b,off,c,e,rfl,hb,hc,hS,S1,hr,s1,n1⟩
   ·have:=qM hy;omega
   ·exact pY (λy c S=>ih m y c S) hr y hy
 |box t ih=>
  intro m x cs S h
  cases m with
  |own m=>obtain⟨b,c,e,rfl,hb,hS,S1,hr,_⟩:=h;exact ih m x _ _ hr
  |ro=>obtain⟨a,rfl,_,ds,_,hr⟩:=h;exact ih .ro x _ _ hr
  |pr _ _=>obtain⟨a,rfl,_,ds,_,hr⟩:=h;exact ih .ro x _ _ hr
 |ptr t ih=>
  intro m x cs S h
  cases x with
  |none=>trivial
  |some x=>
   cases m with
   |own m=>obtain⟨b,c,e,rfl,hb,hS,S1,hr,_⟩:=h;exact ih m x _ _ hr
   |ro=>obtain⟨a,rfl,_,ds,_,hr⟩:=h;exact ih .ro x _ _ hr
   |pr _ _=>obtain⟨a,rfl,_,ds,_,hr⟩:=h;exact ih .ro x _ _ hr
open Go Go.ChangeShapes Go.RowKit
section
variable {H:Type} {enc:TypeId×Value->H} {P:Program} {w:World}
theorem Gf{TT:Tab}(hT:cM P TT){n:Nat}{t:TypeId}{ty:Ty}(h:s7 TT n t ty=true){r:Reach}{base:Nat}{v:Value}(hv:Value.okWide P w r base t v):VR ty v.cells.toList v:=by
 cases n with
 |zero=>cases h
 |succ n=>
  simp only[s7]at h
  cases hdd:TT t with
  |none=>rw[hdd]at h;cases h
  |some td=>
  rw[hdd]at h
  simp only[ag,decide_eq_true_eq]at h
  obtain⟨hty,h⟩:=h
  have bK:=(hT t td hdd).desc
  split at h
  ·rename_i k hk
   rw[hk]at bK
   have h:=of_decide_eq_true h
   subst h
   simp only[Value.okWide,bK.1,Cell.okWide,Cell.ok]at hv
   cases v <;> simp_all [VR,Ty.agg,Value.cells,Value.oneCell']
  ·rename_i hk
   rw[hk]at bK
   have h:=of_decide_eq_true h
   subst h
   simp only[Value.okWide,bK.1,Cell.okWide,Cell.ok]at hv
   cases v <;> simp_all [VR,Ty.agg,Value.cells,Value.oneCell']
  ·rename_i hk
   rw[hk]at bK
   have h:=of_decide_eq_true h
   subst h
   simp only[Value.okWide,bK.1,Cell.okWide,Cell.ok]at hv
   cases v <;> simp_all [VR,Ty.agg,Value.cells,Value.oneCell']
  ·rename_i e hk
   rw[hk]at bK
   cases ty <;> simp only[au]at h
   simp only[Value.okWide,bK,Cell.okWide,Cell.ok]at hv
   cases v <;> simp_all [VR,Ty.agg,Value.cells,Value.oneCell']
  ·rename_i m e hk
   rw[hk]at bK
   cases ty <;> simp only[au]at h
   simp only[Value.okWide,bK]at hv
   obtain⟨cs,rfl,_⟩:=hv
   simp[VR,Ty.agg,Value.cells]
  ·rename_i fs hk
   rw[hk]at bK
   obtain⟨f,hf1,hf2⟩:=bK
   cases ty <;> simp only[au]at h
   simp only[Value.okWide,hf1]at hv
   obtain⟨cs,rfl,_⟩:=hv
   simp[VR,Ty.agg,Value.cells]
  ·cases h
def Am(TT:Tab)(n:Nat):List TypeId->List (Ty×Md)->Bool
 |[],[]=>true
 |t::ts,p::ps=>s7 TT n t p.1&&decide (p.2=.ro)&&Am TT n ts ps
 |_,_=>false
def WfA:(ps:List (Ty×Md))->(et ps).T->Prop
 |[],_=>True
 |p::ps,x=>WfT p.1 x.1/\WfA ps x.2
theorem Ma{F:af}:∀ {ps:List (Ty×Md)} {x:(et ps).T} {vs:List Value} {S:af},ju F w ps x vs S->WfA ps x:=by
 intro ps
 induction ps with
 |nil=>intro x vs S _;trivial
 |cons p ps ih=>
  rintro x vs S ⟨v,vs',cs,S1,S2,rfl,h1,h2,h3,_⟩
  exact⟨Py _ _ _ _ _ h1,ih h3⟩
theorem Mb{TT:Tab}(hT:cM P TT){n:Nat}{r:Reach}{base:Nat}{spare:Nat->Bool}{held:Bool}:∀ (ts:List TypeId) (ps:List (Ty×Md)) (vs:List Value) (ds:List (DataW H)) (pl:List MemPlace),Am TT n ts ps=true->DataW.TrodAll enc P w 0 spare held ts vs ds pl->
 (∀ (j:Nat) t v,ts[j]?=some t->vs[j]?=some v->Value.okWide P w r base t v)->∃ x,ju (LtB w) w ps x vs af.none:=by
 intro ts
 induction ts with
 |nil=>
  intro ps vs ds pl h hA _
  cases ps <;> simp only[Am,au]at h
  obtain⟨rfl,_⟩:=trodAll_nil hA
  exact⟨(),rfl⟩
 |cons t ts ih=>
  intro ps vs ds pl h hA hv
  cases ps with
  |nil=>cases h
  |cons p ps=>
   simp only[Am,ag,decide_eq_true_eq]at h
   obtain⟨⟨h1,h2⟩,h3⟩:=h
   obtain⟨v,vs1,d,ds1,a,b,rfl,rfl,rfl,⟨cm,g1⟩,g2⟩:=trodAll_cons hA
   obtain⟨x,hx⟩:=IA hT n t p.1 h1 cm _ _ g1
   obtain⟨y,hy⟩:=ih ps vs1 ds1 b h3 g2 (λj t v ht hv'=>hv (j+1) t v (by simpa using ht) (by simpa using hv'))
   rw[<-h2]at hx
   exact⟨(x,y),v,vs1,_,af.none,af.none,rfl,hx,Gf hT h1 (hv 0 t v rfl rfl),hy,Sub.refl _,Sub.refl _,λ_ h=>h.elim⟩
theorem Fr.below{w':World}(h:Fr w af.none w'):Below w.heap.size w w':=⟨h.os,h.tape,h.output,h.size,λk hk=>h.block k hk (λh=>h)⟩
theorem Gg{TT:Tab}(hT:cM P TT){n:Nat}{f:FuncId}{ps:List (Ty×Md)}{den:(et ps).T->Option ((et [(Ty.bool,Md.ro)]).T×(et []).T)}(hf:fX P f ⟨ps,[(.bool,.ro)],[],[],den⟩)
 (all:∀ x,WfA ps x->den x=some ((true,()),())) {r:Reach} {base:Nat} {ts:List TypeId} {args:Array Value} {ds:List (DataW H)} {pl:List MemPlace} {held:Bool} {spare:Nat->Bool} (hr:Am TT n ts ps=true) (hA:DataW.TrodAll enc P w 0 spare held ts args.toList ds pl)
 (hv:∀ (j:Nat) t v,ts[j]?=some t->args[j]?=some v->Value.okWide P w r base t v) (hG:Gh (LtB w) w):Calls P f args w λe w'=>e=.returned (.bool true)/\Below w.heap.size w w':=by
 obtain⟨x,hx⟩:=Mb hT ts ps args.toList ds pl hr hA (λj t v h1 h2=>hv j t v h1 (by simpa using h2))
 have:=hf x _ (all x (Ma hx)) (LtB w) w af.none args.toList hx (λ_ h=>h.elim) (λ_ h=>h) (λ_ h=>h.elim) hG
 refine Calls.mono (by simpa using this) λe w' hp=>?_
 cases e with
 |panicked _=>exact hp.elim
 |outgrown=>exact hp.elim
 |returned v=>
  obtain⟨ws,F',Sr,Sm,hrv,⟨v1,r1,cs,S1,S2,rfl,h1,h2,h3,_⟩,_,_,fr,_⟩:=hp
  cases h3
  simp only[Rep]at h1
  subst h1
  simp only[VR,Ty.agg,au,if_false]at h2
  obtain⟨h2,_⟩:=h2
  simp only[eQ,and_true]at h2
  subst h2
  simp only[Re,BZ]at hrv
  exact⟨by rw[hrv],fr.below⟩
theorem An:∀ (ts:List TypeId) (vs:List Value) (ds:List (DataW H)) (ps:List MemPlace) {spare:Nat->Bool} {held:Bool},DataW.TrodAll enc P w 0 spare held ts vs ds ps->ds.length=ts.length:=by
 intro ts
 induction ts with
 |nil=>intro vs ds ps _ _ h;obtain⟨rfl,rfl,rfl⟩:=trodAll_nil h;rfl
 |cons t ts ih=>
  intro vs ds ps _ _ h
  obtain⟨v,vs1,d,ds1,a,b,rfl,rfl,rfl,h1,h2⟩:=trodAll_cons h
  simp[ih vs1 ds1 b h2]
theorem vU(hl:laidOutB P=true){w':World}(hb:Below w.heap.size w w'):∀ (ts:List TypeId) (vs:List Value) (ds:List (DataW H)) (ps:List MemPlace),(ts.all λt=>P.readableRec t&&decide (t<P.types.size))=true->DataW.TrodAll enc P w 0 (λ_=>true) true ts vs ds ps->(∀ x∈ps,x.block<w.heap.size)->
 DataW.TrodAll enc P w' 0 (λb=>decide (b<w.heap.size)) true ts vs ds ps:=by
 intro ts
 induction ts with
 |nil=>intro vs ds ps _ h _;obtain⟨rfl,rfl,rfl⟩:=trodAll_nil h;exact rfl
 |cons t ts ih=>
  intro vs ds ps ha h hlt
  simp only[ol,ag,decide_eq_true_eq]at ha
  obtain⟨v,vs1,d,ds1,a,b,rfl,rfl,rfl,h1,h2⟩:=trodAll_cons h
  exact⟨a,b,Below.trod hl ha.1.1 ha.1.2 h1 hb (λx hx=>hlt x (by simp[hx])),ih vs1 ds1 b (by simpa using ha.2) h2 (λx hx=>hlt x (by simp[hx])),rfl⟩
theorem IB(hl:laidOutB P=true){fn:Func}{s:ChangeSpec}{args:Array Value}{ds gs:List (DataW H)}{before:List MemPlace}{w':World}(hv:s.vars=[])(hrt:∃ t,fn.resultTypes=#[t]/\P.underlying t=some .bool)
 (hfn:∀ ds:List (DataW H),ds.length=fn.params.size->s.fn H ds={results:=[.lit (.bool true)],args:=ds}) (hrd:(fn.params.toList.all λt=>P.readableRec t&&decide (t<P.types.size))=true)
 (hW:DataW.Whole enc P fn.params.toList s.vars false w args.toList ds gs before) (hb:Below w.heap.size w w'):s.post enc P fn false true false false w args (.bool true) w':=by
 have hW':=hW
 obtain⟨p,q,hA,hV,rfl,hfz,_⟩:=hW
 rw[hv]at hV
 obtain⟨rfl,rfl⟩:=trodVars_none hV
 have hlen:=An _ _ _ _ hA
 have hf:s.fn H (ds++[])={results:=[.lit (.bool true)],args:=ds}:=by rw[b9];exact hfn ds (by simpa using hlen)
 obtain⟨t,hrt,htb⟩:=hrt
 have hlt:∀ x∈p,x.block<w.heap.size:=λx hx=>by simpa using hW'.lt x (by simpa using hx)
 refine⟨ds,[],p++[],[],p,[],hW',?_,?_,?_,?_,λh=>by cases h⟩
 ·rw[hf,hrt]
  exact trodAll_mk1 (shut_bool htb true)
 ·rw[hf]
  exact vU hl hb _ _ _ _ hrd hA hlt
 ·rw[hv,hf];exact rfl
 ·exact World.keptBut_mono (λx hx=>hx) (hb.frame _)
end
end
noncomputable section
abbrev y2:Ty:=.int .i64
def d2:TD:=⟨.int .i64,8,y2,[(.int .i64 0)]⟩
theorem k2:TOk Tryz.prog 2 d2:=⟨aA Tryz.typeInfo2 rfl rfl rfl rfl,⟨Tryz.underlying2,rfl⟩,rfl,rfl,jr rfl Tryz.typeInfo2 rfl⟩
abbrev y3:Ty:=.int .i64
def d3:TD:=⟨.int .i64,8,y3,[(.int .i64 0)]⟩
theorem k3:TOk Tryz.prog 3 d3:=⟨aA Tryz.typeInfo3 rfl rfl rfl rfl,⟨Tryz.underlying3,rfl⟩,rfl,rfl,jr rfl Tryz.typeInfo3 rfl⟩
abbrev y4:Ty:=.bool
def d4:TD:=⟨.bool,1,y4,[(.bool false)]⟩
theorem k4:TOk Tryz.prog 4 d4:=⟨aA Tryz.typeInfo4 rfl rfl rfl rfl,⟨Tryz.underlying4,rfl⟩,rfl,rfl,bc rfl⟩
abbrev y5:Ty:=.int .u8
def d5:TD:=⟨.int .u8,1,y5,[(.int .u8 0)]⟩
theorem k5:TOk Tryz.prog 5 d5:=⟨aA Tryz.typeInfo5 rfl rfl rfl rfl,⟨Tryz.underlying5,rfl⟩,rfl,rfl,jr rfl Tryz.typeInfo5 rfl⟩
abbrev y6:Ty:=.int .u8
def d6:TD:=⟨.int .u8,1,y6,[(.int .u8 0)]⟩
theorem k6:TOk Tryz.prog 6 d6:=⟨aA Tryz.typeInfo6 rfl rfl rfl rfl,⟨Tryz.underlying6,rfl⟩,rfl,rfl,jr rfl Tryz.typeInfo6 rfl⟩
abbrev y7:Ty:=.st (.pair y2 (.pair y3 (.pair y4 (y6))))
def d7:TD:=⟨.struct [(2,0),(3,1),(4,2),(6,3)],24,y7,[(.int .i64 0),(.int .i64 0),(.bool false),(.int .u8 0)]⟩
theorem k7:TOk Tryz.prog 7 d7:=⟨aA Tryz.typeInfo7 rfl rfl rfl rfl,⟨_,Tryz.underlying7,rfl⟩,rfl,rfl,bc rfl⟩
abbrev y8:Ty:=.st (.pair y2 (.pair y3 (.pair y4 (y6))))
def d8:TD:=⟨.struct [(2,0),(3,1),(4,2),(6,3)],24,y8,[(.int .i64 0),(.int .i64 0),(.bool false),(.int .u8 0)]⟩
theorem k8:TOk Tryz.prog 8 d8:=⟨aA Tryz.typeInfo8 rfl rfl rfl rfl,⟨_,Tryz.underlying8,rfl⟩,rfl,rfl,bc rfl⟩
abbrev y9:Ty:=.str
def d9:TD:=⟨.str,16,y9,[(.string ByteArray.empty)]⟩
theorem k9:TOk Tryz.prog 9 d9:=⟨aA Tryz.typeInfo9 rfl rfl rfl rfl,⟨Tryz.underlying9,rfl⟩,rfl,rfl,bc rfl⟩
abbrev y10:Ty:=.str
def d10:TD:=⟨.str,16,y10,[(.string ByteArray.empty)]⟩
theorem k10:TOk Tryz.prog 10 d10:=⟨aA Tryz.typeInfo10 rfl rfl rfl rfl,⟨Tryz.underlying10,rfl⟩,rfl,rfl,bc rfl⟩
abbrev y11:Ty:=.str
def d11:TD:=⟨.str,16,y11,[(.string ByteArray.empty)]⟩
theorem k11:TOk Tryz.prog 11 d11:=⟨aA Tryz.typeInfo11 rfl rfl rfl rfl,⟨Tryz.underlying11,rfl⟩,rfl,rfl,bc rfl⟩
abbrev y12:Ty:=.int .u64
def d12:TD:=⟨.int .u64,8,y12,[(.int .u64 0)]⟩
theorem k12:TOk Tryz.prog 12 d12:=⟨aA Tryz.typeInfo12 rfl rfl rfl rfl,⟨Tryz.underlying12,rfl⟩,rfl,rfl,jr rfl Tryz.typeInfo12 rfl⟩
abbrev y13:Ty:=.st (.pair y9 (y12))
def d13:TD:=⟨.struct [(9,0),(12,1)],24,y13,[(.string ByteArray.empty),(.int .u64 0)]⟩
theorem k13:TOk Tryz.prog 13 d13:=⟨aA Tryz.typeInfo13 rfl rfl rfl rfl,⟨_,Tryz.underlying13,rfl⟩,rfl,rfl,bc rfl⟩
abbrev y14:Ty:=.st (.pair y9 (y12))
def d14:TD:=⟨.struct [(9,0),(12,1)],24,y14,[(.string ByteArray.empty),(.int .u64 0)]⟩
theorem k14:TOk Tryz.prog 14 d14:=⟨aA Tryz.typeInfo14 rfl rfl rfl rfl,⟨_,Tryz.underlying14,rfl⟩,rfl,rfl,bc rfl⟩
abbrev y21:Ty:=.int .i32
def d21:TD:=⟨.int .i32,4,y21,[(.int .i32 0)]⟩
theorem k21:TOk Tryz.prog 21 d21:=⟨aA Tryz.typeInfo21 rfl rfl rfl rfl,⟨Tryz.underlying21,rfl⟩,rfl,rfl,jr rfl Tryz.typeInfo21 rfl⟩
abbrev y23:Ty:=.sl y9
def d23:TD:=⟨.slice 9,24,y23,[(.slice none 0 0)]⟩
theorem k23:TOk Tryz.prog 23 d23:=⟨aA Tryz.typeInfo23 rfl rfl rfl rfl,Tryz.underlying23,rfl,rfl,bc rfl⟩
abbrev y28:Ty:=.sl y3
def d28:TD:=⟨.slice 3,24,y28,[(.slice none 0 0)]⟩
theorem k28:TOk Tryz.prog 28 d28:=⟨aA Tryz.typeInfo28 rfl rfl rfl rfl,Tryz.underlying28,rfl,rfl,bc rfl⟩
abbrev y29:Ty:=.arr 2 y3
def d29:TD:=⟨.array 2 3,16,y29,[(.int .i64 0),(.int .i64 0)]⟩
theorem k29:TOk Tryz.prog 29 d29:=⟨aA Tryz.typeInfo29 rfl rfl rfl rfl,Tryz.underlying29,rfl,rfl,bc rfl⟩
abbrev y32:Ty:=.int .i64
def d32:TD:=⟨.int .i64,8,y32,[(.int .i64 0)]⟩
theorem k32:TOk Tryz.prog 32 d32:=⟨aA Tryz.typeInfo32 rfl rfl rfl rfl,⟨Tryz.underlying32,rfl⟩,rfl,rfl,jr rfl Tryz.typeInfo32 rfl⟩
abbrev y42:Ty:=.sl y28
def d42:TD:=⟨.slice 28,24,y42,[(.slice none 0 0)]⟩
theorem k42:TOk Tryz.prog 42 d42:=⟨aA Tryz.typeInfo42 rfl rfl rfl rfl,Tryz.underlying42,rfl,rfl,bc rfl⟩
abbrev y63:Ty:=.st (.pair y4 (y3))
def d63:TD:=⟨.struct [(4,0),(3,1)],16,y63,[(.bool false),(.int .i64 0)]⟩
theorem k63:TOk Tryz.prog 63 d63:=⟨aA Tryz.typeInfo63 rfl rfl rfl rfl,⟨_,Tryz.underlying63,rfl⟩,rfl,rfl,bc rfl⟩
abbrev y64:Ty:=.st (.pair y4 (y3))
def d64:TD:=⟨.struct [(4,0),(3,1)],16,y64,[(.bool false),(.int .i64 0)]⟩
theorem k64:TOk Tryz.prog 64 d64:=⟨aA Tryz.typeInfo64 rfl rfl rfl rfl,⟨_,Tryz.underlying64,rfl⟩,rfl,rfl,bc rfl⟩
abbrev y65:Ty:=.st (.pair y64 (y3))
def d65:TD:=⟨.struct [(64,0),(3,2)],24,y65,[(.bool false),(.int .i64 0),(.int .i64 0)]⟩
theorem k65:TOk Tryz.prog 65 d65:=⟨aA Tryz.typeInfo65 rfl rfl rfl rfl,⟨_,Tryz.underlying65,rfl⟩,rfl,rfl,bc rfl⟩
abbrev y66:Ty:=.st (.pair y64 (y3))
def d66:TD:=⟨.struct [(64,0),(3,2)],24,y66,[(.bool false),(.int .i64 0),(.int .i64 0)]⟩
theorem k66:TOk Tryz.prog 66 d66:=⟨aA Tryz.typeInfo66 rfl rfl rfl rfl,⟨_,Tryz.underlying66,rfl⟩,rfl,rfl,bc rfl⟩
abbrev y78:Ty:=.int .u64
def d78:TD:=⟨.int .u64,8,y78,[(.int .u64 0)]⟩
theorem k78:TOk Tryz.prog 78 d78:=⟨aA Tryz.typeInfo78 rfl rfl rfl rfl,⟨Tryz.underlying78,rfl⟩,rfl,rfl,jr rfl Tryz.typeInfo78 rfl⟩
abbrev y79:Ty:=.st (.pair y3 (.pair y3 (y78)))
def d79:TD:=⟨.struct [(3,0),(3,1),(78,2)],24,y79,[(.int .i64 0),(.int .i64 0),(.int .u64 0)]⟩
theorem k79:TOk Tryz.prog 79 d79:=⟨aA Tryz.typeInfo79 rfl rfl rfl rfl,⟨_,Tryz.underlying79,rfl⟩,rfl,rfl,bc rfl⟩
abbrev y80:Ty:=.st (.pair y3 (.pair y3 (y78)))
def d80:TD:=⟨.struct [(3,0),(3,1),(78,2)],24,y80,[(.int .i64 0),(.int .i64 0),(.int .u64 0)]⟩
theorem k80:TOk Tryz.prog 80 d80:=⟨aA Tryz.typeInfo80 rfl rfl rfl rfl,⟨_,Tryz.underlying80,rfl⟩,rfl,rfl,bc rfl⟩
abbrev y82:Ty:=.st (.pair y9 (.pair y3 (y9)))
def d82:TD:=⟨.struct [(9,0),(3,1),(9,2)],40,y82,[(.string ByteArray.empty),(.int .i64 0),(.string ByteArray.empty)]⟩
theorem k82:TOk Tryz.prog 82 d82:=⟨aA Tryz.typeInfo82 rfl rfl rfl rfl,⟨_,Tryz.underlying82,rfl⟩,rfl,rfl,bc rfl⟩
abbrev y83:Ty:=.st (.pair y9 (.pair y3 (y9)))
def d83:TD:=⟨.struct [(9,0),(3,1),(9,2)],40,y83,[(.string ByteArray.empty),(.int .i64 0),(.string ByteArray.empty)]⟩
theorem k83:TOk Tryz.prog 83 d83:=⟨aA Tryz.typeInfo83 rfl rfl rfl rfl,⟨_,Tryz.underlying83,rfl⟩,rfl,rfl,bc rfl⟩
abbrev y87:Ty:=.st (.pair y3 (y28))
def d87:TD:=⟨.struct [(3,0),(28,1)],32,y87,[(.int .i64 0),(.slice none 0 0)]⟩
theorem k87:TOk Tryz.prog 87 d87:=⟨aA Tryz.typeInfo87 rfl rfl rfl rfl,⟨_,Tryz.underlying87,rfl⟩,rfl,rfl,bc rfl⟩
abbrev y88:Ty:=.st (.pair y3 (y28))
def d88:TD:=⟨.struct [(3,0),(28,1)],32,y88,[(.int .i64 0),(.slice none 0 0)]⟩
theorem k88:TOk Tryz.prog 88 d88:=⟨aA Tryz.typeInfo88 rfl rfl rfl rfl,⟨_,Tryz.underlying88,rfl⟩,rfl,rfl,bc rfl⟩
abbrev y89:Ty:=.st (.pair y32 (.pair y3 (y3)))
def d89:TD:=⟨.struct [(32,0),(3,1),(3,2)],24,y89,[(.int .i64 0),(.int .i64 0),(.int .i64 0)]⟩
theorem k89:TOk Tryz.prog 89 d89:=⟨aA Tryz.typeInfo89 rfl rfl rfl rfl,⟨_,Tryz.underlying89,rfl⟩,rfl,rfl,bc rfl⟩
abbrev y90:Ty:=.st (.pair y32 (.pair y3 (y3)))
def d90:TD:=⟨.struct [(32,0),(3,1),(3,2)],24,y90,[(.int .i64 0),(.int .i64 0),(.int .i64 0)]⟩
theorem k90:TOk Tryz.prog 90 d90:=⟨aA Tryz.typeInfo90 rfl rfl rfl rfl,⟨_,Tryz.underlying90,rfl⟩,rfl,rfl,bc rfl⟩
abbrev dx:Ty:=.sl y4
def d102:TD:=⟨.slice 4,24,dx,[(.slice none 0 0)]⟩
theorem Tv:TOk Tryz.prog 102 d102:=⟨aA Tryz.typeInfo102 rfl rfl rfl rfl,Tryz.underlying102,rfl,rfl,bc rfl⟩
abbrev s8:Ty:=.map y9 y3
def d109:TD:=⟨.map 9 3,8,s8,[(.map none)]⟩
theorem Tw:TOk Tryz.prog 109 d109:=⟨aA Tryz.typeInfo109 rfl rfl rfl rfl,Tryz.underlying109,rfl,rfl,bc rfl⟩
abbrev kl:Ty:=.st (.pair y3 (.pair y3 (y78)))
def d117:TD:=⟨.struct [(3,0),(3,1),(78,2)],24,kl,[(.int .i64 0),(.int .i64 0),(.int .u64 0)]⟩
theorem Pz:TOk Tryz.prog 117 d117:=⟨aA Tryz.typeInfo117 rfl rfl rfl rfl,⟨_,Tryz.underlying117,rfl⟩,rfl,rfl,bc rfl⟩
abbrev Tx:Ty:=.st (.pair y3 (.pair y3 (.pair y3 (y3))))
def d131:TD:=⟨.struct [(3,0),(3,1),(3,2),(3,3)],32,Tx,[(.int .i64 0),(.int .i64 0),(.int .i64 0),(.int .i64 0)]⟩
theorem Tz:TOk Tryz.prog 131 d131:=⟨aA Tryz.typeInfo131 rfl rfl rfl rfl,⟨_,Tryz.underlying131,rfl⟩,rfl,rfl,bc rfl⟩
abbrev RG:Ty:=.st (.pair y3 (.pair y3 (.pair y3 (y3))))
def d132:TD:=⟨.struct [(3,0),(3,1),(3,2),(3,3)],32,RG,[(.int .i64 0),(.int .i64 0),(.int .i64 0),(.int .i64 0)]⟩
theorem TA:TOk Tryz.prog 132 d132:=⟨aA Tryz.typeInfo132 rfl rfl rfl rfl,⟨_,Tryz.underlying132,rfl⟩,rfl,rfl,bc rfl⟩
abbrev vV:Ty:=.sl y5
def d143:TD:=⟨.slice 5,24,vV,[(.slice none 0 0)]⟩
theorem TB:TOk Tryz.prog 143 d143:=⟨aA Tryz.typeInfo143 rfl rfl rfl rfl,Tryz.underlying143,rfl,rfl,bc rfl⟩
abbrev TC:Ty:=.int .u64
def d144:TD:=⟨.int .u64,8,TC,[(.int .u64 0)]⟩
theorem TE:TOk Tryz.prog 144 d144:=⟨aA Tryz.typeInfo144 rfl rfl rfl rfl,⟨Tryz.underlying144,rfl⟩,rfl,rfl,jr rfl Tryz.typeInfo144 rfl⟩
abbrev Mc:Ty:=.map y3 y3
def d163:TD:=⟨.map 3 3,8,Mc,[(.map none)]⟩
theorem TF:TOk Tryz.prog 163 d163:=⟨aA Tryz.typeInfo163 rfl rfl rfl rfl,Tryz.underlying163,rfl,rfl,bc rfl⟩
abbrev Ao:Ty:=.arr 256 y5
def d180:TD:=⟨.array 256 5,256,Ao,List.replicate 256 (.int .u8 0)⟩
theorem TG:TOk Tryz.prog 180 d180:=⟨aA (z:=.agg d180.zero.toArray) Tryz.typeInfo180 (by kernel_rfl) (by kernel_rfl) (by kernel_rfl) (by kernel_rfl),Tryz.underlying180,(by kernel_rfl),(by kernel_rfl),bc rfl⟩
abbrev vW:Ty:=.st (.pair Ao (.pair y42 (y28)))
def d181:TD:=⟨.struct [(180,0),(42,256),(28,257)],304,vW,List.replicate 256 (.int .u8 0)++[(.slice none 0 0),(.slice none 0 0)]⟩
theorem TH:TOk Tryz.prog 181 d181:=⟨aA (z:=.agg d181.zero.toArray) Tryz.typeInfo181 (by kernel_rfl) (by kernel_rfl) (by kernel_rfl) (by kernel_rfl),⟨_,Tryz.underlying181,rfl⟩,(by kernel_rfl),(by kernel_rfl),bc rfl⟩
abbrev PA:Ty:=.st (.pair Ao (.pair y42 (y28)))
def d182:TD:=⟨.struct [(180,0),(42,256),(28,257)],304,PA,List.replicate 256 (.int .u8 0)++[(.slice none 0 0),(.slice none 0 0)]⟩
theorem TI:TOk Tryz.prog 182 d182:=⟨aA (z:=.agg d182.zero.toArray) Tryz.typeInfo182 (by kernel_rfl) (by kernel_rfl) (by kernel_rfl) (by kernel_rfl),⟨_,Tryz.underlying182,rfl⟩,(by kernel_rfl),(by kernel_rfl),bc rfl⟩
abbrev TJ:Ty:=.int .i64
def d195:TD:=⟨.int .i64,8,TJ,[(.int .i64 0)]⟩
theorem TL:TOk Tryz.prog 195 d195:=⟨aA Tryz.typeInfo195 rfl rfl rfl rfl,⟨Tryz.underlying195,rfl⟩,rfl,rfl,jr rfl Tryz.typeInfo195 rfl⟩
abbrev TM:Ty:=.int .u32
def d202:TD:=⟨.int .u32,4,TM,[(.int .u32 0)]⟩
theorem TN:TOk Tryz.prog 202 d202:=⟨aA Tryz.typeInfo202 rfl rfl rfl rfl,⟨Tryz.underlying202,rfl⟩,rfl,rfl,jr rfl Tryz.typeInfo202 rfl⟩
abbrev fC:Ty:=.arr 4 y78
def d214:TD:=⟨.array 4 78,32,fC,[(.int .u64 0),(.int .u64 0),(.int .u64 0),(.int .u64 0)]⟩
theorem TP:TOk Tryz.prog 214 d214:=⟨aA Tryz.typeInfo214 rfl rfl rfl rfl,Tryz.underlying214,rfl,rfl,bc rfl⟩
abbrev Gi:Ty:=.arr 4 y78
def d215:TD:=⟨.array 4 78,32,Gi,[(.int .u64 0),(.int .u64 0),(.int .u64 0),(.int .u64 0)]⟩
theorem TQ:TOk Tryz.prog 215 d215:=⟨aA Tryz.typeInfo215 rfl rfl rfl rfl,Tryz.underlying215,rfl,rfl,bc rfl⟩
abbrev Gj:Ty:=.st (.pair y3 (Gi))
def d216:TD:=⟨.struct [(3,0),(215,1)],40,Gj,[(.int .i64 0),(.int .u64 0),(.int .u64 0),(.int .u64 0),(.int .u64 0)]⟩
theorem TS:TOk Tryz.prog 216 d216:=⟨aA Tryz.typeInfo216 rfl rfl rfl rfl,⟨_,Tryz.underlying216,rfl⟩,rfl,rfl,bc rfl⟩
abbrev PB:Ty:=.st (.pair y3 (Gi))
def d217:TD:=⟨.struct [(3,0),(215,1)],40,PB,[(.int .i64 0),(.int .u64 0),(.int .u64 0),(.int .u64 0),(.int .u64 0)]⟩
theorem TU:TOk Tryz.prog 217 d217:=⟨aA Tryz.typeInfo217 rfl rfl rfl rfl,⟨_,Tryz.underlying217,rfl⟩,rfl,rfl,bc rfl⟩
abbrev RH:Ty:=.int .u64
def d223:TD:=⟨.int .u64,8,RH,[(.int .u64 0)]⟩
theorem TV:TOk Tryz.prog 223 d223:=⟨aA Tryz.typeInfo223 rfl rfl rfl rfl,⟨Tryz.underlying223,rfl⟩,rfl,rfl,jr rfl Tryz.typeInfo223 rfl⟩
abbrev TW:Ty:=.ptr y3
def d227:TD:=⟨.pointer 3,8,TW,[(.pointer none)]⟩
theorem TX:TOk Tryz.prog 227 d227:=⟨aA Tryz.typeInfo227 rfl rfl rfl rfl,Tryz.underlying227,rfl,rfl,bc rfl⟩
abbrev mh:Ty:=.st (.pair y9 (.pair y3 (y3)))
def d230:TD:=⟨.struct [(9,0),(3,1),(3,2)],32,mh,[(.string ByteArray.empty),(.int .i64 0),(.int .i64 0)]⟩
theorem TY:TOk Tryz.prog 230 d230:=⟨aA Tryz.typeInfo230 rfl rfl rfl rfl,⟨_,Tryz.underlying230,rfl⟩,rfl,rfl,bc rfl⟩
abbrev RI:Ty:=.st (.pair y9 (.pair y3 (y3)))
def d231:TD:=⟨.struct [(9,0),(3,1),(3,2)],32,RI,[(.string ByteArray.empty),(.int .i64 0),(.int .i64 0)]⟩
theorem TZ:TOk Tryz.prog 231 d231:=⟨aA Tryz.typeInfo231 rfl rfl rfl rfl,⟨_,Tryz.underlying231,rfl⟩,rfl,rfl,bc rfl⟩
abbrev RJ:Ty:=.st (.pair y3 (y3))
def d240:TD:=⟨.struct [(3,0),(3,1)],16,RJ,[(.int .i64 0),(.int .i64 0)]⟩
theorem Ua:TOk Tryz.prog 240 d240:=⟨aA Tryz.typeInfo240 rfl rfl rfl rfl,⟨_,Tryz.underlying240,rfl⟩,rfl,rfl,bc rfl⟩
abbrev RK:Ty:=.st (.pair y3 (y3))
def d241:TD:=⟨.struct [(3,0),(3,1)],16,RK,[(.int .i64 0),(.int .i64 0)]⟩
theorem Ub:TOk Tryz.prog 241 d241:=⟨aA Tryz.typeInfo241 rfl rfl rfl rfl,⟨_,Tryz.underlying241,rfl⟩,rfl,rfl,bc rfl⟩
abbrev Uc:Ty:=.ptr RH
def d248:TD:=⟨.pointer 223,8,Uc,[(.pointer none)]⟩
theorem Ud:TOk Tryz.prog 248 d248:=⟨aA Tryz.typeInfo248 rfl rfl rfl rfl,Tryz.underlying248,rfl,rfl,bc rfl⟩
abbrev Ue:Ty:=.st (.pair y3 (.pair y3 (.pair Gi (y4))))
def d254:TD:=⟨.struct [(3,0),(3,1),(215,2),(4,6)],56,Ue,[(.int .i64 0),(.int .i64 0),(.int .u64 0),(.int .u64 0),(.int .u64 0),(.int .u64 0),(.bool false)]⟩
theorem Uf:TOk Tryz.prog 254 d254:=⟨aA Tryz.typeInfo254 rfl rfl rfl rfl,⟨_,Tryz.underlying254,rfl⟩,rfl,rfl,bc rfl⟩
abbrev RL:Ty:=.st (.pair y3 (.pair y3 (.pair Gi (y4))))
def d255:TD:=⟨.struct [(3,0),(3,1),(215,2),(4,6)],56,RL,[(.int .i64 0),(.int .i64 0),(.int .u64 0),(.int .u64 0),(.int .u64 0),(.int .u64 0),(.bool false)]⟩
theorem Ug:TOk Tryz.prog 255 d255:=⟨aA Tryz.typeInfo255 rfl rfl rfl rfl,⟨_,Tryz.underlying255,rfl⟩,rfl,rfl,bc rfl⟩
abbrev Gk:Ty:=.sl Gi
def d260:TD:=⟨.slice 215,24,Gk,[(.slice none 0 0)]⟩
theorem Uh:TOk Tryz.prog 260 d260:=⟨aA Tryz.typeInfo260 rfl rfl rfl rfl,Tryz.underlying260,rfl,rfl,bc rfl⟩
abbrev Ui:Ty:=.int .u8
def d288:TD:=⟨.int .u8,1,Ui,[(.int .u8 0)]⟩
theorem Uj:TOk Tryz.prog 288 d288:=⟨aA Tryz.typeInfo288 rfl rfl rfl rfl,⟨Tryz.underlying288,rfl⟩,rfl,rfl,jr rfl Tryz.typeInfo288 rfl⟩
abbrev Uk:Ty:=.int .u8
def d289:TD:=⟨.int .u8,1,Uk,[(.int .u8 0)]⟩
theorem Ul:TOk Tryz.prog 289 d289:=⟨aA Tryz.typeInfo289 rfl rfl rfl rfl,⟨Tryz.underlying289,rfl⟩,rfl,rfl,jr rfl Tryz.typeInfo289 rfl⟩
abbrev Um:Ty:=.ptr y5
def d291:TD:=⟨.pointer 5,8,Um,[(.pointer none)]⟩
theorem Un:TOk Tryz.prog 291 d291:=⟨aA Tryz.typeInfo291 rfl rfl rfl rfl,Tryz.underlying291,rfl,rfl,bc rfl⟩
abbrev Uo:Ty:=.int .i32
def d292:TD:=⟨.int .i32,4,Uo,[(.int .i32 0)]⟩
theorem Up:TOk Tryz.prog 292 d292:=⟨aA Tryz.typeInfo292 rfl rfl rfl rfl,⟨Tryz.underlying292,rfl⟩,rfl,rfl,jr rfl Tryz.typeInfo292 rfl⟩
abbrev Uq:Ty:=.int .i32
def d293:TD:=⟨.int .i32,4,Uq,[(.int .i32 0)]⟩
theorem Ur:TOk Tryz.prog 293 d293:=⟨aA Tryz.typeInfo293 rfl rfl rfl rfl,⟨Tryz.underlying293,rfl⟩,rfl,rfl,jr rfl Tryz.typeInfo293 rfl⟩
abbrev y22:Ty:=.sl y83
def d22:TD:=⟨.slice 83,24,y22,[(.slice none 0 0)]⟩
theorem k22:TOk Tryz.prog 22 d22:=⟨aA Tryz.typeInfo22 rfl rfl rfl rfl,Tryz.underlying22,rfl,rfl,bc rfl⟩
abbrev y25:Ty:=.sl y88
def d25:TD:=⟨.slice 88,24,y25,[(.slice none 0 0)]⟩
theorem k25:TOk Tryz.prog 25 d25:=⟨aA Tryz.typeInfo25 rfl rfl rfl rfl,Tryz.underlying25,rfl,rfl,bc rfl⟩
abbrev y40:Ty:=.sl y42
def d40:TD:=⟨.slice 42,24,y40,[(.slice none 0 0)]⟩
theorem k40:TOk Tryz.prog 40 d40:=⟨aA Tryz.typeInfo40 rfl rfl rfl rfl,Tryz.underlying40,rfl,rfl,bc rfl⟩
abbrev y58:Ty:=.sl y80
def d58:TD:=⟨.slice 80,24,y58,[(.slice none 0 0)]⟩
theorem k58:TOk Tryz.prog 58 d58:=⟨aA Tryz.typeInfo58 rfl rfl rfl rfl,Tryz.underlying58,rfl,rfl,bc rfl⟩
abbrev y60:Ty:=.sl kl
def d60:TD:=⟨.slice 117,24,y60,[(.slice none 0 0)]⟩
theorem k60:TOk Tryz.prog 60 d60:=⟨aA Tryz.typeInfo60 rfl rfl rfl rfl,Tryz.underlying60,rfl,rfl,bc rfl⟩
abbrev y61:Ty:=.sl y66
def d61:TD:=⟨.slice 66,24,y61,[(.slice none 0 0)]⟩
theorem k61:TOk Tryz.prog 61 d61:=⟨aA Tryz.typeInfo61 rfl rfl rfl rfl,Tryz.underlying61,rfl,rfl,bc rfl⟩
abbrev y62:Ty:=.sl y64
def d62:TD:=⟨.slice 64,24,y62,[(.slice none 0 0)]⟩
theorem k62:TOk Tryz.prog 62 d62:=⟨aA Tryz.typeInfo62 rfl rfl rfl rfl,Tryz.underlying62,rfl,rfl,bc rfl⟩
abbrev y73:Ty:=.sl y78
def d73:TD:=⟨.slice 78,24,y73,[(.slice none 0 0)]⟩
theorem k73:TOk Tryz.prog 73 d73:=⟨aA Tryz.typeInfo73 rfl rfl rfl rfl,Tryz.underlying73,rfl,rfl,bc rfl⟩
abbrev y84:Ty:=.st (.pair y3 (.pair y9 (.pair y62 (.pair y4 (.pair y3 (y28))))))
def d84:TD:=⟨.struct [(3,0),(9,1),(62,2),(4,3),(3,4),(28,5)],88,y84,[(.int .i64 0),(.string ByteArray.empty),(.slice none 0 0),(.bool false),(.int .i64 0),(.slice none 0 0)]⟩
theorem k84:TOk Tryz.prog 84 d84:=⟨aA Tryz.typeInfo84 rfl rfl rfl rfl,⟨_,Tryz.underlying84,rfl⟩,rfl,rfl,bc rfl⟩
abbrev y85:Ty:=.st (.pair y3 (.pair y9 (.pair y62 (.pair y4 (.pair y3 (y28))))))
def d85:TD:=⟨.struct [(3,0),(9,1),(62,2),(4,3),(3,4),(28,5)],88,y85,[(.int .i64 0),(.string ByteArray.empty),(.slice none 0 0),(.bool false),(.int .i64 0),(.slice none 0 0)]⟩
theorem k85:TOk Tryz.prog 85 d85:=⟨aA Tryz.typeInfo85 rfl rfl rfl rfl,⟨_,Tryz.underlying85,rfl⟩,rfl,rfl,bc rfl⟩
abbrev y94:Ty:=.map RG y3
def d94:TD:=⟨.map 132 3,8,y94,[(.map none)]⟩
theorem k94:TOk Tryz.prog 94 d94:=⟨aA Tryz.typeInfo94 rfl rfl rfl rfl,Tryz.underlying94,rfl,rfl,bc rfl⟩
abbrev PC:Ty:=.sl dx
def d101:TD:=⟨.slice 102,24,PC,[(.slice none 0 0)]⟩
theorem Us:TOk Tryz.prog 101 d101:=⟨aA Tryz.typeInfo101 rfl rfl rfl rfl,Tryz.underlying101,rfl,rfl,bc rfl⟩
abbrev mj:Ty:=.st (.pair dx (y73))
def d106:TD:=⟨.struct [(102,0),(73,1)],48,mj,[(.slice none 0 0),(.slice none 0 0)]⟩
theorem Ut:TOk Tryz.prog 106 d106:=⟨aA Tryz.typeInfo106 rfl rfl rfl rfl,⟨_,Tryz.underlying106,rfl⟩,rfl,rfl,bc rfl⟩
abbrev PD:Ty:=.st (.pair dx (y73))
def d107:TD:=⟨.struct [(102,0),(73,1)],48,PD,[(.slice none 0 0),(.slice none 0 0)]⟩
theorem Uu:TOk Tryz.prog 107 d107:=⟨aA Tryz.typeInfo107 rfl rfl rfl rfl,⟨_,Tryz.underlying107,rfl⟩,rfl,rfl,bc rfl⟩
abbrev nw:Ty:=.sl PB
def d166:TD:=⟨.slice 217,24,nw,[(.slice none 0 0)]⟩
theorem Uv:TOk Tryz.prog 166 d166:=⟨aA Tryz.typeInfo166 rfl rfl rfl rfl,Tryz.underlying166,rfl,rfl,bc rfl⟩
abbrev RM:Ty:=.sl PB
def d167:TD:=⟨.slice 217,24,RM,[(.slice none 0 0)]⟩
theorem Uw:TOk Tryz.prog 167 d167:=⟨aA Tryz.typeInfo167 rfl rfl rfl rfl,Tryz.underlying167,rfl,rfl,bc rfl⟩
abbrev PE:Ty:=.sl RL
def d206:TD:=⟨.slice 255,24,PE,[(.slice none 0 0)]⟩
theorem Ux:TOk Tryz.prog 206 d206:=⟨aA Tryz.typeInfo206 rfl rfl rfl rfl,Tryz.underlying206,rfl,rfl,bc rfl⟩
abbrev x5:Ty:=.st (.pair y3 (.pair PE (.pair y3 (y3))))
def d207:TD:=⟨.struct [(3,0),(206,1),(3,2),(3,3)],48,x5,[(.int .i64 0),(.slice none 0 0),(.int .i64 0),(.int .i64 0)]⟩
theorem Uy:TOk Tryz.prog 207 d207:=⟨aA Tryz.typeInfo207 rfl rfl rfl rfl,⟨_,Tryz.underlying207,rfl⟩,rfl,rfl,bc rfl⟩
abbrev IC:Ty:=.st (.pair y3 (.pair PE (.pair y3 (y3))))
def d208:TD:=⟨.struct [(3,0),(206,1),(3,2),(3,3)],48,IC,[(.int .i64 0),(.slice none 0 0),(.int .i64 0),(.int .i64 0)]⟩
theorem Uz:TOk Tryz.prog 208 d208:=⟨aA Tryz.typeInfo208 rfl rfl rfl rfl,⟨_,Tryz.underlying208,rfl⟩,rfl,rfl,bc rfl⟩
abbrev Me:Ty:=.sl RM
def d218:TD:=⟨.slice 167,24,Me,[(.slice none 0 0)]⟩
theorem UA:TOk Tryz.prog 218 d218:=⟨aA Tryz.typeInfo218 rfl rfl rfl rfl,Tryz.underlying218,rfl,rfl,bc rfl⟩
abbrev UB:Ty:=.ptr RI
def d229:TD:=⟨.pointer 231,8,UB,[(.pointer none)]⟩
theorem UC:TOk Tryz.prog 229 d229:=⟨aA Tryz.typeInfo229 rfl rfl rfl rfl,Tryz.underlying229,rfl,rfl,bc rfl⟩
abbrev s9:Ty:=.st (IC)
def d236:TD:=⟨.struct [(208,0)],48,s9,[(.int .i64 0),(.slice none 0 0),(.int .i64 0),(.int .i64 0)]⟩
theorem UD:TOk Tryz.prog 236 d236:=⟨aA Tryz.typeInfo236 rfl rfl rfl rfl,⟨_,Tryz.underlying236,rfl⟩,rfl,rfl,bc rfl⟩
abbrev RN:Ty:=.st (IC)
def d237:TD:=⟨.struct [(208,0)],48,RN,[(.int .i64 0),(.slice none 0 0),(.int .i64 0),(.int .i64 0)]⟩
theorem UE:TOk Tryz.prog 237 d237:=⟨aA Tryz.typeInfo237 rfl rfl rfl rfl,⟨_,Tryz.underlying237,rfl⟩,rfl,rfl,bc rfl⟩
abbrev uG:Ty:=.sl RK
def d238:TD:=⟨.slice 241,24,uG,[(.slice none 0 0)]⟩
theorem UF:TOk Tryz.prog 238 d238:=⟨aA Tryz.typeInfo238 rfl rfl rfl rfl,Tryz.underlying238,rfl,rfl,bc rfl⟩
abbrev x6:Ty:=.st (.pair IC (.pair y28 (.pair vV (.pair s8 (.pair PC (PA))))))
def d257:TD:=⟨.struct [(208,0),(28,4),(143,5),(109,6),(101,7),(182,8)],432,x6,[(.int .i64 0),(.slice none 0 0),(.int .i64 0),(.int .i64 0),(.slice none 0 0),(.slice none 0 0),(.map none),(.slice none 0 0)]++List.replicate 256 (.int .u8 0)++[(.slice none 0 0),(.slice none 0 0)]⟩
theorem UG:TOk Tryz.prog 257 d257:=⟨aA (z:=.agg d257.zero.toArray) Tryz.typeInfo257 (by kernel_rfl) (by kernel_rfl) (by kernel_rfl) (by kernel_rfl),⟨_,Tryz.underlying257,rfl⟩,(by kernel_rfl),(by kernel_rfl),bc rfl⟩
abbrev RO:Ty:=.st (.pair IC (.pair y28 (.pair vV (.pair s8 (.pair PC (PA))))))
def d258:TD:=⟨.struct [(208,0),(28,4),(143,5),(109,6),(101,7),(182,8)],432,RO,[(.int .i64 0),(.slice none 0 0),(.int .i64 0),(.int .i64 0),(.slice none 0 0),(.slice none 0 0),(.map none),(.slice none 0 0)]++List.replicate 256 (.int .u8 0)++[(.slice none 0 0),(.slice none 0 0)]⟩
theorem UH:TOk Tryz.prog 258 d258:=⟨aA (z:=.agg d258.zero.toArray) Tryz.typeInfo258 (by kernel_rfl) (by kernel_rfl) (by kernel_rfl) (by kernel_rfl),⟨_,Tryz.underlying258,rfl⟩,(by kernel_rfl),(by kernel_rfl),bc rfl⟩
abbrev y24:Ty:=.sl y85
def d24:TD:=⟨.slice 85,24,y24,[(.slice none 0 0)]⟩
theorem k24:TOk Tryz.prog 24 d24:=⟨aA Tryz.typeInfo24 rfl rfl rfl rfl,Tryz.underlying24,rfl,rfl,bc rfl⟩
abbrev y26:Ty:=.st (.pair y22 (.pair y23 (.pair y24 (.pair y25 (y3)))))
def d26:TD:=⟨.struct [(22,0),(23,1),(24,2),(25,3),(3,4)],104,y26,[(.slice none 0 0),(.slice none 0 0),(.slice none 0 0),(.slice none 0 0),(.int .i64 0)]⟩
theorem k26:TOk Tryz.prog 26 d26:=⟨aA Tryz.typeInfo26 rfl rfl rfl rfl,⟨_,Tryz.underlying26,rfl⟩,rfl,rfl,bc rfl⟩
abbrev y27:Ty:=.st (.pair y22 (.pair y23 (.pair y24 (.pair y25 (y3)))))
def d27:TD:=⟨.struct [(22,0),(23,1),(24,2),(25,3),(3,4)],104,y27,[(.slice none 0 0),(.slice none 0 0),(.slice none 0 0),(.slice none 0 0),(.int .i64 0)]⟩
theorem k27:TOk Tryz.prog 27 d27:=⟨aA Tryz.typeInfo27 rfl rfl rfl rfl,⟨_,Tryz.underlying27,rfl⟩,rfl,rfl,bc rfl⟩
abbrev y44:Ty:=.sl y58
def d44:TD:=⟨.slice 58,24,y44,[(.slice none 0 0)]⟩
theorem k44:TOk Tryz.prog 44 d44:=⟨aA Tryz.typeInfo44 rfl rfl rfl rfl,Tryz.underlying44,rfl,rfl,bc rfl⟩
abbrev y45:Ty:=.sl y62
def d45:TD:=⟨.slice 62,24,y45,[(.slice none 0 0)]⟩
theorem k45:TOk Tryz.prog 45 d45:=⟨aA Tryz.typeInfo45 rfl rfl rfl rfl,Tryz.underlying45,rfl,rfl,bc rfl⟩
abbrev y46:Ty:=.st (.pair y44 (.pair y45 (y42)))
def d46:TD:=⟨.struct [(44,0),(45,1),(42,2)],72,y46,[(.slice none 0 0),(.slice none 0 0),(.slice none 0 0)]⟩
theorem k46:TOk Tryz.prog 46 d46:=⟨aA Tryz.typeInfo46 rfl rfl rfl rfl,⟨_,Tryz.underlying46,rfl⟩,rfl,rfl,bc rfl⟩
abbrev y47:Ty:=.st (.pair y44 (.pair y45 (y42)))
def d47:TD:=⟨.struct [(44,0),(45,1),(42,2)],72,y47,[(.slice none 0 0),(.slice none 0 0),(.slice none 0 0)]⟩
theorem k47:TOk Tryz.prog 47 d47:=⟨aA Tryz.typeInfo47 rfl rfl rfl rfl,⟨_,Tryz.underlying47,rfl⟩,rfl,rfl,bc rfl⟩
abbrev y50:Ty:=.sl y60
def d50:TD:=⟨.slice 60,24,y50,[(.slice none 0 0)]⟩
theorem k50:TOk Tryz.prog 50 d50:=⟨aA Tryz.typeInfo50 rfl rfl rfl rfl,Tryz.underlying50,rfl,rfl,bc rfl⟩
abbrev y51:Ty:=.sl y61
def d51:TD:=⟨.slice 61,24,y51,[(.slice none 0 0)]⟩
theorem k51:TOk Tryz.prog 51 d51:=⟨aA Tryz.typeInfo51 rfl rfl rfl rfl,Tryz.underlying51,rfl,rfl,bc rfl⟩
abbrev y52:Ty:=.st (.pair y50 (y51))
def d52:TD:=⟨.struct [(50,0),(51,1)],48,y52,[(.slice none 0 0),(.slice none 0 0)]⟩
theorem k52:TOk Tryz.prog 52 d52:=⟨aA Tryz.typeInfo52 rfl rfl rfl rfl,⟨_,Tryz.underlying52,rfl⟩,rfl,rfl,bc rfl⟩
abbrev y53:Ty:=.st (.pair y50 (y51))
def d53:TD:=⟨.struct [(50,0),(51,1)],48,y53,[(.slice none 0 0),(.slice none 0 0)]⟩
theorem k53:TOk Tryz.prog 53 d53:=⟨aA Tryz.typeInfo53 rfl rfl rfl rfl,⟨_,Tryz.underlying53,rfl⟩,rfl,rfl,bc rfl⟩
abbrev y95:Ty:=.st (.pair y27 (.pair y28 (.pair y3 (.pair y28 (y94)))))
def d95:TD:=⟨.struct [(27,0),(28,5),(3,6),(28,7),(94,8)],168,y95,[(.slice none 0 0),(.slice none 0 0),(.slice none 0 0),(.slice none 0 0),(.int .i64 0),(.slice none 0 0),(.int .i64 0),(.slice none 0 0),(.map none)]⟩
theorem k95:TOk Tryz.prog 95 d95:=⟨aA Tryz.typeInfo95 rfl rfl rfl rfl,⟨_,Tryz.underlying95,rfl⟩,rfl,rfl,bc rfl⟩
abbrev y96:Ty:=.st (.pair y27 (.pair y28 (.pair y3 (.pair y28 (y94)))))
def d96:TD:=⟨.struct [(27,0),(28,5),(3,6),(28,7),(94,8)],168,y96,[(.slice none 0 0),(.slice none 0 0),(.slice none 0 0),(.slice none 0 0),(.int .i64 0),(.slice none 0 0),(.int .i64 0),(.slice none 0 0),(.map none)]⟩
theorem k96:TOk Tryz.prog 96 d96:=⟨aA Tryz.typeInfo96 rfl rfl rfl rfl,⟨_,Tryz.underlying96,rfl⟩,rfl,rfl,bc rfl⟩
abbrev x7:Ty:=.st (.pair y27 (.pair PD (.pair dx (.pair y73 (y60)))))
def d147:TD:=⟨.struct [(27,0),(107,5),(102,7),(73,8),(60,9)],224,x7,[(.slice none 0 0),(.slice none 0 0),(.slice none 0 0),(.slice none 0 0),(.int .i64 0),(.slice none 0 0),(.slice none 0 0),(.slice none 0 0),(.slice none 0 0),(.slice none 0 0)]⟩
theorem UI:TOk Tryz.prog 147 d147:=⟨aA Tryz.typeInfo147 rfl rfl rfl rfl,⟨_,Tryz.underlying147,rfl⟩,rfl,rfl,bc rfl⟩
abbrev RP:Ty:=.st (.pair y27 (.pair PD (.pair dx (.pair y73 (y60)))))
def d148:TD:=⟨.struct [(27,0),(107,5),(102,7),(73,8),(60,9)],224,RP,[(.slice none 0 0),(.slice none 0 0),(.slice none 0 0),(.slice none 0 0),(.int .i64 0),(.slice none 0 0),(.slice none 0 0),(.slice none 0 0),(.slice none 0 0),(.slice none 0 0)]⟩
theorem UJ:TOk Tryz.prog 148 d148:=⟨aA Tryz.typeInfo148 rfl rfl rfl rfl,⟨_,Tryz.underlying148,rfl⟩,rfl,rfl,bc rfl⟩
abbrev UK:Ty:=.ptr RN
def d235:TD:=⟨.pointer 237,8,UK,[(.pointer none)]⟩
theorem UL:TOk Tryz.prog 235 d235:=⟨aA Tryz.typeInfo235 rfl rfl rfl rfl,Tryz.underlying235,rfl,rfl,bc rfl⟩
abbrev RQ:Ty:=.ptr RO
def d256:TD:=⟨.pointer 258,8,RQ,[(.pointer none)]⟩
theorem UM:TOk Tryz.prog 256 d256:=⟨aA Tryz.typeInfo256 rfl rfl rfl rfl,Tryz.underlying256,rfl,rfl,bc rfl⟩
abbrev y92:Ty:=.ptr y96
def d92:TD:=⟨.pointer 96,8,y92,[(.pointer none)]⟩
theorem k92:TOk Tryz.prog 92 d92:=⟨aA Tryz.typeInfo92 rfl rfl rfl rfl,Tryz.underlying92,rfl,rfl,bc rfl⟩
abbrev UN:Ty:=.ptr RP
def d145:TD:=⟨.pointer 148,8,UN,[(.pointer none)]⟩
theorem UO:TOk Tryz.prog 145 d145:=⟨aA Tryz.typeInfo145 rfl rfl rfl rfl,Tryz.underlying145,rfl,rfl,bc rfl⟩
def tab:List (Nat×TD):=[(2,d2),(3,d3),(4,d4),(5,d5),(6,d6),(7,d7),(8,d8),(9,d9),(10,d10),(11,d11),(12,d12),(13,d13),(14,d14),(21,d21),(22,d22),(23,d23),(24,d24),(25,d25),(26,d26),(27,d27),(28,d28),(29,d29),(32,d32),(40,d40),(42,d42),(44,d44),(45,d45),(46,d46),(47,d47),(50,d50),(51,d51),(52,d52),(53,d53),(58,d58),(60,d60),(61,d61),(62,d62),(63,d63),(64,d64),(65,d65),(66,d66),(73,d73),(78,d78),(79,d79),(80,d80),(82,d82),(83,d83),(84,d84),(85,d85),(87,d87),(88,d88),(89,d89),(90,d90),(92,d92),(94,d94),(95,d95),(96,d96),(101,d101),(102,d102),(106,d106),(107,d107),(109,d109),(117,d117),(131,d131),(132,d132),(143,d143),(144,d144),(145,d145),(147,d147),(148,d148),(163,d163),(166,d166),(167,d167),(180,d180),(181,d181),(182,d182),(195,d195),(202,d202),(206,d206),(207,d207),(208,d208),(214,d214),(215,d215),(216,d216),(217,d217),(218,d218),(223,d223),(227,d227),(229,d229),(230,d230),(231,d231),(235,d235),(236,d236),(237,d237),(238,d238),(240,d240),(241,d241),(248,d248),(254,d254),(255,d255),(256,d256),(257,d257),(258,d258),(260,d260),(288,d288),(289,d289),(291,d291),(292,d292),(293,d293)]
theorem ID:cM Tryz.prog (Al tab):=Ix ((by exact⟨k2,k3,k4,k5,k6,k7,k8,k9,k10,k11,k12,k13,k14,k21,k22,k23,k24,k25,k26,k27,k28,k29,k32,k40,k42,k44,k45,k46,k47,k50,k51,k52,k53,k58,k60,k61,k62,k63,k64,k65,k66,k73,k78,k79,k80,k82,k83,k84,k85,k87,k88,k89,k90,k92,k94,k95,k96,Us,Tv,Ut,Uu,Tw,Pz,Tz,TA,TB,TE,UO,UI,UJ,TF,Uv,Uw,TG,TH,TI,TL,TN,Ux,Uy,Uz,TP,TQ,TS,TU,UA,TV,TX,UC,TY,TZ,UL,UD,UE,UF,Ua,Ub,Ud,Uf,Ug,UM,UG,UH,Uh,Uj,Ul,Un,Up,Ur,trivial⟩))
end
noncomputable section
theorem mix:Tryz.prog.follows .mixedOrders=true:=by kernel_rfl
structure Fb(i:Nat)where
 k:Callee
 o:fX Tryz.prog i k
 q:Plain Tryz.prog i
def lk:List (Σ i,Fb i)->List (FuncId×Callee)
 |[]=>[]
 |a::l=>(a.1,a.2.k)::lk l
theorem Oj:∀ l,Pv Tryz.prog (lk l)
 |[]=>trivial
 |a::l=>⟨⟨a.2.o,a.2.q⟩,Oj l⟩
def hsN:List Nat->Nat->Bool
 |[],_=>false
 |a::l,d=>Nat.beq d a||hsN l d
abbrev Eqs:=List {t//xG Tryz.prog t}
def eqN:Eqs->Nat->Bool
 |[],_=>false
 |a::l,d=>Nat.beq d a.1||eqN l d
theorem IE:∀ (l:Eqs) t,eqN l t=true->xG Tryz.prog t
 |[],t,h=>by cases h
 |a::l,t,h=>by
  simp only [eqN,aG]at h
  rcases h with h|h
  ·rw [bg h];exact a.2
  ·exact IE l t h
def vv(l:List (Σ i,Fb i))(a b:List Nat)(e:Eqs):Env:=⟨Al tab,DP (lk l),hsN a,eqN e,hsN b⟩
theorem RR(l:List (Σ i,Fb i))(a b:List Nat)(e:Eqs):gf Tryz.prog (vv l a b e):=⟨ID,Iy (Oj l),mix,IE e⟩
def cb(f:Func):Code:=match f.body with|some c=>c|none=>.skip
abbrev Qt(a b c:List (Ty×Md)):=(et a).T->Option ((et b).T×(et c).T)
theorem pl{f:FuncId}{fn:Func}(h:Tryz.prog.funcs[f]?=some fn)(h1:(fn.name=="runtime.NumGoroutine")=false:=by kernel_rfl)(h2:fn.body.isNone=false:=by kernel_rfl):Plain Tryz.prog f:=⟨fn,h,h1,h2⟩
noncomputable def fb {f:FuncId} {fn:Func} {rv:List ResultVar} {N:Nat} (n:Nat) (l:List (Σ i,Fb i)) (a b:List Nat) (e:Eqs) (hf:Tryz.prog.funcs[f]?=some fn) (hr:fn.results=rv.toArray) (hN:fn.ntmps=N) (an:Ann) (ps rs:List (Ty×Md)) (mi:List Nat) (ms:List (Ty×Md)) (d:Qt ps rs ms) (hb:fn.body=some (cb fn):=by rfl) (hp:ps.length≤N:=by decide) (hm:Iv ps mi=true:=by rfl) (he:∀ x,d x=DO (vv l a b e) N n (cb fn) an ps rs mi ms rv x:=by intro x;kernel_rfl) (h1:(fn.name=="runtime.NumGoroutine")=false:=by kernel_rfl) (h2:fn.body.isNone=false:=by kernel_rfl):Fb f:=⟨⟨ps,rs,mi,ms,d⟩,(RC (RR l a b e) hf hb hr hN hp hm an n).of_eq he,pl hf h1 h2⟩
abbrev T0:=(List Int)
abbrev T1:=(Int×Unit)
abbrev T2:=(Int×Int×Unit)
abbrev T3:=(Unit×Int×Unit)
abbrev T4:=(Unit×Bool×Unit)
abbrev T5:=((List Int)×Unit)
abbrev T6:=((Int×Unit)×Unit)
abbrev T7:=((List Bool)×Unit)
abbrev T8:=((Bool×Unit)×Unit)
abbrev T9:=(Unit×Int×Int×Unit)
abbrev T10:=((List Int)×Int×Unit)
abbrev T11:=((Int×Bool×Unit)×Unit)
abbrev T12:=Option ((Int×Unit)×Unit)
abbrev T13:=(((List Int)×Unit)×Unit)
abbrev T14:=Option ((Bool×Unit)×Unit)
abbrev T15:=(((List Bool)×Unit)×Unit)
abbrev T16:=((List Int)×Int×Int×Unit)
abbrev T17:=(Unit×(List Int)×Int×Unit)
abbrev T18:=((Int×Int×Bool×Unit)×Unit)
abbrev T19:=(((List Int)×Int×Int)×Unit)
abbrev T20:=((List Int)×(List Int)×Unit)
abbrev T21:=(Unit×(List Bool)×Int×Unit)
abbrev T22:=((List (Int×Int×Int))×Unit)
abbrev T23:=(((List Int)×Unit)×Int×Unit)
abbrev T24:=Option ((Int×Int×Unit)×Unit)
abbrev T25:=(((Int×Int×Int)×Unit)×Unit)
abbrev T26:=((List (Int×(List Int)))×Unit)
abbrev T27:=(((List Bool)×Unit)×Int×Unit)
abbrev T28:=(((List Int)×Unit)×Bool×Unit)
abbrev T29:=Option ((Int×Bool×Unit)×Unit)
abbrev T30:=(Unit×(List (Bool×Int))×Unit)
abbrev T31:=Option (((List Int)×Unit)×Unit)
abbrev T32:=(((List Bool)×Unit)×Bool×Unit)
abbrev T33:=(((Bool×Int)×Unit)×Bool×Unit)
abbrev T34:=(((Bool×Int)×Bool×Unit)×Unit)
abbrev T35:=Option (((List Bool)×Unit)×Unit)
abbrev T36:=(((List (Bool×Int))×Unit)×Unit)
abbrev T37:=(((Int×Int×Int)×Unit)×Int×Unit)
abbrev T38:=(Unit×(List (Int×Int×Int))×Unit)
abbrev T39:=Option ((Int×Int×Bool×Unit)×Unit)
abbrev T40:=((List (List Int))×(List Int)×Unit)
abbrev T41:=(((Int×Int×Int)×Unit)×Bool×Unit)
abbrev T42:=(Unit×(List (Bool×Int))×Int×Unit)
abbrev T43:=(((List Bool)×Unit)×Bool×Int×Unit)
abbrev T44:=(((List Int)×(List Int)×Unit)×Unit)
abbrev T45:=Option (((Int×Int×Int)×Unit)×Unit)
abbrev T46:=(((List (Int×Int×Int))×Unit)×Unit)
abbrev T47:=(((List Int)×Unit)×(List Bool)×Unit)
abbrev T48:=((List (Bool×Int))×(Bool×Int)×Unit)
abbrev T49:=(((List (Int×(List Int)))×Unit)×Unit)
abbrev T50:=(((List (Bool×Int))×Bool×Unit)×Unit)
abbrev T51:=Option (((Bool×Int)×Bool×Unit)×Unit)
abbrev T52:=Option (((List (Bool×Int))×Unit)×Unit)
abbrev T53:=(Unit×(List (Int×Int×Int))×Int×Unit)
abbrev T54:=(((List Int)×(List Int)×Unit)×Int×Unit)
abbrev T55:=(Unit×Int×(List (Int×(List Int)))×Unit)
abbrev T56:=((((List Int)×Int×Int)×Unit)×Bool×Unit)
abbrev T57:=((Bool×Unit)×((List Int)×Int×Int)×Unit)
abbrev T58:=((List ((List Int)×Int×(List Int)))×Unit)
abbrev T59:=(((List (Int×Int×Int))×Unit)×Bool×Unit)
abbrev T60:=(((List (Int×(List Int)))×Int×Unit)×Unit)
abbrev T61:=Option (((List (Int×Int×Int))×Unit)×Unit)
abbrev T62:=Option (((List (Bool×Int))×Bool×Unit)×Unit)
abbrev T63:=((Int×Bool×Unit)×((List Int)×Int×Int)×Unit)
abbrev T64:=((((List Int)×Int×Int)×(List Int)×Unit)×Unit)
abbrev T65:=Option ((Bool×Unit)×((List Int)×Int×Int)×Unit)
abbrev T66:=((List Bool)×(List Int)×(List (Bool×Int))×Unit)
abbrev T67:=Option (((List (Int×(List Int)))×Int×Unit)×Unit)
abbrev T68:=(((List (Bool×Int))×(Bool×Int)×Unit)×Bool×Unit)
abbrev T69:=(((Int×Int×Int)×(List (Int×Int))×Unit)×Int×Unit)
abbrev T70:=((List (Int×(List Int)))×(List Int)×(List Bool)×Unit)
abbrev T71:=((Int×(List (Int×Int×(List Int)×Bool))×Int×Int)×Unit)
abbrev T72:=(((List (Int×Int×Int))×(Int×Int×Int)×Unit)×Bool×Unit)
abbrev T73:=((((List Int)×Int×Int)×Unit)×(List (Int×(List Int)))×Unit)
abbrev T74:=((((List Int)×(List (List Int))×(List Int))×Int×Unit)×Unit)
abbrev T75:=(Unit×(Int×(List (Int×Int×(List Int)×Bool))×Int×Int)×Unit)
abbrev T76:=((Int×(List Int)×(List (Bool×Int))×Bool×Int×(List Int))×Unit)
abbrev T77:=(((List Int)×(List Int)×(List ((List Int)×Int))×Unit)×Int×Unit)
abbrev T78:=((((List Int)×Int×Int)×Unit)×(List (Int×(List Int)))×Bool×Unit)
abbrev T79:=(((List (Int×(List Int)))×Bool×Unit)×((List Int)×Int×Int)×Unit)
abbrev T80:=Option ((((List Int)×(List (List Int))×(List Int))×Int×Unit)×Unit)
abbrev T81:=((Int×Unit)×(Int×(List (Int×Int×(List Int)×Bool))×Int×Int)×Unit)
abbrev T82:=((((List Bool)×(List Int))×((List Bool)×(List Int))×Unit)×Bool×Unit)
abbrev T83:=Option (((List (Int×(List Int)))×Bool×Unit)×((List Int)×Int×Int)×Unit)
abbrev T84:=((List Int)×Int×Int×Unit)->Option (((List (Int×(List Int)))×Int×Unit)×Unit)
abbrev T85:=((((List (List (Int×Int×Int)))×(List (List ((Bool×Int)×Int))))×Int×Unit)×Unit)
abbrev T86:=(((Int×(List (Int×Int×(List Int)×Bool))×Int×Int)×(List (Int×Int))×Unit)×Unit)
abbrev T87:=((List (Int×(List Int)))×(List Int)×(List Bool)×Unit)->Option (((List Bool)×Unit)×Unit)
abbrev T88:=((((List (List (Int×Int×Int)))×(List (List (Bool×Int)))×(List (List Int)))×Bool×Unit)×Unit)
abbrev T89:=Option ((((List (List (Int×Int×Int)))×(List (List (Bool×Int)))×(List (List Int)))×Bool×Unit)×Unit)
abbrev T90:=(((List Int)×Int×Int)×Unit)->Option (((List (Int×(List Int)))×Bool×Unit)×((List Int)×Int×Int)×Unit)
abbrev T91:=((Int×Unit)×(List ((List Int)×Int))×((List (List (Int×Int×Int)))×(List (List ((Bool×Int)×Int))))×Unit)
abbrev T92:=(((List ((List Int)×Int×(List Int)))×(List (List Int))×(List (Int×(List Int)×(List (Bool×Int))×Bool×Int×(List Int)))×(List (Int×(List Int)))×Int)×Unit)
abbrev T93:=(((List ((List Int)×Int×(List Int)))×(List (List Int))×(List (Int×(List Int)×(List (Bool×Int))×Bool×Int×(List Int)))×(List (Int×(List Int)))×Int)×Int×Unit)
abbrev T94:=(((List ((List Int)×Int×(List Int)))×(List (List Int))×(List (Int×(List Int)×(List (Bool×Int))×Bool×Int×(List Int)))×(List (Int×(List Int)))×Int)×(Bool×Int)×Unit)
abbrev T95:=(((List ((List Int)×Int×(List Int)))×(List (List Int))×(List (Int×(List Int)×(List (Bool×Int))×Bool×Int×(List Int)))×(List (Int×(List Int)))×Int)×(Int×Int×Int)×Unit)
abbrev T96:=((Int×Unit)×((Int×(List (Int×Int×(List Int)×Bool))×Int×Int)×(List Int)×(List Int)×(List ((List Int)×Int))×(List (List Bool))×(List Int)×(List (List Int))×(List Int))×Unit)
abbrev T97:=(((List ((List Int)×Int×(List Int)))×(List (List Int))×(List (Int×(List Int)×(List (Bool×Int))×Bool×Int×(List Int)))×(List (Int×(List Int)))×Int)×(List (Int×Int×Int))×Unit)
abbrev T98:=((((List (List (Int×Int×Int)))×(List (List (Bool×Int)))×(List (List Int)))×((List (List (Int×Int×Int)))×(List (List (Bool×Int)))×(List (List Int)))×(List Int)×Unit)×Int×Unit)
abbrev T99:=(((List ((List Int)×Int×(List Int)))×(List (List Int))×(List (Int×(List Int)×(List (Bool×Int))×Bool×Int×(List Int)))×(List (Int×(List Int)))×Int)×(List (Int×Int×Int))×(Bool×Int)×Unit)
abbrev RS:=((((List Int)×(List (List Int))×(List Int))×((Int×(List (Int×Int×(List Int)×Bool))×Int×Int)×(List Int)×(List Int)×(List ((List Int)×Int))×(List (List Bool))×(List Int)×(List (List Int))×(List Int))×Unit)×Int×Unit)
abbrev PF:=(((((List ((List Int)×Int×(List Int)))×(List (List Int))×(List (Int×(List Int)×(List (Bool×Int))×Bool×Int×(List Int)))×(List (Int×(List Int)))×Int)×((List Bool)×(List Int))×(List Bool)×(List Int)×(List (Int×Int×Int)))×Unit)×Unit)
abbrev RT:=(((((List ((List Int)×Int×(List Int)))×(List (List Int))×(List (Int×(List Int)×(List (Bool×Int))×Bool×Int×(List Int)))×(List (Int×(List Int)))×Int)×((List Bool)×(List Int))×(List Bool)×(List Int)×(List (Int×Int×Int)))×Unit)×Bool×Unit)
abbrev A0:List (Ty×Md):=[(.box s9,.own (.pr .ro (.pr (.own .ro) (.pr .ro .ro))))]
abbrev A1:List (Ty×Md):=[(nw,.ro),(y9,.ro),(dx,.ro)]
abbrev A2:List (Ty×Md):=[(y9,.ro),(y2,.ro),(y2,.ro)]
abbrev A3:List (Ty×Md):=[(.nl Gj,.ro),(y2,.ro)]
abbrev A4:List (Ty×Md):=[(.box mh,.own .ro)]
abbrev A5:List (Ty×Md):=[(nw,.ro),(y4,.ro)]
abbrev A6:List (Ty×Md):=[(nw,.ro),(y2,.ro)]
abbrev A7:List (Ty×Md):=[(vW,.ro),(y2,.ro)]
abbrev A8:List (Ty×Md):=[(y26,.ro),(y79,.ro)]
abbrev A9:List (Ty×Md):=[(y26,.ro),(y58,.ro)]
abbrev A10:List (Ty×Md):=[(y26,.ro),(y2,.ro)]
abbrev A11:List (Ty×Md):=[(y12,.ro),(y4,.ro)]
abbrev A12:List (Ty×Md):=[(y2,.ro),(y2,.ro)]
abbrev A13:List (Ty×Md):=[(fC,.ro)]
abbrev A14:List (Ty×Md):=[(dx,.ro)]
abbrev A15:List (Ty×Md):=[(y26,.ro)]
abbrev A16:List (Ty×Md):=[(y12,.ro)]
abbrev A17:List (Ty×Md):=[(y58,.ro)]
abbrev A18:List (Ty×Md):=[(y4,.ro)]
abbrev A19:List (Ty×Md):=[(y2,.ro)]
abbrev A20:List (Ty×Md):=[(y9,.ro)]
end
noncomputable section
def Ap(v1:Nat)(v2:(((List Int)×Int×Int)×(List Int)×Unit)):T65:=bif decide ((v2.1.1.length:Int)<=v2.1.2.1)then some ((true,()),v2.1,())else aE (λ(v3:((((List Int)×Int×Int)×Unit)×Int×Unit))=>λv4=>bif decide (v3.2.1<(v2.2.1.length:Int))then if 0<=v3.1.1.2.1 then(match v3.1.1.1[(v3.1.1.2.1).toNat]? with|some v5=>if 0<=v3.2.1 then(match v2.2.1[(v3.2.1).toNat]? with|some v6=>bif decide (v5=v6)then some ((true,()),v3.1.1,())else v4 ((v3.1.1,()),IntKind.wrap .i64 (v3.2.1+1),())|none=>none)else none|none=>none)else none else some ((false,()),v3.1.1,())) v1 ((v2.1,()),0,())
def F171(n:Nat):Fb 171:=fb n [] [] [] [] Tryz.func171 Tryz.results171 Tryz.ntmps171 (.seq .nop (.seq .nop (.seq (.seq .nop (.block none (.loop ⟨[(6,.box mh,.own .ro)],[.val 18 y2],[0,1,17]⟩ .nop))) .nop))) [(.box mh,.own .ro),(y9,.ro)] A18 [0] A4 (Ap n)
def oY(v1:Nat)(v2:(((List Int)×Int×Int)×Int×Unit)):T65:=aw (λ(v3:T56)=>bif v3.2.1 then some ((true,()),(v3.1.1.1,IntKind.wrap .i64 (v3.1.1.2.1+1),v3.1.1.2.2),())else some ((false,()),v3.1.1,())) (λv4=>bif decide (v2.1.2.1<(v2.1.1.length:Int))then if 0<=v2.1.2.1 then(match v2.1.1[(v2.1.2.1).toNat]? with|some v5=>v4 ((v2.1,()),decide (v5=v2.2.1),())|none=>none)else none else v4 ((v2.1,()),false,()))
def F158(n:Nat):Fb 158:=fb n [] [] [] [] Tryz.func158 Tryz.results158 Tryz.ntmps158 (.seq .nop (.seq (.seq (.reg (some ⟨[(6,.box mh,.own .ro)],[.val 27 y4],[0]⟩) []) .nop) .nop)) [(.box mh,.own .ro),(y5,.ro)] A18 [0] A4 (oY n)
def Mf(v1:Nat)(v2:Unit):T31:=if(0:Int)<=(0:Int)then(match([0,0,0,0]:List Int)[(0:Int).toNat]? with|some v3=>if(0:Int)<=(1:Int)then(match(List.set ([0,0,0,0]:List Int) (0:Int).toNat (18446744073709551615:Int))[(1:Int).toNat]? with|some v4=>if(0:Int)<=(2:Int)then(match(List.set (List.set ([0,0,0,0]:List Int) (0:Int).toNat (18446744073709551615:Int)) (1:Int).toNat (18446744073709551615:Int))[(2:Int).toNat]? with|some v5=>if(0:Int)<=(3:Int)then(match(List.set (List.set (List.set ([0,0,0,0]:List Int) (0:Int).toNat (18446744073709551615:Int)) (1:Int).toNat (18446744073709551615:Int)) (2:Int).toNat (18446744073709551615:Int))[(3:Int).toNat]? with|some v6=>some ((List.set (List.set (List.set (List.set ([0,0,0,0]:List Int) (0:Int).toNat (18446744073709551615:Int)) (1:Int).toNat (18446744073709551615:Int)) (2:Int).toNat (18446744073709551615:Int)) (3:Int).toNat (18446744073709551615:Int),()),())|none=>none)else none|none=>none)else none|none=>none)else none|none=>none)else none
def F184(n:Nat):Fb 184:=fb n [] [] [] [] Tryz.func184 Tryz.results184 Tryz.ntmps184 (.seq .nop (.seq (.reg none [0]) .nop)) [] A13 [] [] (Mf n)
def Cs(v1:Nat)(v2:T1):T12:=aw (λ(v3:T4)=>bif v3.2.1 then some ((IntKind.wrap .i64 (IntKind.wrap .u8 (v2.1-48)),()),())else aw (λ(v4:T4)=>bif v4.2.1 then some ((IntKind.wrap .i64 ((IntKind.wrap .i64 (IntKind.wrap .u8 (v2.1-97)))+10),()),())else some ((-1,()),())) (λv5=>bif decide (97<=v2.1)then v5 ((),decide (v2.1<=102),())else v5 ((),false,()))) (λv6=>bif decide (48<=v2.1)then v6 ((),decide (v2.1<=57),())else v6 ((),false,()))
def F193(n:Nat):Fb 193:=fb n [] [] [] [] Tryz.func193 Tryz.results193 Tryz.ntmps193 (.seq .nop (.seq (.block none (.seq (.reg (some ⟨[],[.val 3 y4],[0]⟩) []) (.cond none .nop (.seq (.reg (some ⟨[],[.val 13 y4],[0]⟩) []) .nop)))) .nop)) [(y5,.ro)] A19 [] [] (Cs n)
def Mg(v1:Nat)(v2:T5):T39:=bif decide (v2.1=([]:List Int))then some ((0,0,false,()),())else if(0:Int)<=(0:Int)then(match v2.1[(0:Int).toNat]? with|some v3=>bif !(decide (v3=92))then if(0:Int)<=(0:Int)then(match v2.1[(0:Int).toNat]? with|some v4=>some ((v4,1,true,()),())|none=>none)else none else bif decide ((v2.1.length:Int)<2)then some ((0,0,false,()),())else if(0:Int)<=(1:Int)then(match v2.1[(1:Int).toNat]? with|some v5=>aw (λ(v6:(Unit×Unit))=>some ((0,0,false,()),())) (λv7=>bif decide (v5=110)then some ((10,2,true,()),())else bif decide (v5=116)then some ((9,2,true,()),())else bif decide (v5=114)then some ((13,2,true,()),())else bif decide (v5=120)then aw (λ(v8:T4)=>bif v8.2.1 then if(0:Int)<=(2:Int)then(match v2.1[(2:Int).toNat]? with|some v9=>aj (Cs v1 (v9,())) (λ(v10:T6)=>if(4:Int)<0 then none else if(0:Int)<=(3:Int)then(match v2.1[(3:Int).toNat]? with|some v11=>aj (Cs v1 (v11,())) (λ(v12:T6)=>some ((IntKind.wrap .u8 (eG .or .i64 (IntKind.wrap .i64 (v10.1.1*2 ^ (Nat.min (Int.toNat (4:Int)) (IntKind.bits .i64)))) v12.1.1),4,true,()),()))|none=>none)else none)|none=>none)else none else v7 ((),())) (λv13=>bif decide (4<=(v2.1.length:Int))then if(0:Int)<=(2:Int)then(match v2.1[(2:Int).toNat]? with|some v14=>aj (Cs v1 (v14,())) (λ(v15:T6)=>bif decide (0<=v15.1.1)then if(0:Int)<=(3:Int)then(match v2.1[(3:Int).toNat]? with|some v16=>aj (Cs v1 (v16,())) (λ(v17:T6)=>v13 ((),decide (0<=v17.1.1),()))|none=>none)else none else v13 ((),false,()))|none=>none)else none else v13 ((),false,()))else bif decide (v5=0)then v7 ((),())else aw (λ(v18:T4)=>bif v18.2.1 then some ((0,0,false,()),())else some ((v5,2,true,()),())) (λv19=>bif decide (48<=v5)then bif decide (v5<=57)then v19 ((),true,())else bif decide (97<=v5)then bif decide (v5<=122)then v19 ((),true,())else bif decide (65<=v5)then bif decide (v5<=90)then v19 ((),true,())else bif decide (v5<32)then v19 ((),true,())else v19 ((),decide (126<v5),())else bif decide (v5<32)then v19 ((),true,())else v19 ((),decide (126<v5),())else bif decide (65<=v5)then bif decide (v5<=90)then v19 ((),true,())else bif decide (v5<32)then v19 ((),true,())else v19 ((),decide (126<v5),())else bif decide (v5<32)then v19 ((),true,())else v19 ((),decide (126<v5),())else bif decide (97<=v5)then bif decide (v5<=122)then v19 ((),true,())else bif decide (65<=v5)then bif decide (v5<=90)then v19 ((),true,())else bif decide (v5<32)then v19 ((),true,())else v19 ((),decide (126<v5),())else bif decide (v5<32)then v19 ((),true,())else v19 ((),decide (126<v5),())else bif decide (65<=v5)then bif decide (v5<=90)then v19 ((),true,())else bif decide (v5<32)then v19 ((),true,())else v19 ((),decide (126<v5),())else bif decide (v5<32)then v19 ((),true,())else v19 ((),decide (126<v5),())))|none=>none)else none|none=>none)else none
def F191(n:Nat):Fb 191:=fb n [⟨_,F193 n⟩] [] [] [] Tryz.func191 Tryz.results191 Tryz.ntmps191 (.seq .nop (.seq .nop (.seq .nop (.seq (.seq .nop (.block none (.seq (.block (some ⟨[],[],[]⟩) (.seq .nop (.seq (.reg (some ⟨[],[.val 46 y4],[0]⟩) []) .nop))) .nop))) (.seq (.seq (.reg (some ⟨[],[.val 85 y4],[5]⟩) []) .nop) .nop))))) A20 [(y5,.ro),(y2,.ro),(y4,.ro)] [] [] (Mg n)
def Gl(v1:Nat)(v2:T19):Option ((Int×Bool×Unit)×((List Int)×Int×Int)×Unit):=if 0<=v2.1.2.1/\v2.1.2.1<=(v2.1.1.length:Int)/\(v2.1.1.length:Int)<=(v2.1.1.length:Int)then aj (Mg v1 (cz v2.1.1 v2.1.2.1 (v2.1.1.length:Int),())) (λ(v3:T18)=>some ((v3.1.1,v3.1.2.2.1,()),(v2.1.1,IntKind.wrap .i64 (v2.1.2.1+v3.1.2.1),v2.1.2.2),()))else none
def F186(n:Nat):Fb 186:=fb n [⟨_,F191 n⟩] [] [] [] Tryz.func186 Tryz.results186 Tryz.ntmps186 (.nop) A4 [(y5,.ro),(y4,.ro)] [0] A4 (Gl n)
def IF(v1:Nat)(v2:T2):T31:=aE (λ(v3:T54)=>λv4=>bif decide (v3.2.1<=(IntKind.wrap .i64 v2.2.1))then if(64:Int)=0 then none else if 0<=(IntKind.wrap .i64 (Int.tdiv v3.2.1 64))then(match v3.1.2.1[(IntKind.wrap .i64 (Int.tdiv v3.2.1 64)).toNat]? with|some v5=>if(64:Int)=0 then none else if(IntKind.wrap .u64 (Int.tmod v3.2.1 64))<0 then none else if 0<=(IntKind.wrap .i64 (Int.tdiv v3.2.1 64))then(match v3.1.2.1[(IntKind.wrap .i64 (Int.tdiv v3.2.1 64)).toNat]? with|some v6=>if 0<=(IntKind.wrap .i64 (Int.tdiv v3.2.1 64))then(match v3.1.2.1[(IntKind.wrap .i64 (Int.tdiv v3.2.1 64)).toNat]? with|some v7=>v4 ((v3.1.1,List.set v3.1.2.1 (IntKind.wrap .i64 (Int.tdiv v3.2.1 64)).toNat (eG .or .u64 v5 (IntKind.wrap .u64 ((1:Int)*2 ^ (Nat.min (Int.toNat (IntKind.wrap .u64 (Int.tmod v3.2.1 64))) (IntKind.bits .u64))))),()),IntKind.wrap .i64 (v3.2.1+1),())|none=>none)else none|none=>none)else none|none=>none)else none else some ((v3.1.2.1,()),())) v1 ((([0,0,0,0]:List Int),([0,0,0,0]:List Int),()),IntKind.wrap .i64 v2.1,())
def F189(n:Nat):Fb 189:=fb n [] [] [] [] Tryz.func189 Tryz.results189 Tryz.ntmps189 (.seq .nop (.seq .nop (.seq (.seq .nop (.block none (.loop ⟨[(32,.box fC,.own .ro),(40,.box fC,.own .ro)],[.val 6 y2],[1,4,5]⟩ .nop))) (.seq (.rgf none [5] [4]) .nop)))) [(y5,.ro),(y5,.ro)] A13 [] [] (IF n)
def IG(v1:Nat)(v2:T20):T31:=aE (λ(v3:T54)=>λv4=>bif decide (v3.2.1<4)then if 0<=v3.2.1 then(match v3.1.1[(v3.2.1).toNat]? with|some v5=>if 0<=v3.2.1 then(match v2.2.1[(v3.2.1).toNat]? with|some v6=>if 0<=v3.2.1 then(match v3.1.1[(v3.2.1).toNat]? with|some v7=>if 0<=v3.2.1 then(match v3.1.1[(v3.2.1).toNat]? with|some v8=>v4 ((List.set v3.1.1 (v3.2.1).toNat (eG .or .u64 v5 v6),v3.1.2.1,()),IntKind.wrap .i64 (v3.2.1+1),())|none=>none)else none|none=>none)else none|none=>none)else none|none=>none)else none else some ((v3.1.1,()),())) v1 ((v2.1,([0,0,0,0]:List Int),()),0,())
def F188(n:Nat):Fb 188:=fb n [] [] [] [] Tryz.func188 Tryz.results188 Tryz.ntmps188 (.seq (.reg none [3]) (.seq (.seq .nop (.block none (.loop ⟨[(16,.box fC,.own .ro),(32,.box fC,.own .ro)],[.val 6 y2],[2,3,4]⟩ .nop))) (.seq (.rgf none [2] [4]) .nop))) [(fC,.ro),(fC,.ro)] A13 [] [] (IG n)
def Mh(v1:Nat)(v2:T20):T31:=aE (λ(v3:T54)=>λv4=>bif decide (v3.2.1<4)then if 0<=v3.2.1 then(match v3.1.1[(v3.2.1).toNat]? with|some v5=>if 0<=v3.2.1 then(match v2.2.1[(v3.2.1).toNat]? with|some v6=>if 0<=v3.2.1 then(match v3.1.1[(v3.2.1).toNat]? with|some v7=>if 0<=v3.2.1 then(match v3.1.1[(v3.2.1).toNat]? with|some v8=>v4 ((List.set v3.1.1 (v3.2.1).toNat (eG .andNot .u64 v5 v6),v3.1.2.1,()),IntKind.wrap .i64 (v3.2.1+1),())|none=>none)else none|none=>none)else none|none=>none)else none|none=>none)else none else some ((v3.1.1,()),())) v1 ((v2.1,([0,0,0,0]:List Int),()),0,())
def F192(n:Nat):Fb 192:=fb n [] [] [] [] Tryz.func192 Tryz.results192 Tryz.ntmps192 (.seq (.reg none [3]) (.seq (.seq .nop (.block none (.loop ⟨[(16,.box fC,.own .ro),(32,.box fC,.own .ro)],[.val 6 y2],[2,3,4]⟩ .nop))) (.seq (.rgf none [2] [4]) .nop))) [(fC,.ro),(fC,.ro)] A13 [] [] (Mh n)
def Mi(v1:Nat)(v2:T5):T31:=aj (Mf v1 ()) (λ(v3:T13)=>aj (Mh v1 (v3.1.1,v2.1,())) (λ(v4:T13)=>some ((v4.1.1,()),())))
def F190(n:Nat):Fb 190:=fb n [⟨_,F184 n⟩,⟨_,F192 n⟩] [] [] [] Tryz.func190 Tryz.results190 Tryz.ntmps190 (.seq (.reg none [1]) (.seq (.reg none [2]) .nop)) A13 A13 [] [] (Mi n)
theorem Ol:xG Tryz.prog 215:=⟨by kernel_rfl,by kernel_rfl,by kernel_rfl⟩
def ta(v1:Nat)(v2:T5):T14:=some ((decide (v2.1=([0,0,0,0]:List Int)),()),())
def F161(n:Nat):Fb 161:=fb n [] [] [] [⟨_,Ol⟩] Tryz.func161 Tryz.results161 Tryz.ntmps161 (.seq (.reg none [1]) .nop) A13 A18 [] [] (ta n)
def Mj(v1:Nat)(v2:T19):T83:=aj (oY v1 (v2.1,94,())) (λ(v3:T57)=>aE (λ(v4:T64)=>λv5=>aj (Ap v1 (v4.1.1,([93]:List Int),())) (λ(v6:T57)=>bif !v6.1.1 then aj (Ap v1 (v6.2.1,([94,45,47,34]:List Int),())) (λ(v7:T57)=>bif v7.1.1 then some ((([]:List (Int×(List Int))),false,()),v7.2.1,())else aj (Gl v1 (v7.2.1,())) (λ(v8:T63)=>bif !v8.1.2.1 then some ((([]:List (Int×(List Int))),false,()),v8.2.1,())else aj (oY v1 (v8.2.1,45,())) (λ(v9:T57)=>aw (λ(v10:((((List Int)×Int×Int)×(List Int)×Unit)×Int×Unit))=>aj (IF v1 (v8.1.1,v10.2.1,())) (λ(v11:T13)=>aj (IG v1 (v10.1.2.1,v11.1.1,())) (λ(v12:T13)=>v5 ((v10.1.1,v12.1.1,()),())))) (λv13=>bif v9.1.1 then aj (Ap v1 (v9.2.1,([93,94,45,47,34]:List Int),())) (λ(v14:T57)=>bif v14.1.1 then some ((([]:List (Int×(List Int))),false,()),v14.2.1,())else aj (Gl v1 (v14.2.1,())) (λ(v15:T63)=>aw (λ(v16:((((List Int)×Int×Int)×(List Int)×Unit)×Bool×Unit))=>bif v16.2.1 then some ((([]:List (Int×(List Int))),false,()),v16.1.1,())else v13 ((v16.1.1,v16.1.2.1,()),v15.1.1,())) (λv17=>bif !v15.1.2.1 then v17 ((v15.2.1,v4.1.2.1,()),true,())else v17 ((v15.2.1,v4.1.2.1,()),decide (v15.1.1<v8.1.1),()))))else v13 ((v9.2.1,v4.1.2.1,()),v8.1.1,())))))else aw (λ(v18:T64)=>aw (λ(v19:T78)=>some ((v19.2.1,v19.2.2.1,()),v19.1.1,())) (λv20=>aj (oY v1 (v18.1.1,93,())) (λ(v21:T57)=>bif v21.1.1 then aj (ta v1 (v18.1.2.1,())) (λ(v22:T8)=>v20 ((v21.2.1,()),([(1,v18.1.2.1)]:List (Int×(List Int))),!v22.1.1,()))else v20 ((v21.2.1,()),([(1,v18.1.2.1)]:List (Int×(List Int))),false,())))) (λv23=>bif v3.1.1 then aj (Mi v1 (v4.1.2.1,())) (λ(v24:T13)=>v23 ((v6.2.1,v24.1.1,()),()))else v23 ((v6.2.1,v4.1.2.1,()),())))) v1 ((v3.2.1,([0,0,0,0]:List Int),()),()))
def F185(n:Nat):Fb 185:=fb n [⟨_,F158 n⟩,⟨_,F171 n⟩,⟨_,F186 n⟩,⟨_,F189 n⟩,⟨_,F188 n⟩,⟨_,F190 n⟩,⟨_,F161 n⟩] [] [] [] Tryz.func185 Tryz.results185 Tryz.ntmps185 (.seq .nop (.seq .nop (.seq .nop (.seq (.block none (.loop ⟨[(6,.box mh,.own .ro),(40,.box fC,.own .ro)],[],[0,4,5]⟩ (.seq .nop (.block none (.seq .nop (.seq .nop (.seq .nop (.seq .nop (.seq (.seq .nop (.cond (some ⟨[(6,.box mh,.own .ro),(40,.box fC,.own .ro)],[.val 8 y5],[0,4,5,6]⟩) (.seq .nop (.seq .nop (.seq (.reg (some ⟨[(6,.box mh,.own .ro),(40,.box fC,.own .ro)],[.val 39 y4],[0,4,5,6,8]⟩) []) .nop))) .nop)) .nop))))))))) (.seq (.seq .nop (.cond (some ⟨[(6,.box mh,.own .ro),(40,.box fC,.own .ro)],[],[0,5]⟩) .nop .nop)) (.seq (.rgf (some ⟨[(6,.box mh,.own .ro)],[.hdr 2 23 nw (.own .ro),.val 3 y4],[0]⟩) [5] []) .nop)))))) A4 A5 [0] A4 (Mj n)
def Mk(v1:Nat)(v2:T5):T31:=aE (λ(v3:T54)=>λv4=>bif decide (v3.2.1<(v2.1.length:Int))then if 0<=v3.2.1 then(match v2.1[(v3.2.1).toNat]? with|some v5=>if(64:Int)=0 then none else if 0<=(IntKind.wrap .u8 (Int.tdiv v5 64))then(match v3.1.2.1[(IntKind.wrap .u8 (Int.tdiv v5 64)).toNat]? with|some v6=>if(64:Int)=0 then none else if(Int.tmod v5 64)<0 then none else if 0<=(IntKind.wrap .u8 (Int.tdiv v5 64))then(match v3.1.2.1[(IntKind.wrap .u8 (Int.tdiv v5 64)).toNat]? with|some v7=>if 0<=(IntKind.wrap .u8 (Int.tdiv v5 64))then(match v3.1.2.1[(IntKind.wrap .u8 (Int.tdiv v5 64)).toNat]? with|some v8=>v4 ((v3.1.1,List.set v3.1.2.1 (IntKind.wrap .u8 (Int.tdiv v5 64)).toNat (eG .or .u64 v6 (IntKind.wrap .u64 ((1:Int)*2 ^ (Nat.min (Int.toNat (Int.tmod v5 64)) (IntKind.bits .u64))))),()),IntKind.wrap .i64 (v3.2.1+1),())|none=>none)else none|none=>none)else none|none=>none)else none|none=>none)else none else some ((v3.1.2.1,()),())) v1 ((([0,0,0,0]:List Int),([0,0,0,0]:List Int),()),0,())
def F187(n:Nat):Fb 187:=fb n [] [] [] [] Tryz.func187 Tryz.results187 Tryz.ntmps187 (.seq .nop (.seq .nop (.seq (.seq .nop (.block none (.loop ⟨[(16,.box fC,.own .ro),(24,.box fC,.own .ro)],[.val 8 y2],[2,3,6,7]⟩ .nop))) (.seq (.rgf none [3] [2]) .nop)))) [(vV,.ro)] A13 [] [] (Mk n)
def Aq(v1:Nat)(v2:T1):T12:=aw (λ(v3:T4)=>bif v3.2.1 then some ((0,()),())else aw (λ(v4:T4)=>bif v4.2.1 then some ((1,()),())else aw (λ(v5:T4)=>bif v5.2.1 then some ((2,()),())else some ((-1,()),())) (λv6=>bif decide (v2.1=2)then v6 ((),decide (v2.1=2),())else v6 ((),decide (v2.1=3),()))) (λv7=>bif decide (v2.1=4)then v7 ((),decide (v2.1=4),())else aw (λ(v8:T4)=>v7 ((),v8.2.1,())) (λv9=>bif decide (v2.1=5)then v9 ((),decide (v2.1=5),())else v9 ((),decide (v2.1=6),())))) (λv10=>bif decide (v2.1=0)then v10 ((),decide (v2.1=0),())else v10 ((),decide (v2.1=1),()))
def F160(n:Nat):Fb 160:=fb n [] [] [] [] Tryz.func160 Tryz.results160 Tryz.ntmps160 (.seq .nop (.seq (.seq .nop (.block none (.seq (.seq .nop (.cond (some ⟨[],[.val 4 y4],[3]⟩) .nop .nop)) (.cond none .nop (.seq (.seq .nop (.cond (some ⟨[],[.val 7 y4],[3]⟩) .nop (.seq .nop (.cond (some ⟨[],[.val 7 y4],[3]⟩) .nop .nop)))) (.cond none .nop (.seq (.seq .nop (.cond (some ⟨[],[.val 11 y4],[]⟩) .nop .nop)) .nop))))))) .nop)) A19 A19 [] [] (Aq n)
def uH(v1:Nat)(v2:(Int×(List (List (Int×(List Int))))×Unit)):Option (((List (Int×(List Int)))×Unit)×Unit):=aw (λ(v3:T4)=>bif v3.2.1 then some ((([]:List (Int×(List Int))),()),())else aE (λ(v4:(Unit×(List (Int×(List Int)))×Int×Unit))=>λv5=>bif decide (v4.2.2.1<(v2.2.1.length:Int))then if 0<=v4.2.2.1 then(match v2.2.1[(v4.2.2.1).toNat]? with|some v6=>if(List.length v4.2.1+List.length v6)*40<=140737488355328 then if List.length v4.2.1+List.length v6<=9223372036854775807 then v5 ((),v4.2.1++v6,IntKind.wrap .i64 (v4.2.2.1+1),())else none else none|none=>none)else none else if(List.length v4.2.1+List.length ([(v2.1,([0,0,0,0]:List Int))]:List (Int×(List Int))))*40<=140737488355328 then if List.length v4.2.1+List.length ([(v2.1,([0,0,0,0]:List Int))]:List (Int×(List Int)))<=9223372036854775807 then some ((v4.2.1++([(v2.1,([0,0,0,0]:List Int))]:List (Int×(List Int))),()),())else none else none) v1 ((),([]:List (Int×(List Int))),0,())) (λv7=>aj (Aq v1 (v2.1,())) (λ(v8:T6)=>bif !(decide (v8.1.1=(v2.2.1.length:Int)))then v7 ((),true,())else v7 ((),decide ((v2.2.1.length:Int)=0),())))
def F159(n:Nat):Fb 159:=fb n [⟨_,F160 n⟩] [] [] [] Tryz.func159 Tryz.results159 Tryz.ntmps159 (.seq .nop (.seq (.seq (.reg (some ⟨[],[.val 17 y4],[0,1]⟩) []) .nop) (.seq .nop (.seq (.seq .nop (.block none (.loop ⟨[],[.hdr 5 47 nw (.own .ro),.val 20 y2],[0,18,19]⟩ .nop))) .nop)))) [(y2,.ro),(Me,.ro)] [(nw,.ro)] [] [] (uH n)
abbrev Gm:=Qt A4 A5 A4
abbrev PG(q:Gm):Callee:=⟨_,_,[0],_,q⟩
theorem IH:Plain Tryz.prog 145:=pl Tryz.func145
abbrev Gn:=Qt A4 A5 A4
abbrev RU(q:Gn):Callee:=⟨_,_,[0],_,q⟩
theorem Ml:Plain Tryz.prog 157:=pl Tryz.func157
abbrev Gp:=Qt A4 A5 A4
abbrev RW(q:Gp):Callee:=⟨_,_,[0],_,q⟩
theorem Mm:Plain Tryz.prog 170:=pl Tryz.func170
abbrev Gq:=Qt A4 A5 A4
abbrev RX(q:Gq):Callee:=⟨_,_,[0],_,q⟩
theorem Mn:Plain Tryz.prog 181:=pl Tryz.func181
abbrev II(nx:Gm)(ny:Gn)(nz:Gp)(nA:Gq):=fX Tryz.prog 145 (PG nx)/\fX Tryz.prog 157 (RU ny)/\fX Tryz.prog 170 (RW nz)/\fX Tryz.prog 181 (RX nA)
def Ar(v1:Nat)(v2 v3 v4 v5:T90)(v6:T19):T83:=aj (v3 (v6.1,())) (λ(v7:T79)=>aE (λ(v8:T78)=>λv9=>aw (λ(v10:T56)=>bif v10.2.1 then aj (v3 (v10.1.1,())) (λ(v11:T79)=>aj (uH v1 (3,([v8.2.1,v11.1.1]:List (List (Int×(List Int)))),())) (λ(v12:T49)=>v9 ((v11.2.1,()),v12.1.1,v11.1.2.1,())))else some ((v8.2.1,v8.2.2.1,()),v10.1.1,())) (λv13=>bif v8.2.2.1 then aj (oY v1 (v8.1.1,124,())) (λ(v14:T57)=>v13 ((v14.2.1,()),v14.1.1,()))else v13 ((v8.1.1,()),false,()))) v1 ((v7.2.1,()),v7.1.1,v7.1.2.1,()))
theorem UP(n:Nat)(nx:Gm)(ny:Gn)(nz:Gp)(nA:Gq)(h:II nx ny nz nA):fX Tryz.prog 145 (PG (Ar n nx ny nz nA)):=(fb n [⟨_,F158 n⟩,⟨_,F159 n⟩,⟨_,⟨_,h.1,IH⟩⟩,⟨_,⟨_,h.2.1,Ml⟩⟩,⟨_,⟨_,h.2.2.1,Mm⟩⟩,⟨_,⟨_,h.2.2.2,Mn⟩⟩] [9,19] [] [] Tryz.func145 Tryz.results145 Tryz.ntmps145 (.seq .nop (.seq .nop (.seq (.block none (.loop ⟨[(6,.box mh,.own .ro)],[.val 4 nw,.val 5 y4],[0]⟩ (.seq (.seq (.reg (some ⟨[(6,.box mh,.own .ro)],[.val 16 y4],[0,4,5]⟩) []) .nop) .nop))) .nop))) A4 A5 [0] A4 (Ar n nx ny nz nA)).o
def As(v1:Nat)(v2 v3 v4 v5:T90)(v6:T19):T83:=aj (v4 (v6.1,())) (λ(v7:T79)=>aE (λ(v8:T78)=>λv9=>aw (λ(v10:T56)=>bif v10.2.1 then aj (v4 (v10.1.1,())) (λ(v11:T79)=>aj (uH v1 (2,([v8.2.1,v11.1.1]:List (List (Int×(List Int)))),())) (λ(v12:T49)=>v9 ((v11.2.1,()),v12.1.1,v11.1.2.1,())))else some ((v8.2.1,v8.2.2.1,()),v10.1.1,())) (λv13=>bif v8.2.2.1 then aj (Ap v1 (v8.1.1,([124,41]:List Int),())) (λ(v14:T57)=>v13 ((v14.2.1,()),!v14.1.1,()))else v13 ((v8.1.1,()),false,()))) v1 ((v7.2.1,()),v7.1.1,v7.1.2.1,()))
theorem UQ(n:Nat)(nx:Gm)(ny:Gn)(nz:Gp)(nA:Gq)(h:II nx ny nz nA):fX Tryz.prog 157 (RU (As n nx ny nz nA)):=(fb n [⟨_,F171 n⟩,⟨_,F159 n⟩,⟨_,⟨_,h.1,IH⟩⟩,⟨_,⟨_,h.2.1,Ml⟩⟩,⟨_,⟨_,h.2.2.1,Mm⟩⟩,⟨_,⟨_,h.2.2.2,Mn⟩⟩] [9,20] [] [] Tryz.func157 Tryz.results157 Tryz.ntmps157 (.seq .nop (.seq .nop (.seq (.block none (.loop ⟨[(6,.box mh,.own .ro)],[.val 4 nw,.val 5 y4],[0]⟩ (.seq (.seq (.reg (some ⟨[(6,.box mh,.own .ro)],[.val 17 y4],[0,4,5]⟩) []) .nop) .nop))) .nop))) A4 A5 [0] A4 (As n nx ny nz nA)).o
def Au(v1:Nat)(v2 v3 v4 v5:T90)(v6:T19):T83:=aj (v5 (v6.1,())) (λ(v7:T79)=>aE (λ(v8:T73)=>λv9=>bif v7.1.2.1 then aj (oY v1 (v8.1.1,42,())) (λ(v10:T57)=>aw (λ(v11:T73)=>v9 ((v11.1.1,()),v11.2.1,())) (λv12=>bif v10.1.1 then aj (uH v1 (4,([v8.2.1]:List (List (Int×(List Int)))),())) (λ(v13:T49)=>v12 ((v10.2.1,()),v13.1.1,()))else aj (oY v1 (v10.2.1,43,())) (λ(v14:T57)=>aw (λ(v15:T73)=>v12 ((v15.1.1,()),v15.2.1,())) (λv16=>bif v14.1.1 then aj (uH v1 (5,([v8.2.1]:List (List (Int×(List Int)))),())) (λ(v17:T49)=>v16 ((v14.2.1,()),v17.1.1,()))else aj (oY v1 (v14.2.1,63,())) (λ(v18:T57)=>bif v18.1.1 then aj (uH v1 (6,([v8.2.1]:List (List (Int×(List Int)))),())) (λ(v19:T49)=>v16 ((v18.2.1,()),v19.1.1,()))else some ((v8.2.1,true,()),v18.2.1,()))))))else some ((([]:List (Int×(List Int))),false,()),v8.1.1,())) v1 ((v7.2.1,()),v7.1.1,()))
theorem UR(n:Nat)(nx:Gm)(ny:Gn)(nz:Gp)(nA:Gq)(h:II nx ny nz nA):fX Tryz.prog 170 (RW (Au n nx ny nz nA)):=(fb n [⟨_,F158 n⟩,⟨_,F159 n⟩,⟨_,⟨_,h.1,IH⟩⟩,⟨_,⟨_,h.2.1,Ml⟩⟩,⟨_,⟨_,h.2.2.1,Mm⟩⟩,⟨_,⟨_,h.2.2.2,Mn⟩⟩] [8] [] [] Tryz.func170 Tryz.results170 Tryz.ntmps170 (.seq .nop (.seq .nop (.seq (.block none (.loop ⟨[(6,.box mh,.own .ro)],[.val 4 nw],[0,5]⟩ (.seq .nop (.block none (.block none (.seq .nop (.cond (some ⟨[(6,.box mh,.own .ro)],[.val 4 nw],[0,5]⟩) .nop (.seq .nop (.cond (some ⟨[(6,.box mh,.own .ro)],[.val 4 nw],[0,5]⟩) .nop .nop))))))))) .nop))) A4 A5 [0] A4 (Au n nx ny nz nA)).o
def Av(v1:Nat)(v2 v3 v4 v5:T90)(v6:T19):T83:=aj (Ap v1 (v6.1,([124,41,42,43,63,93,47,34]:List Int),())) (λ(v7:T57)=>bif v7.1.1 then some ((([]:List (Int×(List Int))),false,()),v7.2.1,())else aj (oY v1 (v7.2.1,46,())) (λ(v8:T57)=>bif v8.1.1 then aj (Mf v1 ()) (λ(v9:T13)=>some ((([(1,v9.1.1)]:List (Int×(List Int))),true,()),v8.2.1,()))else aj (oY v1 (v8.2.1,126,())) (λ(v10:T57)=>bif v10.1.1 then some ((([(0,([0,0,0,0]:List Int))]:List (Int×(List Int))),true,()),v10.2.1,())else aj (oY v1 (v10.2.1,40,())) (λ(v11:T57)=>bif v11.1.1 then aj (v2 ((v11.2.1.1,v11.2.1.2.1,IntKind.wrap .i64 (v11.2.1.2.2+1)),())) (λ(v12:T79)=>aw (λ(v13:T78)=>some ((v13.2.1,v13.2.2.1,()),v13.1.1,())) (λv14=>bif v12.1.2.1 then bif decide ((IntKind.wrap .i64 (v12.2.1.2.2-1))<99)then aj (oY v1 ((v12.2.1.1,v12.2.1.2.1,IntKind.wrap .i64 (v12.2.1.2.2-1)),41,())) (λ(v15:T57)=>v14 ((v15.2.1,()),v12.1.1,v15.1.1,()))else v14 (((v12.2.1.1,v12.2.1.2.1,IntKind.wrap .i64 (v12.2.1.2.2-1)),()),v12.1.1,false,())else v14 (((v12.2.1.1,v12.2.1.2.1,IntKind.wrap .i64 (v12.2.1.2.2-1)),()),v12.1.1,false,())))else aj (oY v1 (v11.2.1,91,())) (λ(v16:T57)=>bif v16.1.1 then aj (Mj v1 (v16.2.1,())) (λ(v17:T79)=>some ((v17.1.1,v17.1.2.1,()),v17.2.1,()))else aj (Gl v1 (v16.2.1,())) (λ(v18:T63)=>aj (Mk v1 (([v18.1.1]:List Int),())) (λ(v19:T13)=>some ((([(1,v19.1.1)]:List (Int×(List Int))),v18.1.2.1,()),v18.2.1,()))))))))
theorem US(n:Nat)(nx:Gm)(ny:Gn)(nz:Gp)(nA:Gq)(h:II nx ny nz nA):fX Tryz.prog 181 (RX (Av n nx ny nz nA)):=(fb n [⟨_,F171 n⟩,⟨_,F158 n⟩,⟨_,F184 n⟩,⟨_,F185 n⟩,⟨_,F186 n⟩,⟨_,F187 n⟩,⟨_,⟨_,h.1,IH⟩⟩,⟨_,⟨_,h.2.1,Ml⟩⟩,⟨_,⟨_,h.2.2.1,Mm⟩⟩,⟨_,⟨_,h.2.2.2,Mn⟩⟩] [34,61] [] [] Tryz.func181 Tryz.results181 Tryz.ntmps181 (.seq .nop (.seq (.block none (.seq .nop (.cond none .nop (.seq .nop (.cond none .nop (.seq .nop (.cond none .nop (.seq .nop (.cond none (.seq .nop (.seq .nop (.seq .nop (.seq (.reg (some ⟨[(6,.box mh,.own .ro)],[.val 2 nw,.val 3 y4],[0]⟩) []) .nop)))) .nop))))))))) .nop)) A4 A5 [0] A4 (Av n nx ny nz nA)).o
def da(n:Nat):Nat->(T19->T83)×(T19->T83)×(T19->T83)×(T19->T83)
 |0=>(λ_=>none,λ_=>none,λ_=>none,λ_=>none)
 |d+1=>(λx=>Ar n (da n d).1 (da n d).2.1 (da n d).2.2.1 (da n d).2.2.2 x,λx=>As n (da n d).1 (da n d).2.1 (da n d).2.2.1 (da n d).2.2.2 x,λx=>Au n (da n d).1 (da n d).2.1 (da n d).2.2.1 (da n d).2.2.2 x,λx=>Av n (da n d).1 (da n d).2.1 (da n d).2.2.1 (da n d).2.2.2 x)
theorem IJ(n:Nat):∀ d,II (da n d).1 (da n d).2.1 (da n d).2.2.1 (da n d).2.2.2
 |0=>⟨(λx r h=>by cases h),(λx r h=>by cases h),(λx r h=>by cases h),(λx r h=>by cases h)⟩
 |d+1=>⟨UP n _ _ _ _ (IJ n d),UQ n _ _ _ _ (IJ n d),UR n _ _ _ _ (IJ n d),US n _ _ _ _ (IJ n d)⟩
def PH(n:Nat)(x:T19):T83:=(da n n).1 x
def F145(n:Nat):Fb 145:=⟨PG (PH n),(IJ n n).1,IH⟩
def Mo(v1:Nat)(v2:T5):T67:=bif decide (1600<(v2.1.length:Int))then some ((([]:List (Int×(List Int))),6,()),())else aj (PH v1 ((v2.1,0,0),())) (λ(v3:T79)=>aw (λ(v4:T4)=>bif v4.2.1 then some ((([]:List (Int×(List Int))),5,()),())else bif decide (400<(v3.1.1.length:Int))then some ((([]:List (Int×(List Int))),6,()),())else some ((v3.1.1,0,()),())) (λv5=>bif !v3.1.2.1 then v5 ((),true,())else v5 ((),decide (v3.2.1.2.1<(v2.1.length:Int)),())))
def F128(n:Nat):Fb 128:=fb n [⟨_,F145 n⟩] [15] [] [] Tryz.func128 Tryz.results128 Tryz.ntmps128 (.seq .nop (.seq .nop (.seq .nop (.seq .nop (.seq (.block none (.seq (.reg (some ⟨[],[.val 18 y4],[5]⟩) []) .nop)) .nop))))) A20 A6 [] [] (Mo n)
end
end Go.Proofs.YthalkfdkbalpmaaGreat.Rf
