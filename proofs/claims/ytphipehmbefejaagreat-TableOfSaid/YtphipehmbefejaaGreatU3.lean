/- A part of a proof that the given statement of this claim is true of the program. No conditions. Printed by pack2.py. -/
import Derived.Test.YtphipehmbefejaaGreatU2
set_option linter.unusedVariables false
set_option linter.unusedSimpArgs false
namespace Go.Proofs.YtphipehmbefejaaGreat.Rf
open Go
noncomputable section
inductive JE where
 |val (s:Nat) (t:Ty)
 |hdr (s key:Nat) (t:Ty) (m:Md)
def JE.ty:JE->Ty
 |.val _ t=>t
 |.hdr _ _ t _=>t
def jsT:List JE->Ty
 |[]=>.unit
 |j::js=>.pair j.ty (jsT js)
def ipT:List (Nat×Ty×Md)->Ty
 |[]=>.unit
 |p::ps=>.pair p.2.1 (ipT ps)
structure Spec where
 ip:List (Nat×Ty×Md)
 js:List JE
 GB:List Nat
abbrev Spec.T(s:Spec):Type:=(ipT s.ip).T×(jsT s.js).T
def gG(t:Nat):List Nat->Bool
 |[]=>false
 |x::xs=>Nat.beq t x||gG t xs
def isKey(l:Nat):List JE->Bool
 |[]=>false
 |.hdr _ k _ _::js=>Nat.beq l k||isKey l js
 |_::js=>isKey l js
def z7(l:Nat):List (Nat×Ty×Md)->Bool
 |[]=>false
 |p::ps=>Nat.beq l p.1||z7 l ps
def I8(σ0:St)(l:Nat):Nat:=match σ0.L l with|some b=>b.v+1|none=>1
def ipL(σ0:St):(ip:List (Nat×Ty×Md))->(ipT ip).T->Nat->Option Lab
 |[],_=>λ_=>none
 |p::ps,x=>upd (ipL σ0 ps x.2) p.1 (some ⟨I8 σ0 p.1,p.2.1,p.2.2,x.1⟩)
def kn(σ0:St)(s:Spec)(x:(ipT s.ip).T):St:=
 {E:=λt=>bif gG t s.GB then σ0.E t else none,L:=ipL σ0 s.ip x,U:=λl=>(σ0.U l&&!isKey l s.js)||z7 l s.ip}
def I9:(js:List JE)->(jsT js).T->St->St
 |[],_,σ=>σ
 |.val s t::js,x,σ=>I9 js x.2 {σ with E:=upd σ.E s (some (.one (.val t x.1)))}
 |.hdr s key t m::js,x,σ=>I9 js x.2 {E:=upd σ.E s (some (.one (.hdr key 1 [] ⟨t,x.1⟩))),L:=upd σ.L key (some ⟨1,t,m,x.1⟩),U:=λj=>Nat.beq j key||σ.U j}
def stJ(σ0:St)(s:Spec)(x:s.T):St:=I9 s.js x.2 (kn σ0 s x.1)
def ipK{R:Type}:(ip:List (Nat×Ty×Md))->(Nat->Option Lab)->((ipT ip).T->(Nat->Option Lab)->Option R)->Option R
 |[],L,K=>K () L
 |p::ps,L,K=>match L p.1 with
  |some ⟨_,t,m,x⟩=>if h:t=p.2.1 then(bif decide (m=p.2.2)then ipK ps (upd L p.1 none) λxs L'=>K (h ▸ x,xs) L' else none)else none
  |none=>none
def jsK{R:Type}(σ1:St):(js:List JE)->(Nat->Option Lab)->((jsT js).T->Option R)->Option R
 |[],_,K=>K ()
 |.val s t::js,L,K=>match σ1.E s with
  |some (.one e)=>asN e t λx=>jsK σ1 js L λxs=>K (x,xs)
  |_=>none
 |.hdr s _ t m::js,L,K=>match σ1.E s with
  |some (.one e)=>uq L t m e λy L'=>jsK σ1 js L' λxs=>K (y,xs)
  |_=>none
def qb(σ0 σ1:St):List Nat->Bool
 |[]=>true
 |t::ts=>((σ0.E t).isNone||((σ1.E t).isSome&&(pt (σ1.E t) == pt (σ0.E t))))&&qb σ0 σ1 ts
def CH{R:Type}(σ0:St)(s:Spec)(σ1:St)(K:s.T->Option R):Option R:=
 bif qb σ0 σ1 s.GB then ipK s.ip σ1.L λxs L=>jsK σ1 s.js L λys=>K (xs,ys)else none
def rL:ar->Option Nat
 |.hdr l ..=>some l
 |.adr l ..=>some l
 |.view l ..=>some l
 |_=>none
def Ek(js:List JE):Option Ent->Bool
 |some (.one e)=>(match rL e with|some l=>!isKey l js|none=>true)
 |some (.tup _)=>false
 |some (.clo _ es)=>es.all λe=>(match rL e with|some l=>!isKey l js|none=>true)
 |none=>true
def ye(σ0:St)(js:List JE)(W:Nat->Bool):List Nat->Bool
 |[]=>true
 |t::ts=>(!W t&&Ek js (σ0.E t))&&ye σ0 js W ts
def Nb(σ0:St)(js:List JE):List (Nat×Ty×Md)->Bool
 |[]=>true
 |p::ps=>(((σ0.L p.1).isSome||!σ0.U p.1)&&!isKey p.1 js)&&Nb σ0 js ps
def tj(σ0:St)(W:Nat->Bool):List JE->Bool
 |[]=>true
 |.val s _::js=>(W s||pt (σ0.E s))&&tj σ0 W js
 |.hdr s k _ _::js=>(W s&&(!isKey k js&&Nat.beq (k % 8) 7))&&tj σ0 W js
def mZ(σ0:St)(s:Spec)(W:Nat->Bool):Bool:=ye σ0 s.js W s.GB&&(Nb σ0 s.js s.ip&&tj σ0 W s.js)
section
variable {P:Program} {B:dD} {F:af} {Sg:Nat->af} {cg:Nat->List Value} {σ:St} {a:Act} {w:World}
theorem aP.yf(h:aP B F Sg cg σ a w){s:Nat}{e:Ent}(he:iu F w σ.L σ.U cg e (a.tmps.getD s undef)):aP B F Sg cg {σ with E:=upd σ.E s (some e)} a w:=
 {h with
  ent:=λt e' he'=>by
   rcases fv he' with⟨rfl,e1⟩|⟨hn,e1⟩
   ·simp_all
   ·exact h.ent t e' e1}
theorem uC{t:Nat}{l:List Nat}(h:gG t l=true):t∈l:=by
 induction l with
 |nil=>cases h
 |cons x xs ih=>
  simp only[gG,aJ]at h
  grind [Nat.eq_of_beq_eq_true]
theorem z8{σ0 σ1:St}{l:List Nat}(h:qb σ0 σ1 l=true){t:Nat}(ht:t∈l):((σ0.E t).isNone||((σ1.E t).isSome&&(pt (σ1.E t) == pt (σ0.E t))))=true:=by
 induction l with
 |nil=>simp at ht
 |cons x xs ih=>
  simp only[qb,ag]at h
  grind
theorem CI{σ0:St}{js:List JE}{W:Nat->Bool}{l:List Nat}(h:ye σ0 js W l=true){t:Nat}(ht:t∈l):W t=false/\Ek js (σ0.E t)=true:=by
 induction l with
 |nil=>simp at ht
 |cons x xs ih=>
  simp only[ye,ag,bC]at h
  grind
theorem Aa{σ0:St}{js:List JE}{l:Nat}{ps:List (Nat×Ty×Md)}(h:Nb σ0 js ps=true)(hl:z7 l ps=true):((σ0.L l).isSome||!σ0.U l)=true/\isKey l js=false:=by
 induction ps with
 |nil=>cases hl
 |cons p ps ih=>
  simp only[Nb,ag,bC]at h
  simp only[z7,aJ]at hl
  grind [Nat.eq_of_beq_eq_true]
theorem Re{R:Type}{σ0:St}:∀ (ip:List (Nat×Ty×Md)) (L:Nat->Option Lab) (K:(ipT ip).T->(Nat->Option Lab)->Option R) (r:R),ipK ip L K=some r->
 ∃ xs L',K xs L'=some r/\(∀ j,L' j=none\/L' j=L j)/\∀ l b',ipL σ0 ip xs l=some b'->z7 l ip=true/\L' l=none/\∃ b1,L l=some b1/\b'=⟨I8 σ0 l,b1.t,b1.m,b1.x⟩:=by
 intro ip
 induction ip with
 |nil=>intro L K r hk;exact⟨(),L,hk,λ_=>.inr rfl,λl b' h=>by cases h⟩
 |cons p ps ih=>
  intro L K r hk
  simp only[ipK]at hk
  cases hl:L p.1 with
  |none=>rw[hl]at hk;cases hk
  |some b=>
   rw[hl]at hk
   obtain⟨v,t,m,x⟩:=b
   simp only at hk
   split at hk
   ·rename_i ht
    cases hm:decide (m=p.2.2)
    ·rw[hm]at hk;cases hk
    rw[hm]at hk
    simp only[cond_true]at hk
    replace hm:=of_decide_eq_true hm
    obtain⟨xs,L',g1,g2,g3⟩:=ih _ _ r hk
    have hL':∀ j,L' j=none\/L' j=L j:=λj=>by
     rcases g2 j with e|e
     ·exact .inl e
     ·rw[e]
      by_cases hj:j=p.1
      ·subst hj;exact .inl (aG _ _ _)
      ·exact .inr (aW _ _ hj)
    refine⟨_,L',g1,hL',λl b' hb=>?_⟩
    rcases fv hb with⟨rfl,e⟩|⟨hne,e⟩
    ·refine⟨by simp[z7,fc],?_,⟨v,t,m,x⟩,hl,?_⟩
     ·rcases g2 p.1 with e1|e1
      ·exact e1
      ·rw[e1];exact aG _ _ _
     ·injection e with e
      subst e
      obtain⟨p1,p2,p3⟩:=p
      simp only at ht hm
      subst ht;subst hm
      rfl
    ·obtain⟨q1,q2,b1,q3,q4⟩:=g3 l b' e
     rw[aW _ _ hne]at q3
     exact⟨by simp[z7,q1],q2,b1,q3,q4⟩
   ·cases hk
theorem uD{l s key:Nat}{t:Ty}{m:Md}{js:List JE}:isKey l (.hdr s key t m::js)=(Nat.beq l key||isKey l js):=rfl
theorem Rg{R:Type}{F:af}{Sg:Nat->af}{cg:Nat->List Value}{σ1:St}(h1:aP B F Sg cg σ1 a w){W:Nat->Bool}{σ0:St}:∀ (js:List JE) (L:Nat->Option Lab) (K:(jsT js).T->Option R) (r:R) (σp:St) (Sgp:Nat->af) (cgp:Nat->List Value),jsK σ1 js L K=some r->tj σ0 W js=true->(∀ j,L j=none\/L j=σ1.L j)->
 aP B F Sgp cgp σp a w->(∀ l,isKey l js=true->σp.U l=false)->(∀ k bk,σp.L k=some bk->∀ l b,L l=some b->Dis (Sgp k) (Sg l))->∃ ys,K ys=some r/\Inv B (I9 js ys σp) a w:=by
 intro js
 induction js with
 |nil=>intro L K r σp Sgp cgp hk _ _ hp _ _;exact⟨(),hk,F,Sgp,cgp,hp⟩
 |cons j js ih=>
  intro L K r σp Sgp cgp hk ho hL hp hU hd
  cases j with
  |val s t=>
   simp only[jsK]at hk
   simp only[tj,ag]at ho
   split at hk
   ·rename_i e hE
    obtain⟨x,cs,hk,hr,hv⟩:=II hk (h1.ent s _ hE)
    obtain⟨ys,g1,g2⟩:=ih L _ r _ Sgp cgp hk ho.2 hL (hp.yf (s:=s) (e:=.one (.val t x)) ⟨cs,hr,hv⟩) (λl hl=>hU l hl) hd
    exact⟨(x,ys),g1,g2⟩
   ·cases hk
  |hdr s key t m=>
   simp only[jsK]at hk
   simp only[tj,ag,bC]at ho
   split at hk
   ·rename_i e hE
    obtain⟨y,L1,cs1,S1,hk,hr,hv,hL1,hS1⟩:=zR h1 hL hk (h1.ent s _ hE)
    have hUk:σp.U key=false:=hU key (by rw[uD,fc];rfl)
    have i1:=hp.jQ (w':=w) rfl rfl rfl (aw _) (l:=key) (b:=⟨1,t,m,y⟩) hUk (upd σp.L key (some ⟨1,t,m,y⟩)) (λ_ _ _=>rfl) hr (aG _ _ _) (λj hj=>.inr (aW _ _ hj))
     (λk hk=>by
      obtain⟨l2,b2,e1,e2,e3,e4⟩:=hS1 k hk
      refine⟨λj bj hj hbj hs=>?_,λhf=>h1.ek l2 b2 e2 k e4 hf,h1.lt l2 b2 e2 k e4,h1.may l2 b2 e2 k e4⟩
      rw[aW _ _ hj]at hbj
      exact hd j bj hbj l2 b2 e1 k hs e4)
    have i2:=i1.yf (s:=s) (e:=.one (.hdr key 1 [] ⟨t,y⟩)) (gg i1 (l:=key) (b:=⟨1,t,m,y⟩) (aG _ _ _) (by simpa using hv))
    obtain⟨ys,g1,g2⟩:=ih L1 _ r _ _ _ hk ho.2 (λj=>by
     rcases hL1 j with e|e
     ·exact .inl e
     ·rw[e];exact hL j) i2 (λl hl=>by
     have hne:Nat.beq l key=false:=by
      cases hb:Nat.beq l key
      ·rfl
      ·rw[bI hb,ho.1.2.1]at hl;cases hl
     simp only[hne,cP]
     exact hU l (by rw[uD,hl];simp)) (λk bk hbk l b hl=>by
     have hlL:L l=some b:=by
      rcases hL1 l with e|e
      ·rw[e]at hl;cases hl
      ·rw[<-e];exact hl
     by_cases hkk:k=key
     ·rw[if_pos hkk]
      intro q hq1 hq2
      obtain⟨l2,b2,e1,e2,e3,e4⟩:=hS1 q hq1
      by_cases e:l2=l
      ·subst e;rw[e3]at hl;cases hl
      ·have hl1:σ1.L l=some b:=by
        rcases hL l with e'|e'
        ·rw[e']at hlL;cases hlL
        ·rw[<-e'];exact hlL
       exact h1.dis l2 l b2 b e e2 hl1 q e4 hq2
     ·rw[if_neg hkk]
      rcases fv hbk with⟨e,_⟩|⟨_,e⟩
      ·exact absurd e hkk
      ·exact hd k bk e l b hlL)
    exact⟨(y,ys),g1,g2⟩
   ·cases hk
theorem cC.mem{L:Nat->Option Lab}{U:Nat->Bool}:∀ {es:List ar} {vs:List Value} {e:ar},cC F w L U cg es vs->e∈es->∃ v,aF F w L U cg e v:=by
 intro es
 induction es with
 |nil=>intro vs e _ h;simp at h
 |cons x xs ih=>
  rintro vs e ⟨v,r,rfl,h1,h2⟩ hm
  grind
theorem cC.WA{F':af}{w':World}{L L':Nat->Option Lab}{U U':Nat->Bool}{cg':Nat->List Value}:∀ {es:List ar} {vs:List Value},(∀ e∈es,∀ v,aF F w L U cg e v->aF F' w' L' U' cg' e v)->cC F w L U cg es vs->cC F' w' L' U' cg' es vs:=by
 intro es
 induction es with
 |nil=>intro vs _ h;exact h
 |cons x xs ih=>
  rintro vs hi ⟨v,r,rfl,h1,h2⟩
  exact⟨v,r,rfl,hi x (by simp) v h1,ih (λe he=>hi e (by simp[he])) h2⟩
def El(σ0:St):Prop:=∀ t e,(σ0.E t=some (.one e)\/∃ f es,σ0.E t=some (.clo f es)/\e∈es)->(∀ l n π c,e=.hdr l n π c->σ0.U l=true/\∀ b,σ0.L l=some b->n<=b.v)/\(∀ l n π c,e=.adr l n π c->σ0.U l=true/\∀ b,σ0.L l=some b->n<=b.v)/\∀ l te lo hi,e=.view l te lo hi->σ0.U l=true
theorem aP.ver(h:aP B F Sg cg σ a w):El σ:=by
 intro t e he
 have:∃ v,aF F w σ.L σ.U cg e v:=by
  rcases he with he|⟨f,es,he,hm⟩
  ·exact⟨_,h.ent t _ he⟩
  ·obtain⟨vs,_,hes⟩:=h.ent t _ he
   exact hes.mem hm
 obtain⟨v,this⟩:=this
 refine⟨?_,?_,?_⟩
 ·rintro l n π c rfl;exact⟨this.1,λb hb=>(this.2 b hb).1⟩
 ·rintro l n π c rfl;exact⟨this.1,λb hb=>(this.2 b hb).1⟩
 ·rintro l te lo hi rfl;exact this.1
theorem Ja{σ0:St}{W:Nat->Bool}{l:Nat}{js:List JE}(h:tj σ0 W js=true)(hl:isKey l js=true):l % 8=7:=by
 induction js with
 |nil=>cases hl
 |cons j js ih=>
  cases j with
  |val s t=>simp only[tj,ag]at h;exact ih h.2 hl
  |hdr s k t m=>
   simp only[tj,ag]at h
   simp only[isKey,aJ]at hl
   grind [Nat.eq_of_beq_eq_true]
def Em(B:dD)(σ0:St):Prop:=∀ l cs,B.fix l=some cs->σ0.U l=true
theorem aP.Qc(h:aP B F Sg cg σ a w):Em B σ:=λl cs hf=>(h.fix l cs hf).1.1
theorem CJ{R:Type}{σ0 σ1:St}{W:Nat->Bool}(h:Inv B σ1 a w)(hv:El σ0)(hvf:Em B σ0)(hes:ES σ0 σ1 W){s:Spec}(hs:mZ σ0 s W=true){K:s.T->Option R}{r:R}(hk:CH σ0 s σ1 K=some r):∃ x,K x=some r/\Inv B (stJ σ0 s x) a w:=by
 obtain⟨F,Sg,cg,h⟩:=h
 unfold CH at hk
 unfold mZ at hs
 simp only[ag]at hs
 obtain⟨hs1,hs2,hs3⟩:=hs
 cases hka:qb σ0 σ1 s.GB
 ·simp_all
 rw[hka]at hk
 simp only[cond_true]at hk
 obtain⟨xs,L',hk,hL',hip⟩:=Re (σ0:=σ0) s.ip σ1.L _ r hk
 have TZ:aP B F Sg cg (kn σ0 s xs) a w:=
  {fr:=h.fr
   size:=h.size
   defers:=h.defers
   f0:=h.f0
   fl:=h.fl
   fs:=h.fs
   lab:=λl b hb=>by obtain⟨_,_,b1,q1,rfl⟩:=hip l b hb;exact h.lab l b1 q1
   dis:=λl l' b b' hne hb hb'=>by
    obtain⟨_,_,b1,q1,_⟩:=hip l b hb
    obtain⟨_,_,b2,q2,_⟩:=hip l' b' hb'
    exact h.dis l l' b1 b2 hne q1 q2
   ek:=λl b hb=>by obtain⟨_,_,b1,q1,_⟩:=hip l b hb;exact h.ek l b1 q1
   lt:=λl b hb=>by obtain⟨_,_,b1,q1,_⟩:=hip l b hb;exact h.lt l b1 q1
   may:=λl b hb=>by obtain⟨_,_,b1,q1,_⟩:=hip l b hb;exact h.may l b1 q1
   used:=λl b hb=>by obtain⟨q0,_⟩:=hip l b hb;simp[kn,q0]
   fix:=λl cs' hf=>by
    obtain⟨⟨q1,q2⟩,q3⟩:=h.fix l cs' hf
    refine⟨⟨?_,q2⟩,λb hb=>?_⟩
    ·have vZ:isKey l s.js=false:=by grind [Ja]
     simp[kn,hvf l cs' hf,vZ]
    ·obtain⟨_,_,b1,g1,_⟩:=hip l b hb
     exact q3 b1 g1
   ent:=λt e he=>by
    simp only[kn]at he
    cases hm:gG t s.GB
    ·simp_all
    rw[hm]at he
    simp only[cond_true]at he
    have lV:=uC hm
    have Ua:=z8 hka lV
    obtain⟨hW,hno⟩:=CI hs1 lV
    have hE1:σ1.E t=some e:=by
     rw[he]at Ua
     simp only[Option.isNone_some,cP,ag]at Ua
     rcases hes t hW with e1|e1|⟨e1,e2⟩
     all_goals simp_all
    have h1:=h.ent t e hE1
    rw[he]at hno
    have one:∀ (e:ar) (v:Value),(σ0.E t=some (.one e)\/∃ f es,σ0.E t=some (.clo f es)/\e∈es)->(match rL e with|some l=>!isKey l s.js|none=>true)=true->aF F w σ1.L σ1.U cg e v->aF F w (kn σ0 s xs).L (kn σ0 s xs).U cg e v:=by
     intro e v he hno h1
     have Rh:=hv t e he
     have fin:∀ l n,(σ0.U l=true/\∀ b,σ0.L l=some b->n<=b.v)->isKey l s.js=false->(kn σ0 s xs).U l=true/\∀ b',(kn σ0 s xs).L l=some b'->∃ b1,σ1.L l=some b1/\n<b'.v/\b'.t=b1.t:=by
      intro l n hln vZ
      refine⟨by simp[kn,hln.1,vZ],λb' hb'=>?_⟩
      obtain⟨q0,_,b1,q1,rfl⟩:=hip l b' hb'
      refine⟨b1,q1,?_,rfl⟩
      have:=(Aa hs2 q0).1
      rw[hln.1]at this
      simp only[ay,jz]at this
      grind [I8]
     cases e with
     |val t x=>exact h1
     |cst u=>exact h1
     |kT t x=>exact h1
     |view l te lo hi=>
      simp only[rL,bC]at hno
      refine⟨by simp[kn,Rh.2.2 l te lo hi rfl,hno],λb' hb'=>?_⟩
      obtain⟨_,_,b1,q1,_⟩:=hip l b' hb'
      exact h1.2 b1 q1
     |hdr l n π c=>
      simp only[rL,bC]at hno
      obtain⟨f1,f2⟩:=fin l n (Rh.1 l n π c rfl) hno
      refine⟨f1,λb' hb'=>?_⟩
      obtain⟨b1,q1,q2,q3⟩:=f2 b' hb'
      obtain⟨k1,k2,k3⟩:=h1.2 b1 q1
      grind
     |adr l n π c=>
      simp only[rL,bC]at hno
      obtain⟨f1,f2⟩:=fin l n (Rh.2.1 l n π c rfl) hno
      refine⟨f1,λb' hb'=>?_⟩
      obtain⟨b1,q1,q2,q3⟩:=f2 b' hb'
      obtain⟨k1,k2,k3⟩:=h1.2 b1 q1
      exact⟨Nat.le_of_lt q2,λhp p o hr=>k2 hp p o (by rw[<-q3];exact hr),λhn=>by omega⟩
    cases e with
    |tup es=>simp[Ek]at hno
    |one e=>exact one e _ (.inl he) hno h1
    |clo f es=>
     obtain⟨vs,hv1,WB⟩:=h1
     simp only[Ek,cG]at hno
     exact⟨vs,hv1,WB.WA λe hm v hv=>one e v (.inr ⟨f,es,he,hm⟩) (hno e hm) hv⟩}
 obtain⟨ys,g1,g2⟩:=Rg h (σ0:=σ0) (W:=W) s.js L' _ r (kn σ0 s xs) Sg cg hk hs3 hL' TZ (λl hl=>by
  simp only[kn,hl,ay,Bool.and_false,cP]
  cases hi:z7 l s.ip
  ·rfl
  ·rw[(Aa hs2 hi).2]at hl;cases hl)
  (λk bk hbk l b hl=>by
   obtain⟨_,q1,b1,q2,_⟩:=hip k bk hbk
   have hl1:σ1.L l=some b:=by
    rcases hL' l with e|e
    ·rw[e]at hl;cases hl
    ·rw[<-e];exact hl
   by_cases e:k=l
   ·subst e;rw[q1]at hl;cases hl
   ·exact h.dis k l b1 b e q2 hl1)
 exact⟨(xs,ys),g1,g2⟩
theorem CK{σ0:St}{W:Nat->Bool}{s:Spec}(hs:mZ σ0 s W=true)(x:s.T):ES σ0 (stJ σ0 s x) W:=by
 unfold mZ at hs
 simp only[ag]at hs
 have key:∀ (js:List JE) (ys:(jsT js).T) (σp:St),tj σ0 W js=true->ES σ0 σp W->ES σ0 (I9 js ys σp) W:=by
  intro js
  induction js with
  |nil=>intro ys σp _ h;exact h
  |cons j js ih=>
   intro ys σp ho h
   cases j with
   |val s t=>
    simp only[tj,ag,aJ]at ho
    refine ih ys.2 _ ho.2 (λj hj=>?_)
    by_cases e:j=s
    ·subst e
     rcases ho.1 with h1|h1
     ·simp_all
     ·exact .inr (.inr ⟨h1,by simp only[aG];rfl⟩)
    ·simp only[aW _ _ e];exact h j hj
   |hdr s key t m=>
    simp only[tj,ag,bC]at ho
    refine ih ys.2 _ ho.2 (λj hj=>?_)
    by_cases e:j=s
    ·simp_all
    ·simp only[aW _ _ e];exact h j hj
 refine key s.js x.2 _ hs.2.2 (λj hj=>?_)
 simp only[kn]
 cases gG j s.GB
 ·exact .inr (.inl rfl)
 ·exact .inl rfl
end
section
variable {R R':Type} (G:R->Option R')
theorem aM(c:Bool)(x y:Option R):(bif c then x else y).bind G=bif c then x.bind G else y.bind G:=by cases c <;> rfl
theorem gH(p:Prop)[Decidable p](x y:Option R):(if p then x else y).bind G=if p then x.bind G else y.bind G:=by split <;> rfl
theorem cY:(none:Option R).bind G=none:=rfl
theorem Ab(c:V)(K:V->Option R):(rz c K).bind G=rz c λq=>(K q).bind G:=by
 obtain⟨t,x⟩:=c
 cases t <;> first
  |rfl
  |(cases x <;> rfl)
theorem bY(e:ar)(t:Ty)(K:t.T->Option R):(asT e t K).bind G=asT e t λx=>(K x).bind G:=by
 unfold asT;simp only[dJ];repeat' split
 all_goals rfl
theorem iz(e:ar)(K:Int->Option R):(jP e K).bind G=jP e λx=>(K x).bind G:=by
 unfold jP;repeat' split
 all_goals rfl
theorem lg(σ:St)(e:ar)(K:Nat->Lab->List Stp->V->Option R):(plc σ e K).bind G=plc σ e λl b π c=>(K l b π c).bind G:=by
 unfold plc
 split
 ·cases σ.L _ with
  |none=>rfl
  |some b=>
   simp only[dJ]
   grind [gD]
 ·cases σ.L _ with
  |none=>rfl
  |some b=>simp[aM,Ab]
 ·rfl
theorem eL(σ:St)(e:ar)(K:Nat->Lab->List Stp->V->Option R):(kV σ e K).bind G=kV σ e λl b π c=>(K l b π c).bind G:=by
 unfold kV;simp only[dJ];repeat' split
 all_goals rfl
theorem lW(e:ar)(K:(t:Ty)->t.T->Option R):(pN e K).bind G=pN e λt x=>(K t x).bind G:=by
 unfold pN;repeat' split
 all_goals rfl
theorem oE(t:Ty)(x:t.T)(π:List Stp)(K:(u:Ty)->u.T->Option R):(ft t x π K).bind G=ft t x π λu y=>(K u y).bind G:=by
 rw[gD,gD,Option.bind_assoc]
theorem oF(t:Ty)(x:t.T)(π:List Stp)(u:Ty)(y:u.T)(K:t.T->Option R):(iR t x π u y K).bind G=iR t x π u y λz=>(K z).bind G:=by
 rw[iJ,iJ,Option.bind_assoc]
theorem rM(TT:Tab)(s f:Nat)(K:TD->Nat->List Stp->TD->Option R):(zE TT s f K).bind G=zE TT s f λa b c d=>(K a b c d).bind G:=by
 unfold zE;simp only[dJ];repeat' split
 all_goals rfl
theorem pu(L:Nat->Option Lab)(t:Ty)(e:ar)(K:t.T->Md->(Nat->Option Lab)->Option R):(sL L t e K).bind G=sL L t e λa b c=>(K a b c).bind G:=by
 unfold sL;repeat' split
 all_goals simp[bY]
theorem Ad(TT:Tab)(t:TypeId)(d:TD)(i:Nat)(K:Nat->List Stp->TD->Option R):(rC TT t d i K).bind G=rC TT t d i λa b c=>(K a b c).bind G:=by
 unfold rC;simp only[dJ];repeat' split
 all_goals simp[rM]
theorem Ae(TT:Tab)(t:TypeId)(d:TD):∀ (es:List (Nat×ar)) (x:d.ty.T) (m:Md) (L:Nat->Option Lab) (K:d.ty.T->Md->(Nat->Option Lab)->Option R),(pq TT t d es x m L K).bind G=pq TT t d es x m L λa b c=>(K a b c).bind G:=by
 intro es
 induction es with
 |nil=>intro x m L K;rfl
 |cons p es ih=>
  obtain⟨i,e⟩:=p
  intro x m L K
  simp only[pq]
  rw[Ad]
  congr 1
  funext k φ df
  rw[aM,pu]
  grind [oF]
theorem GC(t:Ty)(m:Md):∀ (es:List (Nat×ar)) (L:Nat->Option Lab) (K:List t.T->(Nat->Option Lab)->Option R),(Cw t m es L K).bind G=Cw t m es L λa b=>(K a b).bind G:=by
 intro es
 induction es with
 |nil=>intro L K;rfl
 |cons p es ih=>simp_all [Cw,pu,aM]
theorem GD(σ:St)(str:Bool)(te:Ty)(e:ar)(K:List te.T->Md->Option Nat->Option R):(FY σ str te e K).bind G=FY σ str te e λa b c=>(K a b c).bind G:=by
 unfold FY;simp only[dJ];repeat' split
 all_goals grind [bY,eL]
theorem oG(lo hi:Option ar)(n:Nat)(K:Int->Int->Option R):(vY lo hi n K).bind G=vY lo hi n λa b=>(K a b).bind G:=by
 unfold vY
 cases lo with
 |none=>
  cases hi with
  |none=>simp only;rw[gH];rfl
  |some eh=>simp only;rw[iz];congr 1;funext h;rw[gH];rfl
 |some el=>
  simp only
  rw[iz]
  congr 1
  funext l
  cases hi with
  |none=>simp only;rw[gH];rfl
  |some eh=>simp only;rw[iz];congr 1;funext h;rw[gH];rfl
theorem CL(L:Nat->Option Lab)(t:Ty)(m:Md)(e:ar)(K:t.T->(Nat->Option Lab)->Option R):(uq L t m e K).bind G=uq L t m e λa b=>(K a b).bind G:=by simp[uq,aM,pu,bY]
theorem Jb(e:ar)(t:Ty)(K:t.T->Option R):(asN e t K).bind G=asN e t λx=>(K x).bind G:=by
 have sl:∀ (a b:Ty) (x:List a.T) (K:(Ty.nl b).T->Option R),(asN (.val (.sl a) x) (.nl b) K).bind G=asN (.val (.sl a) x) (.nl b) λx=>(K x).bind G:=by
  intro a b x K
  show((if h:a=b then(bif List.isEmpty (x:List a.T)then none else K (h ▸ x))else none).bind G)=(if h:a=b then(bif List.isEmpty (x:List a.T)then none else(K (h ▸ x)).bind G)else none)
  grind
 have ls:∀ (a b:Ty) (x:List a.T) (K:(Ty.sl b).T->Option R),(asN (.val (.nl a) x) (.sl b) K).bind G=asN (.val (.nl a) x) (.sl b) λx=>(K x).bind G:=by
  intro a b x K
  show((if h:a=b then K (h ▸ x)else none).bind G)=(if h:a=b then(K (h ▸ x)).bind G else none)
  grind
 cases e with
 |val t0 x=>
  cases t0
  case nl a=>
   cases t
   case sl b=>exact ls a b x K
   all_goals exact bY G (.val (.nl a) x) _ K
  case sl a=>
   cases t
   case nl b=>exact sl a b x K
   all_goals exact bY G (.val (.sl a) x) _ K
  all_goals exact bY G (.val _ x) t K
 |cst v=>exact bY G (.cst v) t K
 |hdr l n π c=>exact bY G (.hdr l n π c) t K
 |adr l n π c=>exact bY G (.adr l n π c) t K
 |kT t0 x=>exact bY G (.kT t0 x) t K
 |view l te lo hi=>exact bY G (.view l te lo hi) t K
theorem GF(σ:St)(L:Nat->Option Lab)(t:Ty)(m:Md)(e:ar)(K:t.T->(Nat->Option Lab)->List Nat->Option R):(xW σ L t m e K).bind G=xW σ L t m e λa b c=>(K a b c).bind G:=by
 unfold xW
 rw[aM,CL]
 congr 1
 ·split
  all_goals grind [eL,Jb]
theorem CM(σ:St):∀ (ps:List (Ty×Md)) (es:List ar) (L:Nat->Option Lab) (K:(dS ps).T->(Nat->Option Lab)->List Nat->Option R),(kX σ ps es L K).bind G=kX σ ps es L λa b c=>(K a b c).bind G:=by
 intro ps
 induction ps with
 |nil=>intro es L K;cases es <;> rfl
 |cons p ps ih=>
  intro es L K
  cases es with
  |nil=>rfl
  |cons e es=>grind [kX,GF]
theorem GG:∀ (rs:List (Ty×Md)) (x:(dS rs).T) (key:Nat) (σ:St) (K:St->List ar->Option R),(rD rs x key σ K).bind G=rD rs x key σ λa b=>(K a b).bind G:=by
 intro rs
 induction rs with
 |nil=>intro x key σ K;rfl
 |cons p rs ih=>simp_all [rD,aM]
theorem CN{A:Type}(o:Option A)(k:A->Option R):(ah o k).bind G=ah o λa=>(k a).bind G:=by cases o <;> rfl
end
section
variable {R R':Type} (G:R->Option R')
theorem wP(td:Option TD)(op:BinOp)(x y:ar)(K:ar->Option R):(Ck td op x y K).bind G=Ck td op x y λe=>(K e).bind G:=by
 unfold Ck
 split
 ·cases op <;> simp only[aM,gH,cY]
 ·cases op <;> simp only[aM,gH,cY]
 ·cases op <;> simp only[aM,gH,cY]
 ·rfl
theorem uE(d:TD)(σ:St)(e:ar)(K:ar->Option R):(ub d σ e K).bind G=ub d σ e λe=>(K e).bind G:=by
 unfold ub
 simp only[aM,lg,lW,cY]
theorem mz(TT:Tab)(σ:St)(s:TypeId)(e:ar)(f:Nat)(K:ar->Option R):(jO TT σ s e f K).bind G=jO TT σ s e f λe=>(K e).bind G:=by
 unfold jO
 simp only[rM,aM,lg,lW,oE,cY]
theorem sQ(TT:Tab)(σ:St)(s:TypeId)(e:ar)(f:Nat)(K:ar->Option R):(ul TT σ s e f K).bind G=ul TT σ s e f λe=>(K e).bind G:=by
 unfold ul
 rw[rM]
 congr 1
 funext d k φ df
 rw[aM]
 congr 1
 cases e <;> simp only[aM,eL,oE,cY]
theorem tk(TT:Tab)(σ:St)(t:TypeId)(ex ei:ar)(K:ar->Option R):(gl TT σ t ex ei K).bind G=gl TT σ t ex ei λe=>(K e).bind G:=by
 unfold gl
 rw[iz]
 congr 1
 funext i
 split
 ·rfl
 ·split
  ·split
   ·rfl
   ·split
    ·simp only[aM,gH,cY]
     congr 1
     split
     ·split <;> rfl
     ·rfl
    ·simp only[aM,eL,oE,cY]
    ·rfl
  ·split
   ·rfl
   ·simp only[aM,lg,lW,oE,cY]
  ·rfl
theorem sR(TT:Tab)(t:TypeId)(ex ei:ar)(K:ar->Option R):(rB TT t ex ei K).bind G=rB TT t ex ei λe=>(K e).bind G:=by
 unfold rB
 rw[iz]
 congr 1
 funext i
 simp only[dJ]
 repeat' split
 all_goals rfl
theorem wQ(TT:Tab)(σ:St)(t:TypeId)(e:ar)(K:ar->Option R):(F6 TT σ t e K).bind G=F6 TT σ t e λe=>(K e).bind G:=by
 unfold F6
 split
 ·rfl
 ·split
  ·split <;> rfl
  ·split
   ·rfl
   ·rw[eL];congr 1;funext l b π c;split <;> rfl
   ·rfl
   ·rfl
  ·split
   ·rw[eL];congr 1;funext l b π c;split
    ·rw[aM];rfl
    ·rfl
   ·rfl
  ·rfl
theorem wR(TT:Tab)(σ:St)(t:TypeId)(e:ar)(K:ar->Option R):(F7 TT σ t e K).bind G=F7 TT σ t e λe=>(K e).bind G:=by
 unfold F7
 split
 ·rfl
 ·split
  ·split
   ·rw[eL];congr 1;funext l b π c;split
    ·rw[aM];rfl
    ·rfl
   ·rfl
  ·rfl
theorem wS(σ:St)(e:ar)(K:ar->Option R):(F8 σ e K).bind G=F8 σ e λe=>(K e).bind G:=by
 unfold F8
 simp only[aM,lg,lW]
theorem Af(op:UnOp)(e:ar)(K:ar->Option R):(xUn op e K).bind G=xUn op e λe=>(K e).bind G:=by
 unfold xUn;split <;> rfl
theorem wT(x y:ar)(K:ar->Option R):(Gg x y K).bind G=Gg x y λe=>(K e).bind G:=by
 unfold Gg;split <;> first|rfl|exact bY G _ _ _
theorem wU(x y:ar)(K:ar->Option R):(Gi x y K).bind G=Gi x y λe=>(K e).bind G:=by
 unfold Gi;split <;> first|rfl|exact bY G _ _ _
theorem CO(TT:Tab)(σ:St)(s t:TypeId)(e:ar)(K:ar->Option R):(wK TT σ s t e K).bind G=wK TT σ s t e λe=>(K e).bind G:=by
 unfold wK
 split
 ·rfl
 ·split
  ·rfl
  ·split
   ·split <;> rfl
   ·split
    ·split <;> rfl
    ·split
     ·rfl
     ·split
      ·split
       ·rfl
       ·rw[eL];congr 1;funext l b π c;split <;> rfl
       ·rfl
       ·rfl
      ·rfl
    ·rfl
   ·rfl
theorem Ah(de:TD)(σ:St)(dst:Nat)(e:ar)(K:St->Option R):(lQ de σ dst e K).bind G=lQ de σ dst e λe=>(K e).bind G:=by
 unfold lQ
 rw[aM]
 congr 1
 split
 ·split <;> rfl
 ·rfl
theorem wV(TT:Tab)(EQ:TypeId->Bool)(σ:St)(t:TypeId)(op:BinOp)(x y:ar)(K:ar->Option R):(Gl TT EQ σ t op x y K).bind G=Gl TT EQ σ t op x y λe=>(K e).bind G:=by
 unfold Gl
 split
 ·split
  ·rw[aM]
   congr 1
   unfold MT
   split
   ·rw[bY];congr 1;funext a
    rw[bY];congr 1;funext b
    split
    ·split <;> rfl
    ·rfl
   ·rfl
  ·rw[aM]
   congr 1
   unfold MU
   split
   ·rw[aM]
    congr 1
    rw[bY];congr 1;funext a
    rw[bY];congr 1;funext b
    split <;> rfl
   ·rfl
  ·unfold MV
   split
   ·simp only
    split
    ·split <;> rfl
    ·split <;> rfl
    ·rw[eL];congr 1;funext l b π c
     split
     ·split <;> rfl
     ·split <;> rfl
     ·rfl
    ·split <;> rfl
    ·rfl
   ·rfl
  ·exact wP G _ _ _ _ _
 ·exact wP G _ _ _ _ _
theorem Ai(d:TD)(σ:St)(dst:Nat)(K:St->Option R):(lL d σ dst K).bind G=lL d σ dst λe=>(K e).bind G:=by
 unfold lL;simp only[aM,cY];congr 1;split <;> rfl
theorem GH(d:TD)(σ:St)(dst:Nat)(e:ar)(K:St->Option R):(xO d σ dst e K).bind G=xO d σ dst e λe=>(K e).bind G:=by
 unfold xO;simp only[aM,cY];congr 1;split
 ·split
  ·simp only[aM,cY]
  ·rfl
 ·exact bY G _ _ _
theorem CP(d:TD)(σ:St)(dst:Nat)(e1 e2:ar)(K:St->Option R):(pT d σ dst e1 e2 K).bind G=pT d σ dst e1 e2 λe=>(K e).bind G:=by
 unfold pT
 simp only[aM,cY,iz,gH]
 congr 1
 congr 1
 funext n
 congr 1
 funext c
 congr 1
 congr 1
 split <;> rfl
theorem Aj(d:TD)(σ:St)(e1 e2:ar)(K:St->Option R):(lK d σ e1 e2 K).bind G=lK d σ e1 e2 λe=>(K e).bind G:=by
 unfold lK
 rw[lg]
 congr 1
 funext l b π c
 rw[aM]
 congr 1
 split
 ·rw[aM]
  congr 1
  split
  ·split
   ·rw[oF];congr 1;funext x;rw[aM];rfl
   ·rfl
  ·rfl
 ·rw[bY]
  congr 1
  funext y
  split
  ·rw[oF]
  ·rfl
theorem GI(d:TD)(σ:St)(e1 e2:ar)(K:St->Option R):(xK d σ e1 e2 K).bind G=xK d σ e1 e2 λe=>(K e).bind G:=by
 unfold xK
 rw[lg]
 congr 1
 funext l b π c
 rw[aM]
 congr 1
 split
 ·split
  ·rw[aM]
   congr 1
   split
   ·rw[aM];congr 1;split <;> rfl
   ·rfl
  ·rw[bY]
   congr 1
   funext y
   split <;> rfl
 ·rfl
theorem CQ(d:TD)(σ:St)(e1 e2:ar)(K:St->Option R):(ui d σ e1 e2 K).bind G=ui d σ e1 e2 λe=>(K e).bind G:=by
 unfold ui
 split
 ·split
  ·split
   ·split
    ·rw[aM];congr 1;split
     ·split <;> rfl
     ·rfl
    ·rfl
   ·rfl
  ·rfl
 ·rfl
theorem Jc(d:TD)(σ:St)(e1 e2:ar)(K:St->Option R):(xSt d σ e1 e2 K).bind G=xSt d σ e1 e2 λe=>(K e).bind G:=by
 unfold xSt
 rw[aM,CQ,Aj]
theorem uF(TT:Tab)(σ:St)(t:TypeId)(ex ei:ar)(K:ar->Option R):(jF TT σ t ex ei K).bind G=jF TT σ t ex ei λe=>(K e).bind G:=by
 unfold jF
 split
 ·split
  ·unfold jP
   split
   ·split
    ·split
     ·split
      ·rw[aM];congr 1;split <;> rfl
      ·rfl
     ·rfl
    ·rfl
   ·rfl
  ·rfl
 ·rfl
theorem wW(TT:Tab)(σ:St)(t:TypeId)(ex ei:ar)(K:ar->Option R):(FX TT σ t ex ei K).bind G=FX TT σ t ex ei λe=>(K e).bind G:=by
 unfold FX
 rw[aM,uF,tk]
theorem rN(d:TD)(σ:St)(str:Bool)(lk dst:Nat)(e1 e2:ar)(K:St->Option R):(uj d σ str lk dst e1 e2 K).bind G=uj d σ str lk dst e1 e2 λe=>(K e).bind G:=by
 unfold uj
 rw[aM,GD]
 congr 1
 congr 1
 funext x2 m2 lo
 split
 ·split
  ·split
   ·simp only[aM,gH,cY]
   ·rfl
  ·rfl
 ·rw[bY];congr 1;funext x1;simp only[gH,cY]
 ·rfl
theorem yg(d:TD)(σ:St)(str:Bool)(dst:Nat)(e1 e2:ar)(K:St->Option R):(ji d σ str dst e1 e2 K).bind G=ji d σ str dst e1 e2 λe=>(K e).bind G:=by
 unfold ji
 split
 ·split
  ·rw[aM];congr 1;split
   ·exact rN G _ _ _ _ _ _ _ _
   ·rfl
  ·rfl
 ·split
  ·rw[aM];congr 1;split
   ·split
    ·exact rN G _ _ _ _ _ _ _ _
    ·rfl
   ·rfl
  ·rfl
 ·exact rN G _ _ _ _ _ _ _ _
theorem Ak(TT:Tab)(σ:St)(t:TypeId)(dst:Nat)(own:Bool)(ps:List (Nat×Operand))(KV:ar->Option R)(K:St->Option R):(lN TT σ t dst own ps KV K).bind G=lN TT σ t dst own ps (λe=>(KV e).bind G) λe=>(K e).bind G:=by
 unfold lN
 split
 ·rfl
 ·rw[aM]
  congr 1
  split
  ·rfl
  ·split
   ·rfl
   ·rw[Ae];congr 1;funext x m L;simp only[aM,cY]
theorem GJ(d:TD)(σ:St)(dst len:Nat)(ps:List (Nat×Operand))(K:St->Option R):(xV d σ dst len ps K).bind G=xV d σ dst len ps λe=>(K e).bind G:=by
 unfold xV
 rw[aM]
 congr 1
 split
 ·rw[aM,GC];rfl
 ·rfl
theorem GL(TT:Tab)(σ:St)(t:TypeId)(dst:Nat)(ex:ar)(lo hi:Option ar)(KV:ar->Option R)(K:St->Option R):(xS TT σ t dst ex lo hi KV K).bind G=xS TT σ t dst ex lo hi (λe=>(KV e).bind G) λe=>(K e).bind G:=by
 unfold xS
 split
 ·rfl
 ·split
  ·split
   ·exact oG G _ _ _ _
   ·rfl
  ·split
   ·rfl
   ·split
    ·rw[aM,oG];rfl
    ·rw[aM]
     congr 1
     split
     ·rw[aM,oG];rfl
     ·rfl
    ·rw[aM]
     congr 1
     split
     ·rw[aM]
      congr 1
      split
      ·split
       ·rw[aM,oG];rfl
       ·rfl
      ·rfl
     ·rfl
    ·rfl
  ·rfl
theorem pv(σ:St)(dst:Option Nat)(c:Callee)(es:List ar)(K:St->Option R):(iT σ dst c es K).bind G=iT σ dst c es λe=>(K e).bind G:=by
 unfold iT
 rw[CM]
 congr 1
 funext x L bs
 rw[aM,CN]
 congr 1
 congr 1
 funext r
 split
 ·split
  ·rw[GG]
  ·rfl
 ·rfl
theorem lX(TT:Tab)(t:TypeId)(K:TD->Option R):(kY TT t K).bind G=kY TT t λd=>(K d).bind G:=by
 unfold kY;repeat' split
 all_goals rfl
theorem wj(V:Env)(σ:St)(b:Builtin)(ts:List TypeId)(xs:List Operand)(dst:Option Nat)(K:St->Option R):(fZ V σ b ts xs dst K).bind G=fZ V σ b ts xs dst λe=>(K e).bind G:=by
 unfold fZ
 split
 ·split
  ·exact wQ G _ _ _ _ _
  ·rfl
 ·split
  ·exact wR G _ _ _ _ _
  ·rfl
 ·split
  ·rw[lX]
   congr 1
   funext de
   split
   ·split
    ·split
     ·exact yg G _ _ _ _ _ _ _
     ·rfl
    ·rfl
   ·rfl
  ·rfl
 ·split
  ·split
   ·exact wT G _ _ _
   ·rfl
  ·rfl
 ·split
  ·split
   ·exact wU G _ _ _
   ·rfl
  ·rfl
 ·rfl
theorem Jd(V:Env)(σ:St)(o:Oper)(K:St->Option R):(opK V σ o K).bind G=opK V σ o λe=>(K e).bind G:=by
 unfold opK
 split
 ·split
  ·rfl
  ·split <;> rfl
 ·split
  ·rfl
  ·split <;> rfl
 ·split
  ·split
   ·split <;> rfl
   ·split <;> rfl
  ·rfl
 ·split
  ·split
   ·exact Ai G _ _ _ _
   ·rfl
  ·rfl
 ·split
  ·split
   ·split
    ·exact GH G _ _ _ _ _
    ·rfl
   ·rfl
  ·rfl
 ·split
  ·exact Ak G _ _ _ _ _ _ _ _
  ·rfl
 ·split
  ·rw[lX];congr 1;funext de;exact GJ G _ _ _ _ _ _
  ·rfl
 ·split
  ·split
   ·exact uE G _ _ _ _
   ·rfl
  ·rfl
 ·split
  ·split
   ·split
    ·rw[aM,Jc,GI]
    ·rfl
   ·rfl
  ·rfl
 ·split
  ·exact wS G _ _ _
  ·rfl
 ·split
  ·split
   ·exact wV G _ _ _ _ _ _ _ _
   ·rfl
  ·rfl
 ·split
  ·exact Af G _ _ _
  ·rfl
 ·rw[aM]
  congr 1
  ·split
   ·rw[lX]
    congr 1
    funext de
    split
    ·exact Ah G _ _ _ _ _
    ·rfl
   ·rfl
  ·split
   ·exact CO G _ _ _ _ _ _
   ·rfl
 ·split
  ·rw[lX]
   congr 1
   funext de
   split
   ·split
    ·exact CP G _ _ _ _ _ _
    ·rfl
   ·rfl
  ·rfl
 ·split
  ·rfl
  ·split
   ·split
    ·split
     ·split
      ·exact GL G _ _ _ _ _ _ _ _ _
      ·rfl
     ·rfl
    ·rfl
   ·rfl
 ·split
  ·exact mz G _ _ _ _ _ _
  ·rfl
 ·split
  ·exact sQ G _ _ _ _ _ _
  ·rfl
 ·split
  ·split
   ·exact wW G _ _ _ _ _ _
   ·rfl
  ·rfl
 ·split
  ·split
   ·exact sR G _ _ _ _ _
   ·rfl
  ·rfl
 ·split
  ·split <;> rfl
  ·rfl
 ·split
  ·exact wj G _ _ _ _ _ _ _
  ·split
   ·split
    ·rw[aM]
     congr 1
     ·exact pv G _ _ _ _ _
     ·split
      ·exact pv G _ _ _ _ _
      ·rfl
    ·rfl
   ·rfl
  ·rfl
 ·rfl
end
def lh(c:Call):List Operand:=match c.callee with
 |.value (.tmp t)=>.tmp t::c.args.toList
 |_=>c.args.toList
def sS:Op->List Operand
 |.move x|.assign x|.box _ x|.load _ x|.nilCheck x|.unOp _ _ x|.convert _ _ x|.fieldAddr _ x _|.field _ x _|.extract x _=>[x]
 |.pick c a b=>[c,a,b]
 |.build _ ps|.buildSlice _ _ ps=>ps.toList.map (·.2)
 |.store _ a v|.binOp _ _ a v _|.makeSlice _ a v|.indexAddr _ a v|.index _ a v=>[a,v]
 |.slice _ x l h _=>x::(l.toList++h.toList)
 |.call c=>lh c
 |_=>[]
def tmpsOf:List Operand->List Nat
 |[]=>[]
 |.tmp t::xs=>t::tmpsOf xs
 |_::xs=>tmpsOf xs
def looks(o:Oper):List Nat:=tmpsOf (sS o.op)
def calm(V:Env)(o:Oper):Bool:=match o.op with
 |.call c=>(match c.callee with
  |.value (.func f)=>(match V.CT f with|some ce=>(cz ce.rs&&cz ce.ms)||V.we o.dst|none=>true)
  |_=>true)
 |_=>true
def o0(E:Nat->Option Ent)(dst:Option Nat)(E1:Nat->Option Ent):Nat->Option Ent:=match dst with|some d=>upd E d (E1 d)|none=>E
def bW(E:Nat->Option Ent)(dst:Option Nat)(σ:St):St:=⟨o0 E dst σ.E,σ.L,σ.U⟩
section
variable {R:Type} {E E':Nat->Option Ent} {L:Nat->Option Lab} {U:Nat->Bool}
theorem bR(dst:Option Nat)(e:ar):bW E dst (St.bT ⟨E',L,U⟩ dst e)=St.bT ⟨E,L,U⟩ dst e:=by
 cases dst with
 |none=>rfl
 |some d=>simp only[bW,o0,St.bT,St.tW,aG]
theorem na(dst:Option Nat)(L':Nat->Option Lab):bW E dst (St.j7 (St.jR ⟨E',L,U⟩ L') dst)=St.j7 (St.jR ⟨E,L,U⟩ L') dst:=by
 cases dst with
 |none=>rfl
 |some d=>simp only[bW,o0,St.j7,St.jR,aG]
theorem gB(L':Nat->Option Lab)(l d:Nat)(b:Lab):bW E (some d) (St.mk' ⟨E',L,U⟩ L' l d b)=St.mk' ⟨E,L,U⟩ L' l d b:=by simp[bW,o0,St.mk',aG]
theorem Al(V:Env)(d:Nat)(σ':St):x5 V d (bW E (some d) σ')=bW E (some d) (x5 V d σ'):=by
 unfold x5
 cases V.own d
 ·rfl
 ·have hE:(bW E (some d) σ').E d=σ'.E d:=by simp only[bW,o0,aG]
  simp only[cond_true]
  unfold St.toVal
  rw[hE]
  split
  ·have hL:(bW E (some d) σ').L=σ'.L:=rfl
   rw[hL]
   split
   ·simp only[bW,o0,aG]
    congr 1
    grind [aG,aW]
   ·rfl
  ·rfl
theorem sU(dst:Option Nat)(es:List ar):bW E dst (St.mV ⟨E',L,U⟩ dst es)=St.mV ⟨E,L,U⟩ dst es:=by
 cases dst with
 |none=>rfl
 |some d=>simp only[bW,o0,St.mV,aG]
theorem Am{x:Operand}(h:∀ t∈tmpsOf [x],E' t=E t):Cz ⟨E,L,U⟩ x=Cz ⟨E',L,U⟩ x:=by
 cases x with
 |tmp t=>simp only[Cz];rw[h t (by simp[tmpsOf])]
 |const v=>rfl
 |global g=>rfl
 |func f=>rfl
theorem bS{x:Operand}(h:∀ t∈tmpsOf [x],E' t=E t):opd ⟨E,L,U⟩ x=opd ⟨E',L,U⟩ x:=by
 cases x with
 |tmp t=>simp only[opd];rw[h t (by simp[tmpsOf])]
 |const v=>rfl
 |global g=>rfl
 |func f=>rfl
theorem An{x:Operand}{xs:List Operand}{t:Nat}(h:t∈tmpsOf (x::xs)):t∈tmpsOf [x]\/t∈tmpsOf xs:=by
 cases x <;> simp[tmpsOf]at h |- <;> exact h
theorem dB{x:Operand}{xs:List Operand}{t:Nat}(h:t∈tmpsOf [x]):t∈tmpsOf (x::xs):=by
 cases x <;> simp[tmpsOf]at h |-;exact .inl h
theorem cZ{x:Operand}{xs:List Operand}{t:Nat}(h:t∈tmpsOf xs):t∈tmpsOf (x::xs):=by
 cases x <;> simp[tmpsOf,h]
theorem uG{xs ys:List Operand}{t:Nat}(h:t∈tmpsOf xs\/t∈tmpsOf ys):t∈tmpsOf (xs++ys):=by
 induction xs with
 |nil=>rcases h with h|h;cases h;exact h
 |cons x xs ih=>grind [An,dB,cZ]
theorem Ao{xs:List Operand}(h:∀ t∈tmpsOf xs,E' t=E t):jT ⟨E,L,U⟩ xs=jT ⟨E',L,U⟩ xs:=by
 induction xs with
 |nil=>rfl
 |cons x xs ih=>grind [jT,bS,dB,cZ]
theorem Aq{ps:List (Nat×Operand)}(h:∀ t∈tmpsOf (ps.map (·.2)),E' t=E t):oZ ⟨E,L,U⟩ ps=oZ ⟨E',L,U⟩ ps:=by
 induction ps with
 |nil=>rfl
 |cons p ps ih=>grind [oZ,bS,dB,cZ]
theorem Ar{x:Option Operand}(h:∀ t∈tmpsOf x.toList,E' t=E t):pW ⟨E,L,U⟩ x=pW ⟨E',L,U⟩ x:=by
 cases x with
 |none=>rfl
 |some x=>simp only[pW];rw[bS (x:=x) h]
theorem CR(d:TD)(dst:Nat)(K:St->Option R):lL d ⟨E,L,U⟩ dst K=lL d ⟨E',L,U⟩ dst λσ'=>K (bW E (some dst) σ'):=by simp[lL,gB]
theorem Je(d:TD)(dst:Nat)(e:ar)(K:St->Option R):xO d ⟨E,L,U⟩ dst e K=xO d ⟨E',L,U⟩ dst e λσ'=>K (bW E (some dst) σ'):=by simp[xO,gB]
theorem GM(d:TD)(dst:Nat)(e1 e2:ar)(K:St->Option R):pT d ⟨E,L,U⟩ dst e1 e2 K=pT d ⟨E',L,U⟩ dst e1 e2 λσ'=>K (bW E (some dst) σ'):=by simp[pT,gB]
theorem CS(d:TD)(dst:Nat)(e:ar)(K:St->Option R):lQ d ⟨E,L,U⟩ dst e K=lQ d ⟨E',L,U⟩ dst e λσ'=>K (bW E (some dst) σ'):=by simp[lQ,gB]
theorem En(e:ar)(K:Nat->Lab->List Stp->V->Option R):plc ⟨E,L,U⟩ e K=plc ⟨E',L,U⟩ e K:=rfl
theorem CU(d:TD)(dst:Option Nat)(e1 e2:ar)(K:St->Option R):(lK d ⟨E,L,U⟩ e1 e2 λσ'=>K (σ'.j7 dst))=lK d ⟨E',L,U⟩ e1 e2 λσ'=>K (bW E dst (σ'.j7 dst)):=by
 simp only[lK,na]
 exact En _ _
theorem Jf(d:TD)(dst:Option Nat)(e1 e2:ar)(K:St->Option R):(xK d ⟨E,L,U⟩ e1 e2 λσ'=>K (σ'.j7 dst))=xK d ⟨E',L,U⟩ e1 e2 λσ'=>K (bW E dst (σ'.j7 dst)):=by
 simp only[xK,na]
 exact En _ _
theorem Nc(d:TD)(dst:Option Nat)(e1 e2:ar)(K:St->Option R):(xSt d ⟨E,L,U⟩ e1 e2 λσ'=>K (σ'.j7 dst))=xSt d ⟨E',L,U⟩ e1 e2 λσ'=>K (bW E dst (σ'.j7 dst)):=by
 have h1:Cr ⟨E,L,U⟩ e1=Cr ⟨E',L,U⟩ e1:=rfl
 unfold xSt
 rw[h1,CU]
 congr 1
 simp[ui,na]
theorem Jg(d:TD)(str:Bool)(lk dst:Nat)(e1 e2:ar)(K:St->Option R):uj d ⟨E,L,U⟩ str lk dst e1 e2 K=uj d ⟨E',L,U⟩ str lk dst e1 e2 λσ'=>K (bW E (some dst) σ'):=by
 simp only[uj,gB]
 rfl
theorem As(d:TD)(str:Bool)(dst:Nat)(e1 e2:ar)(K:St->Option R):ji d ⟨E,L,U⟩ str dst e1 e2 K=ji d ⟨E',L,U⟩ str dst e1 e2 λσ'=>K (bW E (some dst) σ'):=by
 unfold ji
 split
 all_goals grind [St.xR,Jg]
theorem CV(TT:Tab)(t:TypeId)(dst:Nat)(own:Bool){ps:List (Nat×Operand)}(h:∀ t∈tmpsOf (ps.map (·.2)),E' t=E t)(K:St->Option R):(lN TT ⟨E,L,U⟩ t dst own ps (λe=>K (St.bT ⟨E,L,U⟩ (some dst) e)) K)=lN TT ⟨E',L,U⟩ t dst own ps (λe=>K (bW E (some dst) (St.bT ⟨E',L,U⟩ (some dst) e))) λσ'=>K (bW E (some dst) σ'):=by simp_all [lN,gB,bR,Aq]
theorem Jh(d:TD)(dst len:Nat){ps:List (Nat×Operand)}(h:∀ t∈tmpsOf (ps.map (·.2)),E' t=E t)(K:St->Option R):xV d ⟨E,L,U⟩ dst len ps K=xV d ⟨E',L,U⟩ dst len ps λσ'=>K (bW E (some dst) σ'):=by grind [xV,gB,Aq]
theorem Ji(TT:Tab)(t:TypeId)(dst:Nat)(ex:ar)(lo hi:Option ar)(K:St->Option R):(xS TT ⟨E,L,U⟩ t dst ex lo hi (λe=>K (St.bT ⟨E,L,U⟩ (some dst) e)) K)=xS TT ⟨E',L,U⟩ t dst ex lo hi (λe=>K (bW E (some dst) (St.bT ⟨E',L,U⟩ (some dst) e))) λσ'=>K (bW E (some dst) σ'):=by simp[xS,gB,bR,St.xR]
theorem Jj:∀ (rs:List (Ty×Md)) (x:(dS rs).T) (key:Nat) (L:Nat->Option Lab) (U:Nat->Bool) (K:St->List ar->Option R),rD rs x key ⟨E,L,U⟩ K=rD rs x key ⟨E',L,U⟩ λσ' es=>K ⟨E,σ'.L,σ'.U⟩ es:=by
 intro rs
 induction rs with
 |nil=>intro x key L U K;rfl
 |cons p rs ih=>grind [rD,St.TG]
theorem Jk(L0:Nat->Option Lab)(t:Ty)(m:Md)(e:ar)(K:t.T->(Nat->Option Lab)->List Nat->Option R):xW ⟨E,L,U⟩ L0 t m e K=xW ⟨E',L,U⟩ L0 t m e K:=rfl
theorem GN:∀ (ps:List (Ty×Md)) (es:List ar) (L0:Nat->Option Lab) (K:(dS ps).T->(Nat->Option Lab)->List Nat->Option R),kX ⟨E,L,U⟩ ps es L0 K=kX ⟨E',L,U⟩ ps es L0 K:=by
 intro ps
 induction ps with
 |nil=>intro es L0 K;cases es <;> rfl
 |cons p ps ih=>
  intro es L0 K
  cases es with
  |nil=>rfl
  |cons e es=>grind [kX,Jk]
theorem GO(es:List ar):∀ (mi:List Nat) (ms:List (Ty×Md)) (y:(dS ms).T) (L0:Nat->Option Lab),pe ⟨E,L,U⟩ es mi ms y L0=pe ⟨E',L,U⟩ es mi ms y L0:=by
 intro mi
 induction mi with
 |nil=>intro ms y L0;cases ms <;> rfl
 |cons i mi ih=>
  intro ms y L0
  cases ms with
  |nil=>rfl
  |cons p ms=>grind [pe]
theorem wX(dst:Option Nat)(c:Callee)(es:List ar)(K:St->Option R):iT ⟨E,L,U⟩ dst c es K=iT ⟨E',L,U⟩ dst c es λσ'=>K (bW E dst σ'):=by
 unfold iT
 rw[GN (E':=E')]
 congr 1
 funext x L0 bs
 congr 1
 congr 1
 funext r
 rw[GO (E':=E')]
 split
 ·cases dst with
  |none=>rfl
  |some d=>grind [Jj,bW,o0,aG]
 ·rfl
theorem yh(V:Env)(b:Builtin)(ts:List TypeId){xs:List Operand}(h:∀ t∈tmpsOf xs,E' t=E t)(dst:Option Nat)(K:St->Option R):fZ V ⟨E,L,U⟩ b ts xs dst K=fZ V ⟨E',L,U⟩ b ts xs dst λσ'=>K (bW E dst σ'):=by
 unfold fZ
 split
 ·rw[bS h]
  simp only[bR]
  rfl
 ·rw[bS h]
  simp only[bR]
  rfl
 ·rename_i t tx x y
  rw[bS (x:=x) (λt ht=>h t (dB ht)),bS (x:=y) (λt ht=>h t (cZ ht))]
  cases dst with
  |none=>rfl
  |some d=>simp only[As (E:=E) (E':=E')]
 ·rename_i t tx x y
  rw[bS (x:=x) (λt ht=>h t (dB ht)),bS (x:=y) (λt ht=>h t (cZ ht))]
  simp only[bR]
 ·rename_i t tx x y
  rw[bS (x:=x) (λt ht=>h t (dB ht)),bS (x:=y) (λt ht=>h t (cZ ht))]
  simp only[bR]
 ·rfl
theorem CW(e:ar):kl ⟨E,L,U⟩ e=kl ⟨E',L,U⟩ e:=rfl
theorem Nd(V:Env){o:Oper}(hc:calm V o=true)(h:∀ t∈looks o,E' t=E t)(K:St->Option R):opK V ⟨E,L,U⟩ o K=opK V ⟨E',L,U⟩ o λσ'=>K (bW E o.dst σ'):=by
 unfold looks at h
 unfold calm at hc
 unfold opK
 split
 ·rename_i x ho;rw[ho]at h;rw[Am (x:=x) h,bS (x:=x) h];simp only[bR,sU]
 ·rename_i x ho;rw[ho]at h;rw[Am (x:=x) h,bS (x:=x) h];simp only[bR,sU]
 ·rename_i c x y ho
  rw[ho]at h
  rw[bS (x:=c) (λt ht=>h t (dB ht)),bS (x:=x) (λt ht=>h t (cZ (dB ht))),bS (x:=y) (λt ht=>h t (cZ (cZ ht)))]
  simp only[bR]
 ·cases o.dst with
  |none=>rfl
  |some d=>simp only[CR (E:=E) (E':=E')]
 ·rename_i t x ho
  rw[ho]at h
  rw[bS (x:=x) h]
  cases o.dst with
  |none=>rfl
  |some d=>simp only[Je (E:=E) (E':=E')]
 ·rename_i t ps ho
  rw[ho]at h
  cases o.dst with
  |none=>rfl
  |some d=>exact CV _ _ _ _ h K
 ·rename_i t len ps ho
  rw[ho]at h
  cases o.dst with
  |none=>rfl
  |some d=>simp only[Jh (E:=E) (E':=E') _ _ _ h,Al]
 ·rename_i t x ho
  rw[ho]at h
  rw[bS (x:=x) h]
  simp only[bR]
  rfl
 ·rename_i t p x ho
  rw[ho]at h
  rw[bS (x:=p) (λt ht=>h t (dB ht)),bS (x:=x) (λt ht=>h t (cZ ht))]
  simp only[Nc (E:=E) (E':=E'),Jf (E:=E) (E':=E'),CW (E:=E) (E':=E')]
 ·rename_i x ho
  rw[ho]at h
  rw[bS (x:=x) h]
  simp only[bR]
  rfl
 ·rename_i op t x y yt ho
  rw[ho]at h
  rw[bS (x:=x) (λt ht=>h t (dB ht)),bS (x:=y) (λt ht=>h t (cZ ht))]
  simp only[bR]
  rfl
 ·rename_i op t x ho
  rw[ho]at h
  rw[bS (x:=x) h]
  simp only[bR]
 ·rename_i s t x ho
  rw[ho]at h
  rw[bS (x:=x) h]
  congr 1
  ·cases o.dst with
   |none=>rfl
   |some d=>simp only[CS (E:=E) (E':=E')]
  ·simp only[bR]
   rfl
 ·rename_i t l c ho
  rw[ho]at h
  rw[bS (x:=l) (λt ht=>h t (dB ht)),bS (x:=c) (λt ht=>h t (cZ ht))]
  cases o.dst with
  |none=>rfl
  |some d=>simp only[GM (E:=E) (E':=E')]
 ·rename_i t x lo hi mx ho
  rw[ho]at h
  split
  ·rfl
  ·rw[bS (x:=x) (λt ht=>h t (dB ht)),Ar (x:=lo) (λt ht=>h t (cZ (uG (.inl ht)))),Ar (x:=hi) (λt ht=>h t (cZ (uG (.inr ht))))]
   cases o.dst with
   |none=>rfl
   |some d=>simp only[Ji (E:=E) (E':=E')]
 ·rename_i s x f ho
  rw[ho]at h
  rw[bS (x:=x) h]
  simp only[bR]
  rfl
 ·rename_i s x f ho
  rw[ho]at h
  rw[bS (x:=x) h]
  simp only[bR]
  rfl
 ·rename_i t x i ho
  rw[ho]at h
  rw[bS (x:=x) (λt ht=>h t (dB ht)),bS (x:=i) (λt ht=>h t (cZ ht))]
  simp only[bR]
  rfl
 ·rename_i t x i ho
  rw[ho]at h
  rw[bS (x:=x) (λt ht=>h t (dB ht)),bS (x:=i) (λt ht=>h t (cZ ht))]
  simp only[bR]
 ·rename_i t i ho
  rw[ho]at h
  have:=h t (by simp[sS,tmpsOf])
  simp only[this,bR]
 ·rename_i c ho
  rw[ho]at h hc
  simp only at hc
  split
  ·rename_i b GP
   simp only[sS,lh,GP]at h
   exact yh V _ _ h _ K
  ·rename_i f GP
   simp only[sS,lh,GP]at h
   rw[GP]at hc
   simp only at hc
   cases hf:V.CT f with
   |none=>rfl
   |some ce=>
    rw[hf]at hc
    simp only at hc |-
    rw[Ao (xs:=c.args.toList) h]
    split
    ·simp only[hc,cond_true]
     exact wX _ _ _ K
    ·rfl
  ·rfl
 ·rfl
end
def cvQ(σ:St)(o:Oper):Bool:=match o.op with
 |.move (.tmp t)=>sO (σ.E t)
 |.assign (.tmp t)=>sO (σ.E t)
 |.call c=>(match c.callee with
  |.value (.tmp t)=>(match σ.E t with
   |some (.one (.val (.fn _) _))=>true
   |e=>sO e)
  |_=>false)
 |_=>false
def cvC{R:Type}(V:Env)(σ:St)(dst:Option Nat)(f:FuncId)(es:List ar)(xs:List Operand)(K:St->Option R):Option R:=
 match V.CT f with
 |some ce=>(match jT σ xs with
  |some xs1=>bif(cz ce.rs&&cz ce.ms)||V.we dst then iT σ dst ce (xs1++es) K else none
  |none=>none)
 |none=>none
def cvM{R:Type}(σ:St)(dst:Option Nat)(t:Nat)(K:St->Option R):Option R:=match σ.E t with
 |some (.clo f es)=>K (σ.rJ dst f es)
 |_=>none
def cvK{R:Type}(V:Env)(σ:St)(o:Oper)(K:St->Option R):Option R:=match o.op with
 |.move (.tmp t)=>cvM σ o.dst t K
 |.assign (.tmp t)=>cvM σ o.dst t K
 |.call c=>(match c.callee with
  |.value (.tmp t)=>(match σ.E t with
   |some (.one (.val (.fn f) _))=>cvC V σ o.dst f [] c.args.toList K
   |some (.clo f es)=>cvC V σ o.dst f es c.args.toList K
   |_=>none)
  |_=>none)
 |_=>none
def opD{R:Type}(V:Env)(σ:St)(o:Oper)(K:St->Option R):Option R:=bif cvQ σ o then cvK V σ o K else opK V σ o K
section
variable {P:Program} {B:dD} {F:af} {Sg:Nat->af} {cg:Nat->List Value} {σ:St} {a:Act} {w:World}
theorem Jl{R:Type}{V:Env}{dst:Option Nat}{f:FuncId}{es:List ar}{xs:List Operand}{K:St->Option R}{r:R}(h:cvC V σ dst f es xs K=some r):
 ∃ ce xs1,V.CT f=some ce/\jT σ xs=some xs1/\((cz ce.rs&&cz ce.ms)||V.we dst)=true/\iT σ dst ce (xs1++es) K=some r:=by grind [cvC]
theorem GQ{R:Type}{V:Env}{o:Oper}{K:St->Option R}{r:R}(hq:cvQ σ o=true)(hk:cvK V σ o K=some r):opN V σ o K=some r:=by
 have mv:∀ t,(o.op=.move (.tmp t)\/o.op=.assign (.tmp t))->sO (σ.E t)=true->cvM σ o.dst t K=some r->opN V σ o K=some r:=by
  intro t ho hc hk
  unfold cvM at hk
  cases hE:σ.E t with
  |none=>rw[hE]at hk;cases hk
  |some e=>
   cases e with
   |one _=>rw[hE]at hk;cases hk
   |tup _=>rw[hE]at hk;cases hk
   |clo f es=>
    rw[hE]at hk
    simp only at hk
    rcases ho with ho|ho
    ·have h1:nlQ σ o=false:=by simp[nlQ,ho,hE,I1]
     simp_all [CG,fnQ,jk,Gw,opN,Gx]
    ·have h1:nlQ σ o=false:=by simp[nlQ,ho,hE,I1]
     simp_all [CG,fnQ,jk,Gw,opN,Gx]
 unfold cvQ at hq
 unfold cvK at hk
 split at hq
 ·simp_all
 ·simp_all
 ·rename_i c ho
  rw[ho]at hk
  simp only at hk
  split at hq
  ·rename_i t hc
   rw[hc]at hk
   simp only at hk
   have h1:nlQ σ o=false:=by simp[nlQ,ho]
   have h2:CG V σ o=none:=by simp[CG,ho]
   have h4:jk V.TT o.op=false:=by rw[ho];simp[jk,IR,hc]
   split at hk
   ·rename_i f x hE
    obtain⟨ce,xs1,e1,e2,e3,e4⟩:=Jl hk
    have h3:fnQ σ o=some (f,c.args.toList):=by simp[fnQ,ho,hc,hE]
    unfold opN
    rw[h1,h2,h3]
    simp only[cond_false]
    unfold I4
    rw[e1]
    simp only
    rw[e2]
    simp only
    rw[e3]
    simp only[cond_true]
    rw[bV]at e4
    exact e4
   ·rename_i f es hE
    have h3:fnQ σ o=none:=by simp[fnQ,ho,hc,hE]
    have h5:Gw σ o=true:=by simp[Gw,ho,hc,hE,sO]
    obtain⟨ce,xs1,e1,e2,e3,e4⟩:=Jl hk
    unfold opN
    rw[h1,h2,h3,h4,h5]
    simp only[cond_false,cond_true]
    unfold Gx
    rw[ho]
    simp only
    rw[hc]
    simp only[hE]
    rw[e1]
    simp only
    rw[e2]
    simp only
    rw[e3]
    exact e4
   ·cases hk
  ·cases hq
 ·cases hq
theorem Ri{R:Type}{V:Env}(hV:fT P V)(h:aP B F Sg cg σ a w){o:Oper}{K:St->Option R}{r:R}(hN:∀ d,o.dst=some d->d<B.N)(hk:opD V σ o K=some r){Q:Exit->Act->World->Prop}:
 o.wp P a w (Nx B σ o.dst K r) Q:=by grind [opD,CA,I6,GQ]
end
section
variable {R R':Type} (G:R->Option R')
theorem Jm(V:Env)(σ:St)(dst:Option Nat)(f:FuncId)(es:List ar)(xs:List Operand)(K:St->Option R):(cvC V σ dst f es xs K).bind G=cvC V σ dst f es xs λe=>(K e).bind G:=by
 unfold cvC
 split
 ·split
  all_goals simp[aM,pv]
 ·rfl
theorem Jn(σ:St)(dst:Option Nat)(t:Nat)(K:St->Option R):(cvM σ dst t K).bind G=cvM σ dst t λe=>(K e).bind G:=by grind [cvM]
theorem Au(V:Env)(σ:St)(o:Oper)(K:St->Option R):(opD V σ o K).bind G=opD V σ o λe=>(K e).bind G:=by
 unfold opD
 rw[aM,Jd]
 grind [cvK,Jn,Jm]
end
section
variable {R:Type} {E E':Nat->Option Ent} {L:Nat->Option Lab} {U:Nat->Bool}
theorem Av(dst:Option Nat)(f:FuncId)(es:List ar):bW E dst (St.rJ ⟨E',L,U⟩ dst f es)=St.rJ ⟨E,L,U⟩ dst f es:=by
 cases dst with
 |none=>rfl
 |some d=>simp only[bW,o0,St.rJ,aG]
theorem Ep{dst:Option Nat}{t:Nat}(h:E' t=E t)(K:St->Option R):cvM ⟨E,L,U⟩ dst t K=cvM ⟨E',L,U⟩ dst t λσ'=>K (bW E dst σ'):=by grind [cvM,Av]
theorem Er(V:Env){dst:Option Nat}{f:FuncId}{es:List ar}{xs:List Operand}(h:∀ t∈tmpsOf xs,E' t=E t)(K:St->Option R):cvC V ⟨E,L,U⟩ dst f es xs K=cvC V ⟨E',L,U⟩ dst f es xs λσ'=>K (bW E dst σ'):=by grind [cvC,Ao,wX]
theorem Nf(V:Env){o:Oper}(hc:calm V o=true)(h:∀ t∈looks o,E' t=E t)(K:St->Option R):opD V ⟨E,L,U⟩ o K=opD V ⟨E',L,U⟩ o λσ'=>K (bW E o.dst σ'):=by
 have hq:cvQ ⟨E,L,U⟩ o=cvQ ⟨E',L,U⟩ o:=by grind [looks,cvQ,sS,tmpsOf,lh]
 unfold opD
 rw[hq,Nd V hc h K]
 congr 1
 unfold looks at h
 unfold cvK
 split
 ·rename_i t ho
  rw[ho]at h
  exact Ep (h t (by simp[sS,tmpsOf])) K
 ·rename_i t ho
  rw[ho]at h
  exact Ep (h t (by simp[sS,tmpsOf])) K
 ·rename_i c ho
  rw[ho]at h
  split
  ·rename_i t GP
   simp only[sS,lh,GP]at h
   have ht:=h t (by simp[tmpsOf])
   have hx:∀ x∈tmpsOf c.args.toList,E' x=E x:=λx hx=>h x (by simp only[tmpsOf];exact bB _ hx)
   simp only[ht]
   split
   ·exact Er V hx K
   ·exact Er V hx K
   ·rfl
  ·rfl
 ·rfl
end
def dQ:ar->List Nat
 |.hdr l ..=>[l]
 |.adr l ..=>[l]
 |.view l ..=>[l]
 |_=>[]
def ng:List ar->List Nat
 |[]=>[]
 |e::es=>dQ e++ng es
def Qd:Option Ent->List Nat
 |some (.one e)=>dQ e
 |some (.tup es)=>ng es
 |some (.clo _ es)=>ng es
 |none=>[]
def jV(σ:St):List Nat->List Nat
 |[]=>[]
 |t::ts=>Qd (σ.E t)++jV σ ts
def wk(ks:List Nat)(dst:Option Nat)(l:Nat):Bool:=gG l ks||(match dst with|some d=>Nat.beq (l / 8) d|none=>false)
def fN(σ:St)(o:Oper):Nat->Bool:=wk (jV σ (looks o)) o.dst
def jc(L:Nat->Option Lab)(T:Nat->Bool):Nat->Option Lab:=λl=>bif T l then L l else none
def jd(U:Nat->Bool)(T:Nat->Bool):Nat->Bool:=λl=>bif T l then U l else true
def li(T:Nat->Bool)(L' L:Nat->Option Lab):Nat->Option Lab:=λl=>bif T l then L' l else L l
def j8(T:Nat->Bool)(U' U:Nat->Bool):Nat->Bool:=λl=>bif T l then U' l else U l
def Es(T:Nat->Bool):List Nat->Bool
 |[]=>true
 |l::ls=>T l&&Es T ls
def lY(T:Nat->Bool)(dst:Option Nat)(σ':St):Bool:=match dst with|some d=>Es T (Qd (σ'.E d))|none=>true
def nh(σ:St)(o:Oper):St:=⟨λt=>bif gG t (looks o)then σ.E t else none,jc σ.L (fN σ o),jd σ.U (fN σ o)⟩
def qc(T:Nat->Bool)(dst:Option Nat)(σ σ':St):St:=⟨o0 σ.E dst σ'.E,li T σ'.L σ.L,j8 T σ'.U σ.U⟩
section
variable {P:Program} {B:dD} {F:af} {Sg:Nat->af} {cg:Nat->List Value} {σ:St} {a:Act} {w:World}
theorem aP.gh(h:aP B F Sg cg σ a w):Gh F w:=B.gh.step h.f0 (λp hp=>h.fr.block p (B.ghl p hp) (B.ghs p hp))
def Aw(h:aP B F Sg cg σ a w)(T:Nat->Bool):dD:=
 {w0:=w,S0:=λk=>∃ l b,T l=true/\σ.L l=some b/\Sg l k,F0:=F,N:=B.N,fix:=B.fix,gh:=h.gh,ghs:=λp hp ⟨l,b,_,h1,h2⟩=>h.ek l b h1 p h2 (h.gh p hp).1,ghl:=λp hp=>h.fl p (h.gh p hp).1}
theorem da{L:Nat->Option Lab}{T:Nat->Bool}{l:Nat}{b:Lab}(h:jc L T l=some b):T l=true/\L l=some b:=by grind [jc]
theorem lj{U T:Nat->Bool}{l:Nat}(h:U l=true):jd U T l=true:=by grind [jd]
theorem aF.nh{T:Nat->Bool}{e:ar}{v:Value}(h:aF F w σ.L σ.U cg e v):aF F w (jc σ.L T) (jd σ.U T) cg e v:=by
 cases e with
 |val t x=>exact h
 |cst u=>exact h
 |kT t x=>exact h
 |hdr l n π c=>exact⟨lj h.1,λb hb=>h.2 b (da hb).2⟩
 |adr l n π c=>exact⟨lj h.1,λb hb=>h.2 b (da hb).2⟩
 |view l te lo hi=>exact⟨lj h.1,λb hb=>h.2 b (da hb).2⟩
theorem aP.restrict(h:aP B F Sg cg σ a w)(T:Nat->Bool):aP (Aw h T) F Sg cg ⟨σ.E,jc σ.L T,jd σ.U T⟩ a w:=
 {fr:=⟨rfl,rfl,rfl,aw _,λ_ _ _=>rfl⟩
  size:=h.size
  defers:=h.defers
  f0:=Sub.refl _
  fl:=h.fl
  fs:=λk hk _ _=>hk
  lab:=λl b hb=>h.lab l b (da hb).2
  dis:=λl l' b b' hne hb hb'=>h.dis l l' b b' hne (da hb).2 (da hb').2
  ek:=λl b hb=>h.ek l b (da hb).2
  lt:=λl b hb=>h.lt l b (da hb).2
  may:=λl b hb k hk _=>⟨l,b,(da hb).1,(da hb).2,hk⟩
  used:=λl b hb=>lj (h.used l b (da hb).2)
  fix:=λl cs hf=>⟨⟨lj (h.fix l cs hf).1.1,(h.fix l cs hf).1.2⟩,λb hb=>(h.fix l cs hf).2 b (da hb).2⟩
  ent:=λt e he=>(h.ent t e he).imp λe v hv=>hv.nh}
theorem aF.Ax{T:Nat->Bool}{σ':St}{F':af}{w':World}{cg':Nat->List Value}{e:ar}{v:Value}(h:aF F' w' σ'.L σ'.U cg' e v)(hk:∀ l∈dQ e,T l=true):
 aF F' w' (li T σ'.L σ.L) (j8 T σ'.U σ.U) (λl=>if T l=true then cg' l else cg l) e v:=by
 cases e with
 |val t x=>exact h
 |cst u=>exact h
 |kT t x=>exact h
 |hdr l n π c=>
  have hT:=hk l (by simp[dQ])
  refine⟨by simp only[j8,hT,cond_true];exact h.1,λb hb=>?_⟩
  simp only[li,hT,cond_true]at hb
  simp only[hT,if_true]
  exact h.2 b hb
 |adr l n π c=>
  have hT:=hk l (by simp[dQ])
  refine⟨by simp only[j8,hT,cond_true];exact h.1,λb hb=>?_⟩
  simp only[li,hT,cond_true]at hb
  simp only[hT,if_true]
  exact h.2 b hb
 |view l te lo hi=>
  have hT:=hk l (by simp[dQ])
  refine⟨by simp only[j8,hT,cond_true];exact h.1,λb hb=>?_⟩
  simp only[li,hT,cond_true]at hb
  simp only[hT,if_true]
  exact h.2 b hb
theorem aF.Rj{T:Nat->Bool}{σ':St}{F':af}{w':World}{cg':Nat->List Value}{e:ar}{v:Value}(h:aF F' w' σ.L σ.U cg e v)(hk:∀ l∈dQ e,T l=false):
 aF F' w' (li T σ'.L σ.L) (j8 T σ'.U σ.U) (λl=>if T l=true then cg' l else cg l) e v:=by
 cases e with
 |val t x=>exact h
 |cst u=>exact h
 |kT t x=>exact h
 |hdr l n π c=>
  have hT:=hk l (by simp[dQ])
  refine⟨by simp only[j8,hT,cond_false];exact h.1,λb hb=>?_⟩
  simp only[li,hT,cond_false]at hb
  simp only[hT,ap,if_false]
  exact h.2 b hb
 |adr l n π c=>
  have hT:=hk l (by simp[dQ])
  refine⟨by simp only[j8,hT,cond_false];exact h.1,λb hb=>?_⟩
  simp only[li,hT,cond_false]at hb
  simp only[hT,ap,if_false]
  exact h.2 b hb
 |view l te lo hi=>
  have hT:=hk l (by simp[dQ])
  refine⟨by simp only[j8,hT,cond_false];exact h.1,λb hb=>?_⟩
  simp only[li,hT,cond_false]at hb
  simp only[hT,ap,if_false]
  exact h.2 b hb
theorem Ub(e:ar):dQ e=[]\/∃ l,dQ e=[l]:=by cases e <;> simp[dQ]
theorem aF.Rl{T:Nat->Bool}{F':af}{w':World}{e:ar}{v:Value}(h:aF F w σ.L σ.U cg e v)(hF:Sub F F')(hFw:∀ k,F k->w'.heap[k]?=w.heap[k]?)(xF:∀ l b,σ.L l=some b->Rep F w b.t b.m b.x (cg l) (Sg l))(hw:∀ l b,T l=false->σ.L l=some b->∀ k,Sg l k->w'.heap[k]?=w.heap[k]?)(hk:∀ l∈dQ e,T l=false):aF F' w' σ.L σ.U cg e v:=by
 cases e with
 |val t x=>
  obtain⟨cs,h1,h2⟩:=h
  exact⟨cs,aU hF hFw t .ro x cs _ _ h1 (Sub.refl _) (λ_ h=>h.elim),h2⟩
 |cst u=>exact h
 |view l te lo hi=>exact h
 |kT t x=>
  obtain⟨a,ds,h1,h2,h3,h4⟩:=h
  exact⟨a,ds,h1,hF _ h2,h3.congr (hFw _ h2),aU hF hFw t .ro x ds _ _ h4 (Sub.refl _) (λ_ h=>h.elim)⟩
 |hdr l n π c=>
  have hT:=hk l (by simp[dQ])
  refine⟨h.1,λb hb=>?_⟩
  obtain⟨h0,h1,h2⟩:=h.2 b hb
  grind [resolve_congr]
 |adr l n π c=>
  have hT:=hk l (by simp[dQ])
  refine⟨h.1,λb hb=>?_⟩
  obtain⟨h0,h1,h2⟩:=h.2 b hb
  grind [resolve_congr]
theorem GR{T:Nat->Bool}{ls:List Nat}(h:Es T ls=true):∀ l∈ls,T l=true:=by
 induction ls with
 |nil=>intro l hl;simp at hl
 |cons x xs ih=>simp_all [Es]
theorem cC.Uc{F F':af}{w w':World}{L L' L'':Nat->Option Lab}{U U' U'':Nat->Bool}{cg cg' Ud:Nat->List Value}:∀ {es:List ar} {vs:List Value},(∀ e v,e∈es->aF F w L U cg e v->aF F' w' L' U' cg' e v->aF F' w' L'' U'' Ud e v)->cC F w L U cg es vs->cC F' w' L' U' cg' es vs->cC F' w' L'' U'' Ud es vs:=by
 intro es
 induction es with
 |nil=>intro vs _ h _;exact h
 |cons e es ih=>
  rintro vs hi ⟨v,r,rfl,h1,h2⟩ ⟨v',r',e',h3,h4⟩
  injection e' with e1 e2
  subst e1;subst e2
  exact⟨v,r,rfl,hi e v (by simp) h1 h3,ih (λe v he=>hi e v (by simp[he])) h2 h4⟩
theorem cC.Ue{F:af}{w:World}{L L':Nat->Option Lab}{U U':Nat->Bool}{cg cg':Nat->List Value}:∀ {es:List ar} {vs:List Value},(∀ e v,e∈es->aF F w L U cg e v->aF F w L' U' cg' e v)->cC F w L U cg es vs->cC F w L' U' cg' es vs:=by
 intro es
 induction es with
 |nil=>intro vs _ h;exact h
 |cons e es ih=>
  rintro vs hi ⟨v,r,rfl,h1,h2⟩
  exact⟨v,r,rfl,hi e v (by simp) h1,ih (λe v he=>hi e v (by simp[he])) h2⟩
theorem qd{es:List ar}{e:ar}(he:e∈es):∀ l∈dQ e,l∈ng es:=by
 induction es with
 |nil=>simp at he
 |cons x xs ih=>grind [ng]
theorem aP.merge(h:aP B F Sg cg σ a w){T:Nat->Bool}{σ':St}{a':Act}{w':World}(h':Inv (Aw h T) σ' a' w'){dst:Option Nat}(htm:∀ t,dst≠some t->a'.tmps.getD t undef=a.tmps.getD t undef)(hE:∀ t,dst≠some t->σ'.E t=σ.E t)(hk:lY T dst σ'=true):
 Inv B ⟨σ'.E,li T σ'.L σ.L,j8 T σ'.U σ.U⟩ a' w':=by
 obtain⟨F',Sg',cg',h'⟩:=h'
 have tm:∀ l b,T l=false->σ.L l=some b->∀ k,Sg l k->¬(Aw h T).S0 k:=by
  rintro l b hT hl k hk ⟨l2,b2,hT2,hl2,hk2⟩
  have hne:l≠l2:=λe=>by rw[e,hT2]at hT;cases hT
  exact h.dis l l2 b b2 hne hl hl2 k hk hk2
 have hblk:∀ l b,T l=false->σ.L l=some b->∀ k,Sg l k->w'.heap[k]?=w.heap[k]?:=λl b hT hl k hk=>h'.fr.block k (h.lt l b hl k hk) (tm l b hT hl k hk)
 have hFS:∀ k,F k->¬(Aw h T).S0 k:=by
  rintro k hk ⟨l,b,_,hl,hs⟩
  exact h.ek l b hl k hs hk
 have hFw:∀ k,F k->w'.heap[k]?=w.heap[k]?:=λk hk=>h'.fr.block k (h.fl k hk) (hFS k hk)
 have hS0:∀ k,(Aw h T).S0 k->k<B.w0.heap.size->B.S0 k:=by
  rintro k ⟨l,b,_,hl,hs⟩ hlt
  exact h.may l b hl k hs hlt
 have cases2:∀ l b,li T σ'.L σ.L l=some b->(T l=true/\σ'.L l=some b)\/(T l=false/\σ.L l=some b):=λl b hb=>by grind [li]
 refine⟨F',λl=>if T l=true then Sg' l else Sg l,λl=>if T l=true then cg' l else cg l,?_⟩
 exact
 {fr:=⟨h'.fr.os.trans h.fr.os,h'.fr.tape.trans h.fr.tape,h'.fr.output.trans h.fr.output,bE h.fr.size h'.fr.size,λk hk hn=>(h'.fr.block k (bz hk h.fr.size) (λhs=>hn (hS0 k hs hk))).trans (h.fr.block k hk hn)⟩
  size:=h'.size
  defers:=h'.defers
  f0:=h.f0.trans h'.f0
  fl:=h'.fl
  fs:=λk hk hlt hns=>h.fs k (h'.fs k hk (bz hlt h.fr.size) (λhs=>hns (hS0 k hs hlt))) hlt hns
  lab:=λl b hb=>by
   rcases cases2 l b hb with⟨hT,hl⟩|⟨hT,hl⟩
   ·simp only[hT,if_true];exact h'.lab l b hl
   ·simp only[hT,ap,if_false];exact aU h'.f0 hFw _ _ _ _ _ _ (h.lab l b hl) (Sub.refl _) (hblk l b hT hl)
  dis:=λl l2 b b2 hne hb hb2=>by
   rcases cases2 l b hb with⟨hT,hl⟩|⟨hT,hl⟩ <;> rcases cases2 l2 b2 hb2 with⟨hT2,hl2⟩|⟨hT2,hl2⟩
   ·simp only[hT,hT2,if_true];exact h'.dis l l2 b b2 hne hl hl2
   ·simp only[hT,hT2,if_true,ap,if_false]
    intro k h1 h2
    exact tm l2 b2 hT2 hl2 k h2 (h'.may l b hl k h1 (h.lt l2 b2 hl2 k h2))
   ·simp only[hT,hT2,if_true,ap,if_false]
    intro k h1 h2
    exact tm l b hT hl k h1 (h'.may l2 b2 hl2 k h2 (h.lt l b hl k h1))
   ·simp only[hT,hT2,ap,if_false];exact h.dis l l2 b b2 hne hl hl2
  ek:=λl b hb=>by
   rcases cases2 l b hb with⟨hT,hl⟩|⟨hT,hl⟩
   ·simp only[hT,if_true];exact h'.ek l b hl
   ·simp only[hT,ap,if_false]
    intro k h1 h2
    exact h.ek l b hl k h1 (h'.fs k h2 (h.lt l b hl k h1) (tm l b hT hl k h1))
  lt:=λl b hb k hk=>by
   rcases cases2 l b hb with⟨hT,hl⟩|⟨hT,hl⟩
   ·simp only[hT,if_true]at hk;exact h'.lt l b hl k hk
   ·simp only[hT,ap,if_false]at hk;exact bz (h.lt l b hl k hk) h'.fr.size
  may:=λl b hb k hk hlt=>by
   rcases cases2 l b hb with⟨hT,hl⟩|⟨hT,hl⟩
   ·simp only[hT,if_true]at hk;exact hS0 k (h'.may l b hl k hk (bz hlt h.fr.size)) hlt
   ·simp only[hT,ap,if_false]at hk;exact h.may l b hl k hk hlt
  used:=λl b hb=>by
   rcases cases2 l b hb with⟨hT,hl⟩|⟨hT,hl⟩
   ·simp only[j8,hT,cond_true];exact h'.used l b hl
   ·simp only[j8,hT,cond_false];exact h.used l b hl
  fix:=λl cs hf=>by
   have q:=h.fix l cs hf
   have q':=h'.fix l cs hf
   refine⟨⟨?_,q.1.2⟩,λb hb=>?_⟩
   ·simp only[j8]
    cases T l
    ·exact q.1.1
    ·exact q'.1.1
   ·rcases cases2 l b hb with⟨hT,hl⟩|⟨hT,hl⟩
    ·simp only[hT,if_true];exact q'.2 b hl
    ·simp only[hT,ap,if_false];exact q.2 b hl
  ent:=λt e he=>by
   have h1:=h'.ent t e he
   by_cases hd:dst=some t
   ·subst hd
    simp only[lY]at hk
    have he':σ'.E t=some e:=he
    rw[he']at hk
    have hin:=GR hk
    cases e with
    |one e=>exact aF.Ax h1 hin
    |tup es=>
     obtain⟨vs,hv,hes⟩:=h1
     exact⟨vs,hv,hes.Ue λe v hm hv=>hv.Ax λl hl=>hin l (qd hm l hl)⟩
    |clo f es=>
     obtain⟨vs,hv,hes⟩:=h1
     exact⟨vs,hv,hes.Ue λe v hm hv=>hv.Ax λl hl=>hin l (qd hm l hl)⟩
   ·have h0:=h.ent t e (by rw[<-hE t hd];exact he)
    rw[htm t hd]at h1 |-
    have step:∀ e v,aF F w σ.L σ.U cg e v->aF F' w' σ'.L σ'.U cg' e v->aF F' w' (li T σ'.L σ.L) (j8 T σ'.U σ.U) (λl=>if T l=true then cg' l else cg l) e v:=by
     intro e v g0 g1
     rcases Ub e with hk0|⟨l,hl⟩
     ·exact g1.Ax (λl hl=>by rw[hk0]at hl;simp at hl)
     ·cases hT:T l
      ·have hkk:∀ j∈dQ e,T j=false:=λj hj=>by rw[hl]at hj;simp at hj;rw[hj];exact hT
       exact(g0.Rl h'.f0 hFw h.lab hblk hkk).Rj hkk
      ·exact g1.Ax (λj hj=>by rw[hl]at hj;simp at hj;rw[hj];exact hT)
    cases e with
    |one e=>exact step e _ h0 h1
    |tup es=>
     obtain⟨vs,hv,hes⟩:=h0
     obtain⟨vs',hv',wg⟩:=h1
     rw[hv]at hv'
     injection hv' with hv'
     have:vs=vs':=by simpa using congrArg Array.toList hv'
     subst this
     exact⟨vs,hv,hes.Uc (λe v _=>step e v) wg⟩
    |clo f es=>
     obtain⟨vs,hv,hes⟩:=h0
     obtain⟨vs',hv',wg⟩:=h1
     rw[hv]at hv'
     injection hv' with _ _ hv'
     have:vs=vs':=by simpa using congrArg Array.toList hv'
     subst this
     exact⟨vs,hv,hes.Uc (λe v _=>step e v) wg⟩}
end
section
variable {P:Program} {B:dD} {F:af} {Sg:Nat->af} {cg:Nat->List Value} {σ:St} {a:Act} {w:World}
theorem Rm{dst:Option Nat}{v:Value}{t:Nat}(h:dst≠some t):(a.put dst v).tmps.getD t undef=a.tmps.getD t undef:=by
 cases dst with
 |none=>rfl
 |some d=>simp_all [Act.put]
theorem Oper.Ng{o:Oper}{next:Act->World->Prop}{Q:Exit->Act->World->Prop}(h:o.wp P a w next Q):o.wp P a w (λa' w'=>next a' w'/\∀ t,o.dst≠some t->a'.tmps.getD t undef=a.tmps.getD t undef) Q:=by
 unfold Oper.wp at *
 generalize (execOp a.eval o).run P w=res at *
 cases res with
 |ok n w'=>
  cases n <;> simp only[Oper.upon]at h |-
  all_goals grind [Rm]
 |halt x w'=>
  cases x <;> simp only[Oper.upon]at h |-
  omega
theorem Uf{V:Env}(hV:fT P V)(h:Inv B σ a w){o:Oper}(hc:calm V o=true)(hN:∀ d,o.dst=some d->d<B.N){σ':St}(hk:opD V (nh σ o) o some=some σ')(hin:lY (fN σ o) o.dst σ'=true){Q:Exit->Act->World->Prop}:
 o.wp P a w (λa' w'=>Inv B (qc (fN σ o) o.dst σ σ') a' w') Q:=by
 obtain⟨F,Sg,cg,h⟩:=h
 have i1:=h.restrict (fN σ o)
 have hE:∀ t∈looks o,(λt=>bif gG t (looks o)then σ.E t else none) t=σ.E t:=λt ht=>by
  have:∀ l:List Nat,t∈l->gG t l=true:=by
   intro l
   induction l with
   |nil=>intro h;simp at h
   |cons x xs ih=>
    intro h
    simp only[gG,aJ]
    grind [Nat.beq_refl]
  simp_all
 have Ay:=Nf (R:=St) (E:=σ.E) (L:=jc σ.L (fN σ o)) (U:=jd σ.U (fN σ o)) V hc hE some
 have hb:=Au (λσ'=>some (bW σ.E o.dst σ')) V (nh σ o) o some
 rw[hk]at hb
 have hk2:opD V ⟨σ.E,jc σ.L (fN σ o),jd σ.U (fN σ o)⟩ o some=some (bW σ.E o.dst σ'):=by
  rw[Ay]
  exact hb.symm
 refine Oper.oD (Oper.Ng (Ri (Q:=Q) hV i1 hN hk2)) (λa' w' hp=>?_) (λ_ _ _ h=>h)
 obtain⟨⟨rK,q1,q2,_⟩,q4⟩:=hp
 injection q1 with q1
 subst q1
 have:=h.merge q2 q4 (λt ht=>by
  simp only[bW,o0]
  cases hd:o.dst with
  |none=>rfl
  |some d=>exact aW _ _ (λe=>ht (by rw[hd,e]))) (by
  unfold lY at hin |-
  cases hd:o.dst with
  |none=>rfl
  |some d=>
   rw[hd]at hin
   simp only[bW,o0,aG]
   exact hin)
 exact this
def uH:List (Ty×Md)->Bool
 |[]=>true
 |p::ps=>decide (p.2=.ro)&&uH ps
def Jo(c:Callee):Bool:=uH c.ps&&(uH c.rs&&(match c.mi with|[]=>(match c.ms with|[]=>true|_=>false)|_=>false))
def isV(V:Env)(o:Oper):Bool:=match o.op with
 |.move _|.assign _|.pick .. |.load .. |.nilCheck _|.binOp .. |.unOp .. |.fieldAddr .. |.field .. |.indexAddr .. |.index .. |.extract ..=>true
 |.call c=>(match c.callee with|.builtin .len=>true|.builtin .min=>true|.builtin .max=>true|.value (.func f)=>(match V.CT f with|some ce=>Jo ce&&((cz ce.rs&&cz ce.ms)||V.we o.dst)|none=>false)|_=>false)
 |_=>false
theorem qe{dst:Option Nat}{e:ar}:(σ.bT dst e).L=σ.L/\(σ.bT dst e).U=σ.U:=by cases dst <;> exact⟨rfl,rfl⟩
theorem Et{dst:Option Nat}{es:List ar}:(σ.mV dst es).L=σ.L/\(σ.mV dst es).U=σ.U:=by cases dst <;> exact⟨rfl,rfl⟩
theorem GS{o:Oper}{σ':St}{f:Option ar}(h:(f.bind λe=>some (σ.bT o.dst e))=some σ'):σ'.L=σ.L/\σ'.U=σ.U:=by
 obtain⟨e,_,h2⟩:=b9.1 h
 grind [qe]
theorem yi{R:Type}{σ:St}{e:ar}{K:Nat->Lab->List Stp->V->Option R}{r:R}(h:kV σ e K=some r):∃ l b π c,K l b π c=some r:=by
 unfold kV at h
 grind
theorem Jp{σ:St}{es:List ar}{mi:List Nat}{ms:List (Ty×Md)}(hq:(match mi with|[]=>(match ms with|[]=>true|_=>false)|_=>false)=true){y:(dS ms).T}{L L2:Nat->Option Lab}(h:pe σ es mi ms y L=some L2):L2=L:=by
 cases mi with
 |cons _ _=>cases hq
 |nil=>cases ms with
  |cons _ _=>cases hq
  |nil=>injection h with h;exact h.symm
theorem Jq{R:Type}{σ:St}:∀ {ps:List (Ty×Md)} {es:List ar} {L:Nat->Option Lab} {K:(dS ps).T->(Nat->Option Lab)->List Nat->Option R} {r:R},uH ps=true->kX σ ps es L K=some r->∃ x bs,K x L bs=some r:=by
 intro ps
 induction ps with
 |nil=>
  intro es L K r _ h
  cases es with
  |nil=>exact⟨(),[],h⟩
  |cons _ _=>cases h
 |cons p ps ih=>
  intro es L K r ha h
  simp only[uH,ag]at ha
  cases es with
  |nil=>cases h
  |cons e es=>
   simp only[kX]at h
   unfold xW at h
   rw[ha.1]at h
   simp only[cond_true]at h
   grind [yi,Q1]
theorem Nh{R:Type}:∀ {rs:List (Ty×Md)} {x:(dS rs).T} {k:Nat} {σ:St} {K:St->List ar->Option R} {r:R},uH rs=true->rD rs x k σ K=some r->∃ es,K σ es=some r:=by
 intro rs
 induction rs with
 |nil=>intro x k σ K r _ h;exact⟨[],h⟩
 |cons p rs ih=>
  intro x k σ K r ha h
  simp only[uH,ag,decide_eq_true_eq]at ha
  simp only[rD,ha.1,dE,cond_true]at h
  grind
theorem Ni{V:Env}{o:Oper}(hv:isV V o=true){σ':St}(hk:opK V σ o some=some σ'):σ'.L=σ.L/\σ'.U=σ.U:=by
 have one:∀ (f:(ar->Option St)->Option St) (g:Option ar),(∀ K,f K=g.bind K)->f (λe=>some (σ.bT o.dst e))=some σ'->σ'.L=σ.L/\σ'.U=σ.U:=λf g hf h=>by
  rw[hf]at h;exact GS h
 unfold isV at hv
 unfold opK at hk
 split at hk
 ·grind [Et,qe]
 ·grind [Et,qe]
 ·grind [qe]
 ·rename_i t ho;rw[ho]at hv;cases hv
 ·rename_i t x ho;rw[ho]at hv;cases hv
 ·rename_i t x ho;rw[ho]at hv;cases hv
 ·rename_i t l x ho;rw[ho]at hv;cases hv
 ·split at hk
  ·split at hk
   ·exact one _ _ (λK=>(uE K _ _ _ some).symm) hk
   ·cases hk
  ·cases hk
 ·rename_i t l x ho;rw[ho]at hv;cases hv
 ·split at hk
  ·exact one _ _ (λK=>(wS K _ _ some).symm) hk
  ·cases hk
 ·split at hk
  ·split at hk
   ·exact one _ _ (λK=>(wV K _ _ _ _ _ _ _ some).symm) hk
   ·cases hk
  ·cases hk
 ·split at hk
  ·exact one _ _ (λK=>(Af K _ _ some).symm) hk
  ·cases hk
 ·rename_i s t x ho;rw[ho]at hv;cases hv
 ·rename_i t l x ho;rw[ho]at hv;cases hv
 ·rename_i t x l h m ho;rw[ho]at hv;cases hv
 ·split at hk
  ·exact one _ _ (λK=>(mz K _ _ _ _ _ some).symm) hk
  ·cases hk
 ·split at hk
  ·exact one _ _ (λK=>(sQ K _ _ _ _ _ some).symm) hk
  ·cases hk
 ·split at hk
  ·split at hk
   ·exact one _ _ (λK=>(wW K _ _ _ _ _ some).symm) hk
   ·cases hk
  ·cases hk
 ·split at hk
  ·split at hk
   ·exact one _ _ (λK=>(sR K _ _ _ _ some).symm) hk
   ·cases hk
  ·cases hk
 ·split at hk
  ·split at hk
   ·injection hk with hk;rw[<-hk];exact qe
   ·cases hk
  ·cases hk
 ·rename_i c ho
  rw[ho]at hv
  simp only at hv
  split at hk
  ·rename_i b hc
   rw[hc]at hv
   unfold fZ at hk
   split at hk
   ·split at hk
    ·exact one _ _ (λK=>(wQ K _ _ _ _ some).symm) hk
    ·cases hk
   ·split at hk
    ·exact one _ _ (λK=>(wR K _ _ _ _ some).symm) hk
    ·cases hk
   ·cases hv
   ·split at hk
    ·split at hk
     ·exact one _ _ (λK=>(wT K _ _ some).symm) hk
     ·cases hk
    ·cases hk
   ·split at hk
    ·split at hk
     ·exact one _ _ (λK=>(wU K _ _ some).symm) hk
     ·cases hk
    ·cases hk
   ·cases hk
  ·rename_i f hc
   rw[hc]at hv
   simp only at hv
   cases hf:V.CT f with
   |none=>rw[hf]at hv;cases hv
   |some ce=>
   rw[hf]at hv hk
   simp only[ag]at hv
   simp only at hk
   obtain⟨hro,hfl⟩:=hv
   split at hk
   ·rename_i es hes
    rw[hfl]at hk
    simp only[cond_true]at hk
    unfold Jo at hro
    simp only[ag]at hro
    obtain⟨r1,r2,r3⟩:=hro
    unfold iT at hk
    obtain⟨x,bs,hk⟩:=Jq r1 hk
    simp only[dJ]at hk
    split at hk
    ·unfold ah at hk
     cases Gj:ce.den x with
     |none=>rw[Gj]at hk;cases hk
     |some y=>
     rw[Gj]at hk
     simp only at hk
     split at hk
     ·rename_i L2 hL2
      have hL2:=Jp r3 hL2
      subst hL2
      split at hk
      ·obtain⟨es',hk⟩:=Nh r2 hk
       injection hk with hk
       rw[<-hk]
       exact⟨rfl,rfl⟩
      ·injection hk with hk
       rw[<-hk]
       exact⟨rfl,rfl⟩
     ·cases hk
    ·cases hk
   ·cases hk
  ·cases hk
 ·cases hk
theorem Nj{V:Env}{o:Oper}(hv:isV V o=true){σ':St}(hk:opD V σ o some=some σ'):σ'.L=σ.L/\σ'.U=σ.U:=by
 unfold opD at hk
 cases hq:cvQ σ o
 ·grind [Ni]
 ·rw[hq]at hk
  simp only[cond_true]at hk
  have mv:∀ t,cvM σ o.dst t some=some σ'->σ'.L=σ.L/\σ'.U=σ.U:=by
   intro t hk
   unfold cvM at hk
   split at hk
   ·injection hk with hk
    rw[<-hk]
    unfold St.rJ
    grind
   ·cases hk
  grind [cvK,isV]
end
def uI(σ:St)(ops:List Oper)(o:Oper):Option Bool:=
 match o.guard with
 |none=>some true
 |some (j,want)=>match qa ops j with
  |some s=>(match σ.E s with
   |some (.one (.val .bool b))=>some ((b:Bool) == want)
   |some (.one (.cst v))=>(match v with
    |.bool b=>some (b == want)
    |_=>some false)
   |_=>none)
  |none=>none
def cD(ops:List Oper)(o:Oper):List Nat:=match o.guard with
 |none=>[]
 |some (j,_)=>match qa ops j with|some s=>[s]|none=>[]
structure Tr where
 o:Oper
 st:St
 run:Bool
 e:Option Ent
 T:Nat->Bool
 L':Nat->Option Lab
 U':Nat->Bool
 re:List Nat
 TR:Nat->Bool
 anc:List Nat
 wh:Option St:=none
def Tr.U(t:Tr)(σ:St):St:=match t.wh with|some σ'=>σ'|none=>⟨match t.o.dst with|some d=>upd σ.E d t.e|none=>σ.E,li t.T t.L' σ.L,j8 t.T t.U' σ.U⟩
structure iV(s t:Tr):Prop where
 r1:∀ d,s.o.dst=some d->d∉t.re
 r2:∀ d,t.o.dst=some d->d∉s.re
 w:∀ d,s.o.dst=some d->t.o.dst≠some d
 l1:∀ l,s.T l=true->t.TR l=true->False
 l2:∀ l,t.T l=true->s.TR l=true->False
 l3:∀ l,s.T l=true->t.T l=true->False
 n1:s.wh=none
 n2:t.wh=none
structure Ag(t:Tr)(σ1 σ2:St):Prop where
 e:∀ x∈t.re,σ1.E x=σ2.E x
 l:∀ l,t.TR l=true->σ1.L l=σ2.L l/\σ1.U l=σ2.U l
 w:t.wh.isSome=true->σ1=σ2
def cS(D:Nat->Bool):List Tr->Nat->St->St
 |[],_,σ=>σ
 |t::tr,m,σ=>cS D tr (m+1) (bif D m then t.U σ else σ)
section
theorem Ag.refl(t:Tr)(σ:St):Ag t σ σ:=⟨λ_ _=>rfl,λ_ _=>⟨rfl,rfl⟩,λ_=>rfl⟩
theorem Ag.both{t s:Tr}{σ1 σ2:St}(h:Ag t σ1 σ2):Ag t (s.U σ1) (s.U σ2):=by
 cases hw:s.wh with
 |some σ'=>simp only[Tr.U,hw];exact Ag.refl _ _
 |none=>
 refine⟨λx hx=>?_,λl hl=>?_,λhw'=>by rw[h.w hw']⟩
 ·simp only[Tr.U,hw]
  cases s.o.dst with
  |none=>exact h.1 x hx
  |some d=>
   by_cases e:x=d
   ·grind [aG]
   ·simp only[aW _ _ e];exact h.1 x hx
 ·simp only[Tr.U,hw,li,j8]
  cases s.T l
  ·exact h.2 l hl
  simp_all
theorem Ag.one{t s:Tr}{σ:St}(h:iV s t):Ag t (s.U σ) σ:=by
 refine⟨λx hx=>?_,λl hl=>?_,λhw=>by rw[h.n2]at hw;cases hw⟩
 ·simp only[Tr.U,h.n1]
  cases hd:s.o.dst with
  |none=>rfl
  |some d=>exact aW _ _ (λe=>h.r1 d hd (e ▸ hx))
 ·simp only[Tr.U,h.n1,li,j8]
  cases hT:s.T l
  ·simp_all
  ·exact(h.l1 l hT hl).elim
theorem Ag.trans{t:Tr}{σ1 σ2 σ3:St}(h:Ag t σ1 σ2)(k:Ag t σ2 σ3):Ag t σ1 σ3:=⟨λx hx=>(h.1 x hx).trans (k.1 x hx),λl hl=>⟨(h.2 l hl).1.trans (k.2 l hl).1,(h.2 l hl).2.trans (k.2 l hl).2⟩,λhw=>(h.w hw).trans (k.w hw)⟩
theorem Ag.symm{t:Tr}{σ1 σ2:St}(h:Ag t σ1 σ2):Ag t σ2 σ1:=⟨λx hx=>(h.1 x hx).symm,λl hl=>⟨(h.2 l hl).1.symm,(h.2 l hl).2.symm⟩,λhw=>(h.w hw).symm⟩
theorem iV.symm{s t:Tr}(h:iV s t):iV t s:=⟨h.r2,h.r1,λd h1 h2=>h.w d h2 h1,h.l2,h.l1,λl h1 h2=>h.l3 l h2 h1,h.n2,h.n1⟩
theorem Rn{s t:Tr}(h:iV s t)(σ:St):s.U (t.U σ)=t.U (s.U σ):=by
 have hE:(s.U (t.U σ)).E=(t.U (s.U σ)).E:=by
  simp only[Tr.U,h.n1,h.n2]
  cases hs:s.o.dst with
  |none=>cases t.o.dst <;> rfl
  |some d=>
   cases ht:t.o.dst with
   |none=>rfl
   |some d'=>
    have hne:d≠d':=λe=>h.w d hs (by rw[ht,e])
    grind [aG,aW]
 have hL:(s.U (t.U σ)).L=(t.U (s.U σ)).L:=by
  funext l
  simp only[Tr.U,h.n1,h.n2,li]
  cases h1:s.T l <;> cases h2:t.T l <;> first|rfl|exact(h.l3 l h1 h2).elim
 have hU:(s.U (t.U σ)).U=(t.U (s.U σ)).U:=by
  funext l
  simp only[Tr.U,h.n1,h.n2,j8]
  cases h1:s.T l <;> cases h2:t.T l <;> first|rfl|exact(h.l3 l h1 h2).elim
 cases h1:s.U (t.U σ)with
 |mk E1 L1 U1=>simp_all
theorem rO{D D':Nat->Bool}:∀ (tr:List Tr) (m:Nat) (σ:St),(∀ k,m<=k->k<m+tr.length->D k=D' k)->cS D tr m σ=cS D' tr m σ:=by
 intro tr
 induction tr with
 |nil=>intro m σ _;rfl
 |cons t tr ih=>
  intro m σ h
  simp only[cS]
  grind
theorem GU{D:Nat->Bool}{i:Nat}{t:Tr}:∀ (tr:List Tr) (m:Nat) (σ:St),(m<=i)->tr[i-m]?=some t->D i=false->(∀ k s,i<k->D k=true->m<=k->tr[k-m]?=some s->iV s t)->
 cS (λk=>D k||Nat.beq k i) tr m σ=t.U (cS D tr m σ):=by
 have Jr:∀ (tr:List Tr) (m:Nat) (σ:St),i<m->(∀ k s,D k=true->m<=k->tr[k-m]?=some s->iV s t)->cS (λk=>D k||Nat.beq k i) tr m (t.U σ)=t.U (cS D tr m σ):=by
  intro tr
  induction tr with
  |nil=>intro m σ _ _;rfl
  |cons s tr ih=>
   intro m σ hm ha
   have hne:Nat.beq m i=false:=by grind [Nat.eq_of_beq_eq_true]
   simp only[cS,hne,jz]
   cases hD:D m
   ·grind
   ·simp only[cond_true]
    rw[Rn (ha m s hD (aw _) (by simp))]
    exact ih (m+1) _ (by omega) (λk s' h1 h2 h3=>ha k s' h1 (by omega) (by rw[show k-m=(k-(m+1))+1 by omega];exact h3))
 intro tr
 induction tr with
 |nil=>intro m σ _ h;simp at h
 |cons s tr ih=>
  intro m σ hm ht hD ha
  by_cases e:m=i
  ·subst e
   simp at ht
   subst ht
   simp only[cS,hD,fc,cP,cond_true,cond_false]
   exact Jr tr (m+1) σ (cH _) (λk s' h1 h2 h3=>ha k s' (by omega) h1 (by omega) (by rw[show k-m=(k-(m+1))+1 by omega];exact h3))
  ·have hne:Nat.beq m i=false:=by
    cases hb:Nat.beq m i
    ·rfl
    ·exact absurd (bI hb) e
   simp only[cS,hne,jz]
   exact ih (m+1) _ (by omega) (by rw[show i-m=(i-(m+1))+1 by omega]at ht;exact ht) hD (λk s' h0 h1 h2 h3=>ha k s' h0 h1 (by omega) (by rw[show k-m=(k-(m+1))+1 by omega];exact h3))
theorem Js{D:Nat->Bool}{i:Nat}{t:Tr}:∀ (tr:List Tr) (m:Nat) (σ1 σ2:St),m<=i->i-m<=tr.length->Ag t σ1 σ2->D i=false->(∀ k s,m<=k->k<i->D k=false->tr[k-m]?=some s->iV s t)->(∀ k s,i<k->D k=true->tr[k-m]?=some s->iV s t)->
 Ag t (cS D tr m σ1) (cS (λ_=>true) (tr.take (i-m)) m σ2):=by
 have Jr:∀ (tr:List Tr) (m:Nat) (σ1:St),i<m->(∀ k s,m<=k->D k=true->tr[k-m]?=some s->iV s t)->Ag t (cS D tr m σ1) σ1:=by
  intro tr
  induction tr with
  |nil=>intro m σ1 _ _;exact Ag.refl _ _
  |cons s tr ih=>
   intro m σ1 hm ha
   simp only[cS]
   have hs:∀ k s',m+1<=k->D k=true->tr[k-(m+1)]?=some s'->iV s' t:=λk s' h1 h2 h3=>ha k s' (by omega) h2 (by rw[show k-m=(k-(m+1))+1 by omega];exact h3)
   cases hD:D m
   ·grind
   ·exact(ih (m+1) _ (by omega) hs).trans (Ag.one (ha m s (aw _) hD (by simp)))
 intro tr
 induction tr with
 |nil=>intro m σ1 σ2 _ _ h _ _ _;simpa [cS]using h
 |cons s tr ih=>
  intro m σ1 σ2 hm hl h hD h1 h2
  by_cases e:m=i
  ·subst e
   simp only[Nat.sub_self,List.take_zero,cS,hD,cond_false]
   exact(Jr tr (m+1) σ1 (cH _) (λk s' q1 q2 q3=>h2 k s' (by omega) q2 (by rw[show k-m=(k-(m+1))+1 by omega];exact q3))).trans h
  ·rw[show i-m=(i-(m+1))+1 by omega,List.take_succ_cons]
   simp only[cS,cond_true]
   refine ih (m+1) _ _ (by omega) (by simp at hl;omega) ?_ hD (λk s' q1 q2 q3 q4=>h1 k s' (by omega) q2 q3 (by rw[show k-m=(k-(m+1))+1 by omega];exact q4)) (λk s' q1 q2 q3=>h2 k s' q1 q2 (by rw[show k-m=(k-(m+1))+1 by omega];exact q3))
   cases hDm:D m
   ·exact h.trans (Ag.one (h1 m s (aw _) (by omega) hDm (by simp))).symm
   ·exact h.both
end
def ko(V:Env)(t:Tr):Prop:=∀ {P:Program} {B:dD} {σ:St} {a:Act} {w:World} {Q:Exit->Act->World->Prop},fT P V->Inv B σ a w->(∀ d,t.o.dst=some d->d<B.N)->Ag t σ t.st->t.o.wp P a w (λa' w'=>Inv B (t.U σ) a' w') Q
structure GoodP(V:Env)(ops:List Oper)(tr:List Tr)(σ0:St):Prop where
 op:∀ (i:Nat) (t:Tr),tr[i]?=some t->ops[i]?=some t.o
 st:∀ (i:Nat) (t:Tr),tr[i]?=some t->t.st=cS (λ_=>true) (tr.take i) 0 σ0
 gv:∀ (i:Nat) (t:Tr),tr[i]?=some t->uI t.st ops t.o=some t.run/\∀ s∈cD ops t.o,s∈t.re
 run:∀ (i:Nat) (t:Tr),tr[i]?=some t->t.run=true->ko V t
 skip:∀ (i:Nat) (t:Tr),tr[i]?=some t->t.run=false->∀ σ,σ.bT t.o.dst (.cst undef)=t.U σ
 GV:∀ (i:Nat) (t:Tr) (e:Edge),tr[i]?=some t->e∈t.o.after->Region.binds .any e=true->e.on<i
 anc:∀ (i:Nat) (t:Tr) (m:Nat),tr[i]?=some t->m∈t.anc->m<i/\∃ e:Edge,e∈t.o.after/\Region.binds .any e=true/\(m=e.on\/∃ s:Tr,tr[e.on]?=some s/\m∈s.anc)
 apart:∀ (i j:Nat) (s t:Tr),i<j->tr[i]?=some s->tr[j]?=some t->i∉t.anc->iV s t
 wE:∀ (i:Nat) (t:Tr) (σ':St),tr[i]?=some t->t.wh=some σ'->∀ j,t.o.dst≠some j->σ'.E j=t.st.E j
structure Good(V:Env)(ops:List Oper)(tr:List Tr)(σ0:St):Prop extends GoodP V ops tr σ0 where
 len:tr.length=ops.length
section
variable {P:Program} {B:dD} {V:Env} {ops:Array Oper} {tr:List Tr} {σ0:St}
theorem Jt{σ σ':St}{ops:List Oper}{o:Oper}(h:∀ s∈cD ops o,σ.E s=σ'.E s):uI σ ops o=uI σ' ops o:=by grind [cD,uI]
theorem Nk{σ:St}{a:Act}{w:World}(h:Inv B σ a w){o:Oper}{b:Bool}(hg:uI σ ops.toList o=some b):Region.wanted o (yielded ops a.tmps)=b:=by
 obtain⟨F,Sg,cg,h⟩:=h
 unfold uI at hg
 unfold Region.wanted
 split at hg
 ·simp_all
 ·rename_i j want hg'
  rw[hg']
  simp only
  cases hs:qa ops.toList j with
  |none=>rw[hs]at hg;cases hg
  |some s=>
  rw[hs]at hg
  simp only at hg
  split at hg
  ·rename_i b' hE
   have hv:=jN (L:=σ.L) (U:=σ.U) (cg:=cg) (h.ent s _ hE)
   rw[lU hs hv]
   have hg:=dz hg
   rw[<-hg]
   cases b' <;> cases want <;> rfl
  ·rename_i v hE
   have hv:a.tmps.getD s undef=v:=h.ent s _ hE
   split at hg
   ·rename_i b'
    rw[lU hs hv]
    have hg:=dz hg
    rw[<-hg]
    cases b' <;> cases want <;> rfl
   ·rename_i hnb
    rw[sP hs (λb hb=>by rw[hv]at hb;exact hnb b hb)]
    have hg:=dz hg
    rw[<-hg]
    rfl
  ·cases hg
theorem CX{σ σ':St}:∀ {ts:List Nat},(∀ t∈ts,σ.E t=σ'.E t)->jV σ ts=jV σ' ts:=by
 intro ts
 induction ts with
 |nil=>intro _;rfl
 |cons t ts ih=>intro h;simp only[jV];rw[h t (by simp),ih (λt ht=>h t (by simp[ht]))]
theorem Az{σ σ':St}{o:Oper}(h:∀ t∈looks o,σ.E t=σ'.E t):fN σ o=fN σ' o:=by grind [fN,CX]
theorem Ju{t:Nat}{l:List Nat}(h:gG t l=true):t∈l:=uC h
theorem GW{σ σ':St}{o:Oper}(h:∀ t∈looks o,σ.E t=σ'.E t)(hl:∀ l,fN σ' o l=true->σ.L l=σ'.L l/\σ.U l=σ'.U l):nh σ o=nh σ' o:=by
 unfold nh
 rw[Az h]
 have e1:(λt=>bif gG t (looks o)then σ.E t else none)=λt=>bif gG t (looks o)then σ'.E t else none:=by grind [Ju]
 have e2:jc σ.L (fN σ' o)=jc σ'.L (fN σ' o):=by grind [jc]
 have e3:jd σ.U (fN σ' o)=jd σ'.U (fN σ' o):=by grind [jd]
 rw[e1,e2,e3]
theorem ko.of{t:Tr}(h:(∀ x∈looks t.o,x∈t.re)/\(∀ l,fN t.st t.o l=true->t.TR l=true)/\calm V t.o=true/\∃ σ',opD V (nh t.st t.o) t.o some=some σ'/\lY (fN t.st t.o) t.o.dst σ'=true/\∀ σ,Ag t σ t.st->qc (fN t.st t.o) t.o.dst σ σ'=t.U σ):ko V t:=by
 intro P B σ a w Q hV hi hd hag
 obtain⟨r1,r2,r3,σ',r4,r5,r6⟩:=h
 have hlk:∀ x∈looks t.o,σ.E x=t.st.E x:=λx hx=>hag.1 x (r1 x hx)
 have hre:=GW hlk (λl hl=>hag.2 l (r2 l hl))
 have hvi:=Az hlk
 grind [Uf]
def mvE(σ:St)(o:Oper):Option ar:=match o.op with
 |.move (.tmp t)|.assign (.tmp t)=>(match σ.E t with
  |some (.one (.hdr l n p c))=>some (.hdr l n p c)
  |some (.one (.adr l n p c))=>some (.adr l n p c)
  |_=>none)
 |_=>none
theorem Ro{σ:St}{o:Oper}{e:ar}(h:mvE σ o=some e):∃ x,(o.op=.move (.tmp x)\/o.op=.assign (.tmp x))/\looks o=[x]/\σ.E x=some (.one e)/\coN e=e:=by
 unfold mvE at h
 split at h
 ·rename_i x ho
  refine⟨x,.inl ho,by unfold looks;rw[ho];rfl,?_⟩
  split at h
  ·rename_i hx;injection h with h;rw[<-h];exact⟨hx,rfl⟩
  ·rename_i hx;injection h with h;rw[<-h];exact⟨hx,rfl⟩
  ·cases h
 ·rename_i x ho
  refine⟨x,.inr ho,by unfold looks;rw[ho];rfl,?_⟩
  split at h
  ·rename_i hx;injection h with h;rw[<-h];exact⟨hx,rfl⟩
  ·rename_i hx;injection h with h;rw[<-h];exact⟨hx,rfl⟩
  ·cases h
 ·cases h
theorem ko.wh{t:Tr}{σ':St}(hw:t.wh=some σ')(hk:rE V t.st t.o some=some σ'):ko V t:=by
 intro P B σ a w Q hV hi hd hag
 have e:σ=t.st:=hag.w (by rw[hw];rfl)
 subst e
 obtain⟨F,Sg,cg,hg⟩:=hi
 refine Oper.oD (Q:=Q) (yc hV hg hd hk) (λa' w' hp=>?_) (λ_ _ _ h=>h)
 obtain⟨rK,q1,q2,_⟩:=hp
 grind [Tr.U]
def mkE(V:Env)(o:Oper):Option (Nat×Lab):=
 match o.op with
 |.makeMap t none=>(match o.dst with
  |some d=>mX V t λk q=>some (d,⟨0,.map k (.int q),.own .ro,[]⟩)
  |none=>none)
 |_=>none
theorem Jv{o:Oper}{d:Nat}{b:Lab}(h:mkE V o=some (d,b)):o.dst=some d/\∀ σ:St,σ.U (d*8)=false->rE V σ o some=some (σ.mk' σ.L (d*8) d b):=by
 unfold mkE at h
 split at h
 case h_2=>cases h
 rename_i t ho
 split at h
 case h_2=>cases h
 rename_i d' hd
 have hb:∀ {R:Type} (K:Ty->IntKind->Option R),mX V t K=(mX V t λk q=>some (k,q)).bind λp=>K p.1 p.2:=by
  intro R K
  unfold mX
  repeat' split
  all_goals rfl
 rw[hb]at h
 obtain⟨p,hp,h⟩:=b9.1 h
 injection h with h
 injection h with h1 h2
 subst h1
 simp_all [rE]
theorem ko.mk{t:Tr}{d:Nat}{b:Lab}(h:mkE V t.o=some (d,b))(hU:t.st.U (d*8)=false)(hT:t.TR (d*8)=true)(hu:∀ σ:St,σ.mk' σ.L (d*8) d b=t.U σ):ko V t:=by
 intro P B σ a w Q hV hi hd hag
 obtain⟨h1,h2⟩:=Jv h
 have hU':σ.U (d*8)=false:=by rw[(hag.l _ hT).2];exact hU
 obtain⟨F,Sg,cg,hg⟩:=hi
 refine Oper.oD (Q:=Q) (yc hV hg hd (h2 σ hU')) (λa' w' hp=>?_) (λ_ _ _ h=>h)
 obtain⟨rK,q1,q2,_⟩:=hp
 simp_all
theorem ko.mv{t:Tr}{e:ar}(h:mvE t.st t.o=some e)(hre:∀ x∈looks t.o,x∈t.re)(hU:∀ σ:St,σ.bT t.o.dst e=t.U σ):ko V t:=by
 intro P B σ a w Q hV hi hd hag
 obtain⟨x,hx,hl,hE,hco⟩:=Ro h
 have hE':σ.E x=some (.one e):=by rw[hag.1 x (hre x (by rw[hl];simp))];exact hE
 have hk:opK V σ t.o some=some (t.U σ):=by grind [opK,Cz,opd]
 obtain⟨F,Sg,cg,hg⟩:=hi
 refine Oper.oD (Q:=Q) (CA hV hg hd hk) (λa' w' hp=>?_) (λ_ _ _ h=>h)
 obtain⟨σ',q1,q2,_⟩:=hp
 simp_all
theorem GX{p p':Nat->Bool}:∀ {l:List Nat} {i:Nat},(∀ k,p' k=true->p k=true)->i∈l->p i=true->p' i=false->l.countP p' < l.countP p:=by
 intro l
 induction l with
 |nil=>intro i _ h;simp at h
 |cons x xs ih=>
  intro i hp hi h1 h2
  have hle:xs.countP p'<=xs.countP p:=List.countP_mono_left (λk _ h=>hp k h)
  grind
theorem Nl(G:Good V ops.toList tr σ0)(hV:fT P V)(hN:mY B.N ops.toList=true){Q:Exit->Act->World->Prop}(hQ:∀ a w,Inv B (cS (λ_=>true) tr 0 σ0) a w->Q .normal a w):
 ∀ (bZ:Nat) (listed:Array Bool) (a:Act) (w:World),listed.size=ops.size->(∀ (i:Nat) (t:Tr) (e:Edge),tr[i]?=some t->listed.getD i false=true->e∈t.o.after->Region.binds .any e=true->listed.getD e.on false=true)->(List.range ops.size).countP (λk=>!listed.getD k false)<=bZ->
  Inv B (cS (λk=>listed.getD k false) tr 0 σ0) a w->wpAny P .any ops Q bZ listed a w:=by
 have hlen:tr.length=ops.size:=by rw[G.len];simp
 have Ug:∀ i:Nat,i<ops.size->∃ t,tr[i]?=some t:=λi hi=>⟨tr[i]'(by omega),by simp[show i<tr.length by omega]⟩
 have Uh:∀ (i:Nat) (t:Tr),tr[i]?=some t->ops[i]?=some t.o:=λi t h=>by rw[<-Array.getElem?_toList];exact G.op i t h
 have I7:∀ (i:Nat) (t:Tr),tr[i]?=some t->∀ d,t.o.dst=some d->d<B.N:=λi t h=>by
  have:∀ l:List Oper,mY B.N l=true->∀ o∈l,∀ d,o.dst=some d->d<B.N:=by
   intro l
   induction l with
   |nil=>intro _ o ho;simp at ho
   |cons x l ihl=>
    intro hl o ho d hd
    simp only[mY,ag]at hl
    rcases aI.1 ho with rfl|ho
    ·simp_all
    grind
  exact this _ hN _ (List.mem_of_getElem? (G.op i t h))
 -- nothing ready:all done
 have done:∀ (listed:Array Bool) (a:Act) (w:World),listed.size=ops.size->Region.ready .any ops listed=[]->Inv B (cS (λk=>listed.getD k false) tr 0 σ0) a w->Q .normal a w:=by
  intro listed a w hs hr h
  have all:∀ k,k<ops.size->listed.getD k false=true:=by
   intro k
   induction k using Nat.strongRecOn with
   |_ k ih=>
    intro hk
    cases hl:listed.getD k false with
    |true=>rfl
    |false=>
     exfalso
     obtain⟨t,ht⟩:=Ug k hk
     have:k∈Region.ready .any ops listed:=by
      rw[mem_ready]
      refine⟨?_,t.o,Uh k t ht,λe he hb=>?_⟩
      ·simp_all
      ·have:=G.GV k t e ht he hb
       grind
     simp_all
  grind [rO]
 intro bZ
 induction bZ with
 |zero=>
  intro listed a w hs hcl hc h
  have hr:Region.ready .any ops listed=[]:=by
   cases hr:Region.ready .any ops listed with
   |nil=>rfl
   |cons i is=>
    exfalso
    have hm:i∈Region.ready .any ops listed:=by rw[hr];simp
    obtain⟨h1,o,h2,_⟩:=mem_ready.1 hm
    have hi:i<ops.size:=(Array.getElem?_eq_some_iff.1 h2).1
    have:0<(List.range ops.size).countP (λk=>!listed.getD k false):=by
     rw[List.countP_pos_iff]
     refine⟨i,by simpa using hi,?_⟩
     rw[Array.getD_eq_getD_getElem?]at h1 |-
     simp[show i<listed.size by omega]at h1 |-
     exact h1
    omega
  exact⟨hr,done listed a w hs hr h⟩
 |succ bZ ih=>
  intro listed a w hs hcl hc h
  refine⟨λhr=>done listed a w hs hr h,λi hi=>?_⟩
  obtain⟨h1,o,h2,h3⟩:=mem_ready.1 hi
  have Ui:i<ops.size:=(Array.getElem?_eq_some_iff.1 h2).1
  obtain⟨t,ht⟩:=Ug i Ui
  have hot:=Uh i t ht
  have hlf:listed.getD i false=false:=by
   rw[Array.getD_eq_getD_getElem?]at h1 |-
   simp[show i<listed.size by omega]at h1 |-
   exact h1
  -- MM is listed is closed
  have AA:∀ (j:Nat) (s:Tr),tr[j]?=some s->(∀ e:Edge,e∈s.o.after->Region.binds .any e=true->listed.getD e.on false=true)->∀ m∈s.anc,listed.getD m false=true:=by
   intro j
   induction j using Nat.strongRecOn with
   |_ j ihj=>
    intro s hs' he m hm
    obtain⟨_,e,q1,q2,q3⟩:=G.anc j s m hs' hm
    rcases q3 with rfl|⟨s2,q4,q5⟩
    ·exact he e q1 q2
    ·exact ihj e.on (G.GV j s e hs' q1 q2) s2 q4 (λe2 he2 hb2=>hcl e.on s2 e2 q4 (he e q1 q2) he2 hb2) m q5
  have hti:t.o=o:=by rw[hot]at h2;injection h2
  have Uj:∀ m∈t.anc,listed.getD m false=true:=AA i t ht (λe he hb=>h3 e (hti ▸ he) hb)
  have Uk:∀ (k:Nat) (s:Tr),tr[k]?=some s->listed.getD k false=true->i∉s.anc:=λk s hk hl hm=>by
   have:=AA k s hk (λe he hb=>hcl k s e hk hl he hb) i hm
   rw[hlf]at this;cases this
  have WC:∀ (k:Nat) (s:Tr),0<=k->k<i->listed.getD k false=false->tr[k-0]?=some s->iV s t:=λk s _ hk hl hsk=>G.apart k i s t hk hsk ht (λhm=>by rw[Uj k hm]at hl;cases hl)
  have Ul:∀ (k:Nat) (s:Tr),i<k->listed.getD k false=true->tr[k-0]?=some s->iV s t:=λk s hk hl hsk=>(G.apart i k t s hk ht hsk (Uk k s hsk hl)).symm
  have hag:Ag t (cS (λk=>listed.getD k false) tr 0 σ0) t.st:=by
   rw[G.st i t ht]
   exact Js tr 0 σ0 σ0 (az _) (by omega) (Ag.refl _ _) hlf WC Ul
  have CF:cS (λk=>(listed.setIfInBounds i true).getD k false) tr 0 σ0=t.U (cS (λk=>listed.getD k false) tr 0 σ0):=by
   rw[<-GU (D:=λk=>listed.getD k false) tr 0 σ0 (az _) (by simpa using ht) hlf (λk s h1 h2 _ h4=>Ul k s h1 h2 h4)]
   refine rO tr 0 σ0 (λk _ hk=>?_)
   by_cases e:k=i
   ·subst e
    simp[show k<listed.size by omega,fc]
   ·rw[getD_set_ne false (Ne.symm e)]
    have:Nat.beq k i=false:=by
     cases hb:Nat.beq k i
     ·rfl
     ·exact absurd (bI hb) e
    simp only[this,jz]
  have next:∀ a' w',Inv B (t.U (cS (λk=>listed.getD k false) tr 0 σ0)) a' w'->wpAny P .any ops Q bZ (listed.setIfInBounds i true) a' w':=by
   intro a' w' h'
   refine ih (listed.setIfInBounds i true) a' w' (by simpa using hs) ?_ ?_ (by rw[CF];exact h')
   ·intro j s e hj hl he hb
    by_cases e':j=i
    ·subst e'
     have:s=t:=by rw[ht]at hj;injection hj with hj;exact hj.symm
     subst this
     have hlt:=G.GV j s e ht he hb
     rw[getD_set_ne false (by omega)]
     exact h3 e (hti ▸ he) hb
    ·rw[getD_set_ne false (Ne.symm e')]at hl
     exact getD_set_true (hcl j s e hj hl he hb)
   ·have:=GX (p:=λk=>!listed.getD k false) (p':=λk=>!(listed.setIfInBounds i true).getD k false) (l:=List.range ops.size) (i:=i) (λk hk=>by
     cases hl:listed.getD k false with
     |false=>rfl
     |true=>rw[getD_set_true hl]at hk;simp at hk) (by simpa using Ui) (by simp only[hlf];rfl) (by simp[show i<listed.size by omega])
    omega
  have hgv:=G.gv i t ht
  have hgs:uI (cS (λk=>listed.getD k false) tr 0 σ0) ops.toList t.o=some t.run:=by
   rw[Jt (σ':=t.st) (λs hs=>hag.1 s (hgv.2 s hs))];exact hgv.1
  have hw:=Nk h hgs
  unfold wpOp
  rw[hot]
  simp only
  cases bX:t.run with
  |true=>
   rw[bX]at hw
   rw[if_pos hw]
   left
   exact Oper.oD (Q:=Q) (G.run i t ht bX hV h (I7 i t ht) hag) (λa' w' hp=>next a' w' hp) (λ_ _ _ h=>h)
  |false=>
   rw[bX]at hw
   rw[if_neg (by rw[hw];simp)]
   refine next _ _ ?_
   rw[<-G.skip i t ht bX]
   obtain⟨F,Sg,cg,h⟩:=h
   exact h.bT (I7 i t ht) (e:=.cst undef) rfl
end
structure Fp where
 v:Bool
 re:List Nat
 dst:Option Nat
 ks:List Nat
 b:Bool:=false
def Eu(d:Option Nat)(l:List Nat):Bool:=match d with|some d=>!gG d l|none=>true
def rP(k:Nat)(d:Option Nat):Bool:=match d with|some d=>!Nat.beq (k / 8) d|none=>true
def Jw(ks2:List Nat)(d2:Option Nat):List Nat->Bool
 |[]=>true
 |k::ks=>(!gG k ks2&&rP k d2)&&Jw ks2 d2 ks
def Jx(d1:Option Nat):List Nat->Bool
 |[]=>true
 |k::ks=>rP k d1&&Jx d1 ks
def neO(d d':Option Nat):Bool:=match d,d' with|some d,some d'=>!Nat.beq d d'|_,_=>true
def Um(f g:Fp):Bool:=Eu f.dst g.re&&(Eu g.dst f.re&&(neO f.dst g.dst&&((f.v&&g.v)||(Jw g.ks g.dst f.ks&&Jx f.dst g.ks))))
def yj(f g:Fp):Bool:=!(f.b||g.b)&&Um f g
def kp(fp:Fp)(an:List Nat):List (Fp×List Nat)->Nat->Bool
 |[],_=>true
 |p::ps,j=>(gG j an||yj p.1 fp)&&kp fp an ps (j+1)
def qf(i:Nat):List Edge->Bool
 |[]=>true
 |e::es=>(!Region.binds .any e||Nat.blt e.on i)&&qf i es
def Ev{R:Type}(n:Nat)(k:Nat->R):R:=Nat.rec (k 0) (λm _=>k (m+1)) n
def jl{R:Type}:List Nat->(List Nat->R)->R
 |[],k=>k []
 |x::xs,k=>Ev x λx=>jl xs λxs=>k (x::xs)
theorem CY{R:Type}(n:Nat)(k:Nat->R):Ev n k=k n:=by cases n <;> rfl
theorem px{R:Type}:∀ (l:List Nat) (k:List Nat->R),jl l k=k l
 |[],_=>rfl
 |x::xs,k=>by rw[jl,CY,px xs]
def Jy:List Nat->List Nat->List Nat
 |[],l=>l
 |x::xs,l=>bif gG x l then Jy xs l else x::Jy xs l
theorem uJ{m:Nat}:∀ {xs l:List Nat},m∈Jy xs l->m∈xs\/m∈l
 |[],l,h=>.inr h
 |x::xs,l,h=>by
  simp only[Jy]at h
  cases hb:gG x l
  ·rw[hb]at h
   simp only[cond_false,aI]at h
   rcases h with h|h
   ·simp_all
   ·exact(uJ h).imp (λh=>by simp[h]) id
  ·rw[hb]at h
   exact(uJ h).imp (λh=>by simp[h]) id
def ez(acc:List (Fp×List Nat)):List Edge->List Nat
 |[]=>[]
 |e::es=>bif Region.binds .any e then jl (ez acc es) λr=>bif gG e.on r then r else e.on::Jy (match acc[e.on]? with|some p=>p.2|none=>[]) r else ez acc es
def uK(V:Env)(σ:St)(o:Oper)(σ':St):St:=bif isV V o then⟨o0 σ.E o.dst σ'.E,σ.L,σ.U⟩else qc (fN σ o) o.dst σ σ'
def ll{R:Type}(V:Env)(ops:List Oper):List Oper->Nat->List (Fp×List Nat)->St->(St->Option R)->Option R
 |[],_,_,σ,K=>K σ
 |o::rest,i,acc,σ,K=>
  bif qf i o.after.toList then
   rI σ ops o
    (λσ1=>match mvE σ1 o with
     |some e=>jl (ez acc o.after.toList) λan=>bif kp ⟨true,cD ops o++looks o,o.dst,[],false⟩ an acc 0 then
      ll V ops rest (i+1) (acc++[(⟨true,cD ops o++looks o,o.dst,[],false⟩,an)]) (σ1.bT o.dst e) K else none
     |none=>bif jk V.TT o.op then jl (ez acc o.after.toList) λan=>(match mkE V o with
      |some p=>bif σ1.U (p.1*8)then none else bif kp ⟨false,cD ops o,o.dst,[],false⟩ an acc 0 then
       ll V ops rest (i+1) (acc++[(⟨false,cD ops o,o.dst,[],false⟩,an)]) (σ1.mk' σ1.L (p.1*8) p.1 p.2) K else none
      |none=>bif kp ⟨false,cD ops o,o.dst,[],true⟩ an acc 0 then
       rE V σ1 o λσ'=>ll V ops rest (i+1) (acc++[(⟨false,cD ops o,o.dst,[],true⟩,an)]) σ' K else none)
     else jl (ez acc o.after.toList) λan=>jl (jV σ1 (looks o)) λks=>bif calm V o&&kp ⟨isV V o,cD ops o++looks o,o.dst,ks,false⟩ an acc 0 then
     opD V (nh σ1 o) o λσ'=>bif lY (fN σ1 o) o.dst σ' then
      ll V ops rest (i+1) (acc++[(⟨isV V o,cD ops o++looks o,o.dst,ks,false⟩,an)]) (uK V σ1 o σ') K else none
     else none)
    (λσ1=>jl (ez acc o.after.toList) λan=>bif kp ⟨true,cD ops o,o.dst,[],false⟩ an acc 0 then
     ll V ops rest (i+1) (acc++[(⟨true,cD ops o,o.dst,[],false⟩,an)]) (σ1.bT o.dst (.cst undef)) K else none)
  else none
section
variable {R:Type} {V:Env}
def Tr.fp(V:Env)(t:Tr):Fp:=bif t.run then(match mvE t.st t.o with|some _=>⟨true,t.re,t.o.dst,[],false⟩|none=>bif jk V.TT t.o.op then⟨false,t.re,t.o.dst,[],t.wh.isSome⟩else⟨isV V t.o,t.re,t.o.dst,jV t.st (looks t.o),false⟩)else⟨true,t.re,t.o.dst,[],false⟩
theorem Tr.CZ(t:Tr):(t.fp V).dst=t.o.dst:=by
 unfold Tr.fp;cases t.run
 ·rfl
 grind
theorem Tr.Qe(t:Tr):(t.fp V).re=t.re:=by
 unfold Tr.fp;cases t.run
 ·rfl
 grind
theorem Jz{ks2:List Nat}{d2:Option Nat}{ks:List Nat}(h:Jw ks2 d2 ks=true){k:Nat}(hk:gG k ks=true):gG k ks2=false/\rP k d2=true:=by
 induction ks with
 |nil=>cases hk
 |cons x xs ih=>
  simp only[Jw,ag,bC]at h
  simp only[gG,aJ]at hk
  grind [Nat.eq_of_beq_eq_true]
theorem JA{d1:Option Nat}{ks:List Nat}(h:Jx d1 ks=true){k:Nat}(hk:gG k ks=true):rP k d1=true:=by
 induction ks with
 |nil=>cases hk
 |cons x xs ih=>
  simp only[Jx,ag]at h
  simp only[gG,aJ]at hk
  grind [Nat.eq_of_beq_eq_true]
theorem Ew{t:Nat}{l:List Nat}(h:t∈l):gG t l=true:=by
 induction l with
 |nil=>simp at h
 |cons x xs ih=>
  simp only[gG,aJ]
  grind [Nat.beq_refl]
theorem JB{ks1 ks2:List Nat}{d1 d2:Option Nat}(h1:Jw ks2 d2 ks1=true)(h2:Jx d1 ks2=true)(hd:neO d1 d2=true){l:Nat}(v1:wk ks1 d1 l=true)(v2:wk ks2 d2 l=true):False:=by
 unfold wk at v1 v2
 simp only[aJ]at v1 v2
 rcases v1 with v1|v1
 ·obtain⟨q1,q2⟩:=Jz h1 v1
  grind [rP]
 ·cases d1 with
  |none=>cases v1
  |some d1=>
   simp only at v1
   rcases v2 with v2|v2
   ·have q:=JA h2 v2
    grind [rP]
   grind [neO,Nat.eq_of_beq_eq_true]
structure Loc(V:Env)(t:Tr):Prop where
 t1:∀ l,t.T l=true->(t.fp V).v=false/\wk (t.fp V).ks t.o.dst l=true
 t2:∀ l,t.TR l=true->wk (t.fp V).ks t.o.dst l=true
 t3:(t.fp V).b=false->t.wh=none
theorem JC{s t:Tr}(hs:Loc V s)(ht:Loc V t)(h:yj (s.fp V) (t.fp V)=true):iV s t:=by
 unfold yj Um at h
 simp only[ag,aJ,bC,gr]at h
 obtain⟨⟨hb1,hb2⟩,h1,h2,h3,h4⟩:=h
 have dis:∀ l,((s.fp V).v=false\/(t.fp V).v=false)->wk (s.fp V).ks s.o.dst l=true->wk (t.fp V).ks t.o.dst l=true->False:=by grind [JB,Tr.CZ]
 refine⟨λd hd hm=>?_,λd hd hm=>?_,λd hd hd'=>?_,λl a b=>dis l (.inl (hs.t1 l a).1) (hs.t1 l a).2 (ht.t2 l b),λl a b=>dis l (.inr (ht.t1 l a).1) (hs.t2 l b) (ht.t1 l a).2,λl a b=>dis l (.inl (hs.t1 l a).1) (hs.t1 l a).2 (ht.t1 l b).2,hs.t3 hb1,ht.t3 hb2⟩
 ·grind [Tr.CZ,Eu,Ew,Tr.Qe]
 all_goals simp_all [Tr.CZ,Eu,Ew,Tr.Qe,neO]
theorem GY{fp:Fp}{an:List Nat}:∀ {acc:List (Fp×List Nat)} {j:Nat},kp fp an acc j=true->∀ k p,acc[k]?=some p->j+k∉an->yj p.1 fp=true:=by
 intro acc
 induction acc with
 |nil=>intro j _ k p h;simp at h
 |cons q acc ih=>
  intro j h k p hk hn
  simp only[kp,ag,aJ]at h
  grind [uC]
theorem AB{i:Nat}{es:List Edge}(h:qf i es=true):∀ e∈es,Region.binds .any e=true->e.on<i:=by
 induction es with
 |nil=>intro e he;simp at he
 |cons x xs ih=>
  intro e he hb
  simp only[qf,ag,aJ,bC]at h
  rcases aI.1 he with rfl|he
  all_goals simp_all
theorem GZ{acc:List (Fp×List Nat)}{es:List Edge}{m:Nat}(h:m∈ez acc es):∃ e,e∈es/\Region.binds .any e=true/\(m=e.on\/∃ p,acc[e.on]?=some p/\m∈p.2):=by
 induction es with
 |nil=>simp[ez]at h
 |cons x xs ih=>
  simp only[ez]at h
  cases hb:Region.binds .any x
  ·simp_all
  ·rw[hb]at h
   simp only[cond_true,px]at h
   have tail:m∈ez acc xs->∃ e,e∈x::xs/\Region.binds .any e=true/\(m=e.on\/∃ p,acc[e.on]?=some p/\m∈p.2):=λh=>by simp_all
   cases hm:gG x.on (ez acc xs)
   ·rw[hm]at h
    simp only[cond_false,aI]at h
    rcases h with h|h
    ·simp_all
    ·rcases uJ h with h|h
     all_goals grind
   simp_all
theorem AD{σ:St}{ops:List Oper}{o:Oper}{Ky Kn:St->Option R}{r:R}(hk:rI σ ops o Ky Kn=some r):(uI σ ops o=some true/\Ky σ=some r)\/(uI σ ops o=some false/\Kn σ=some r):=by
 unfold rI at hk
 grind [uI,wO]
end
section
variable {R:Type} {V:Env} {ops:List Oper} {σ0:St}
theorem iA{D:Nat->Bool}:∀ (tr:List Tr) (m:Nat) (σ:St) (t:Tr),cS D (tr++[t]) m σ=bif D (m+tr.length)then t.U (cS D tr m σ)else cS D tr m σ:=by
 intro tr
 induction tr with
 |nil=>intro m σ t;simp only[cm,cS,bn,ik]
 |cons s tr ih=>grind [cS]
theorem ga{tr:List Tr}{t:Tr}{i:Nat}{s:Tr}(h:(tr++[t])[i]?=some s):(i<tr.length/\tr[i]?=some s)\/(i=tr.length/\s=t):=by grind
theorem cJ{tr:List Tr}{t:Tr}{i:Nat}(h:i<=tr.length):(tr++[t]).take i=tr.take i:=kG h
section
variable {R':Type} (G:R->Option R')
theorem jG(V:Env)(t:TypeId)(K:Ty->IntKind->Option R):(mX V t K).bind G=mX V t λa b=>(K a b).bind G:=by
 unfold mX
 repeat' split
 all_goals rfl
theorem wY(σ:St)(e:ar)(k v:Ty)(K:List (k.T×v.T)->Option R):(x9 σ e k v K).bind G=x9 σ e k v λx=>(K x).bind G:=by
 unfold x9
 grind [eL,bY]
theorem rQ(σ:St)(e:ar)(k v:Ty)(K:Nat->Lab->List Stp->List (k.T×v.T)->Option R):(wi σ e k v K).bind G=wi σ e k v λl b π x=>(K l b π x).bind G:=by
 unfold wi
 split
 ·rw[eL]
  grind
 ·rfl
theorem ni(σ:St)(l:Nat)(b:Lab)(π:List Stp)(k v:Ty)(y:List (k.T×v.T))(K:St->Option R):(kw σ l b π k v y K).bind G=kw σ l b π k v y λx=>(K x).bind G:=by grind [kw,oF]
theorem G0(V:Env)(σ:St)(o:Oper)(K:St->Option R):(rE V σ o K).bind G=rE V σ o λx=>(K x).bind G:=by
 unfold rE
 split
 ·split
  all_goals simp[jG,aM]
 ·rw[jG]
  congr 1
  funext k q
  split
  ·split
   all_goals grind [wY,bY]
  ·rfl
 ·rw[jG]
  congr 1
  funext k q
  split
  ·split
   ·split
    all_goals simp[rQ,bY,ni]
   ·rfl
  ·rfl
 ·rw[jG]
  congr 1
  funext k q
  split
  ·split
   all_goals simp[rQ,bY,aM,ni]
  ·rfl
 ·rw[jG]
  congr 1
  funext k q
  split
  ·split
   ·split
    all_goals simp[rQ,bY,aM,ni]
   ·rfl
  ·rfl
 ·split
  ·rw[jG]
   congr 1
   funext k q
   split
   all_goals simp[wY,aM]
  ·rfl
 ·rfl
end
theorem Rp{V:Env}{σ σ':St}{o:Oper}(h:rE V σ o some=some σ'):∀ j,o.dst≠some j->σ'.E j=σ.E j:=by
 have sv:∀ (σ1:St) (e:ar),σ1.E=σ.E->∀ j,o.dst≠some j->(σ1.bT o.dst e).E j=σ.E j:=by
  intro σ1 e h1 j hj
  unfold St.bT
  split
  ·rename_i d hd
   exact(aW _ _ (λe=>hj (by rw[hd,e]))).trans (congrFun h1 j)
  ·exact congrFun h1 j
 have stt:∀ (σ1:St) (es:List ar),σ1.E=σ.E->∀ j,o.dst≠some j->(σ1.mV o.dst es).E j=σ.E j:=by
  intro σ1 e h1 j hj
  unfold St.mV
  split
  ·rename_i d hd
   exact(aW _ _ (λe=>hj (by rw[hd,e]))).trans (congrFun h1 j)
  ·exact congrFun h1 j
 have su:∀ (σ1:St),σ1.E=σ.E->∀ j,o.dst≠some j->(σ1.j7 o.dst).E j=σ.E j:=by
  intro σ1 h1 j hj
  unfold St.j7
  split
  ·rename_i d hd
   exact(aW _ _ (λe=>hj (by rw[hd,e]))).trans (congrFun h1 j)
  ·exact congrFun h1 j
 have ms:∀ (l:Nat) (b:Lab) (π:List Stp) (k v:Ty) (y:List (k.T×v.T)) (K:St->Option St),kw σ l b π k v y K=some σ'->∃ L,K (σ.jR L)=some σ':=by
  intro l b π k v y K h
  unfold kw at h
  split at h
  ·rw[iJ]at h
   obtain⟨x',_,h⟩:=b9.1 h
   exact⟨_,h⟩
  ·cases h
 have mt:∀ (t:TypeId) (K:Ty->IntKind->Option St),mX V t K=some σ'->∃ k q,K k q=some σ':=by
  intro t K h
  unfold mX at h
  repeat' split at h
  all_goals first
   |exact⟨_,_,h⟩
   |cases h
 have mr:∀ (e:ar) (k v:Ty) (K:List (k.T×v.T)->Option St),x9 σ e k v K=some σ'->∃ x,K x=some σ':=by
  intro e k v K h
  unfold x9 at h
  split at h
  ·obtain⟨l,b,π,c,h⟩:=yi h
   split at h
   ·exact⟨_,h⟩
   ·cases h
  ·obtain⟨x,h⟩:=mU h
   exact⟨x,h⟩
 have mw:∀ (e:ar) (k v:Ty) (K:Nat->Lab->List Stp->List (k.T×v.T)->Option St),wi σ e k v K=some σ'->∃ l b π x,K l b π x=some σ':=by
  intro e k v K h
  unfold wi at h
  split at h
  ·obtain⟨l,b,π,c,h⟩:=yi h
   simp only[dJ]at h
   split at h
   ·split at h
    ·exact⟨_,_,_,_,h⟩
    ·cases h
   ·cases h
  ·cases h
 unfold rE at h
 split at h
 ·split at h
  ·rename_i d hd
   obtain⟨k,q,h⟩:=mt _ _ h
   simp only[dJ]at h
   split at h
   ·cases h
   ·injection h with h
    intro j hj
    rw[<-h]
    exact aW _ _ (λe=>hj (by rw[hd,e]))
  ·cases h
 ·obtain⟨k,q,h⟩:=mt _ _ h
  split at h
  case h_2=>cases h
  split at h
  case h_2=>cases h
  obtain⟨l,h⟩:=mr _ _ _ _ h
  obtain⟨y,h⟩:=mU h
  split at h
  ·injection h with h;rw[<-h];exact sv σ _ rfl
  ·injection h with h;rw[<-h];exact stt σ _ rfl
 ·obtain⟨k,q,h⟩:=mt _ _ h
  split at h
  case h_2=>cases h
  split at h
  case h_2=>cases h
  split at h
  case h_2=>cases h
  obtain⟨l,b,π,xs,h⟩:=mw _ _ _ _ h
  obtain⟨y,h⟩:=mU h
  obtain⟨z,h⟩:=mU h
  obtain⟨L,h⟩:=ms _ _ _ _ _ _ _ h
  injection h with h;rw[<-h];exact su _ rfl
 ·obtain⟨k,q,h⟩:=mt _ _ h
  split at h
  case h_2=>cases h
  split at h
  case h_2=>cases h
  obtain⟨l,b,π,xs,h⟩:=mw _ _ _ _ h
  obtain⟨y,h⟩:=mU h
  simp only[dJ]at h
  split at h
  case isFalse=>cases h
  obtain⟨L,h⟩:=ms _ _ _ _ _ _ _ h
  injection h with h;rw[<-h];exact stt _ _ rfl
 ·obtain⟨k,q,h⟩:=mt _ _ h
  split at h
  case h_2=>cases h
  split at h
  case h_2=>cases h
  split at h
  case h_2=>cases h
  obtain⟨l,b,π,xs,h⟩:=mw _ _ _ _ h
  obtain⟨s,h⟩:=mU h
  simp only[dJ]at h
  split at h
  case isFalse=>cases h
  obtain⟨z,h⟩:=mU h
  obtain⟨L,h⟩:=ms _ _ _ _ _ _ _ h
  injection h with h;rw[<-h];exact su _ rfl
 ·split at h
  case h_2=>cases h
  obtain⟨k,q,h⟩:=mt _ _ h
  split at h
  case h_2=>cases h
  obtain⟨l,h⟩:=mr _ _ _ _ h
  simp only[dJ]at h
  split at h
  case isFalse=>cases h
  injection h with h;rw[<-h];exact sv σ _ rfl
 ·cases h
theorem GoodP.snoc{tr:List Tr}(G:GoodP V ops tr σ0){t:Tr}(h1:ops[tr.length]?=some t.o)(h2:t.st=cS (λ_=>true) tr 0 σ0)(h3:uI t.st ops t.o=some t.run/\∀ s∈cD ops t.o,s∈t.re)
 (h4:t.run=true->ko V t)
 (h5:t.run=false->∀ σ,σ.bT t.o.dst (.cst undef)=t.U σ) (h6:∀ e,e∈t.o.after->Region.binds .any e=true->e.on<tr.length)
 (h7:∀ m,m∈t.anc->∃ e:Edge,e∈t.o.after/\Region.binds .any e=true/\(m=e.on\/∃ s:Tr,tr[e.on]?=some s/\m∈s.anc))
 (h8:∀ i s,tr[i]?=some s->i∉t.anc->iV s t) (h9:∀ σ',t.wh=some σ'->∀ j,t.o.dst≠some j->σ'.E j=t.st.E j):GoodP V ops (tr++[t]) σ0 where
 op:=λi s hs=>by
  rcases ga hs with⟨_,hs⟩|⟨rfl,rfl⟩
  ·exact G.op i s hs
  ·exact h1
 st:=λi s hs=>by
  rcases ga hs with⟨hi,hs⟩|⟨rfl,rfl⟩
  ·rw[cJ (by omega)];exact G.st i s hs
  simp_all
 gv:=λi s hs=>by
  rcases ga hs with⟨_,hs⟩|⟨rfl,rfl⟩
  ·exact G.gv i s hs
  ·exact h3
 run:=λi s hs=>by
  rcases ga hs with⟨_,hs⟩|⟨rfl,rfl⟩
  ·exact G.run i s hs
  ·exact h4
 skip:=λi s hs=>by
  rcases ga hs with⟨_,hs⟩|⟨rfl,rfl⟩
  ·exact G.skip i s hs
  ·exact h5
 GV:=λi s e hs he hb=>by
  rcases ga hs with⟨_,hs⟩|⟨rfl,rfl⟩
  ·exact G.GV i s e hs he hb
  simp_all
 anc:=λi s m hs hm=>by
  rcases ga hs with⟨_,hs⟩|⟨rfl,rfl⟩
  ·obtain⟨q1,e,q2,q3,q4⟩:=G.anc i s m hs hm
   grind
  ·obtain⟨e,q2,q3,q4⟩:=h7 m hm
   have hlt:=h6 e q2 q3
   refine⟨?_,e,q2,q3,q4.imp id ?_⟩
   ·rcases q4 with rfl|⟨s2,q5,q6⟩
    ·exact hlt
    ·have:=(G.anc _ s2 m q5 q6).1;omega
   grind
 wE:=λi s σ' hs hw=>by
  rcases ga hs with⟨_,hs⟩|⟨rfl,rfl⟩
  ·exact G.wE i s σ' hs hw
  ·exact h9 σ' hw
 apart:=λi j s u hij hs hu hn=>by
  rcases ga hu with⟨hj,hu⟩|⟨rfl,rfl⟩
  ·rcases ga hs with⟨_,hs⟩|⟨rfl,rfl⟩
   ·exact G.apart i j s u hij hs hu hn
   ·omega
  grind
theorem JD{σ:St}{dst:Option Nat}{e:ar}:σ.bT dst e=⟨match dst with|some d=>upd σ.E d (some (.one e))|none=>σ.E,σ.L,σ.U⟩:=by
 cases dst <;> rfl
theorem C0{K:St->Option R}{r:R}:∀ (rest:List Oper) (i:Nat) (acc:List (Fp×List Nat)) (σ:St) (tr0:List Tr),ll V ops rest i acc σ K=some r->ops.drop i=rest->tr0.length=i->acc=tr0.map (λt=>((t.fp V),t.anc))->σ=cS (λ_=>true) tr0 0 σ0->GoodP V ops tr0 σ0->(∀ t∈tr0,Loc V t)->
 ∃ tr,Good V ops tr σ0/\K (cS (λ_=>true) tr 0 σ0)=some r:=by
 intro rest
 induction rest with
 |nil=>
  intro i acc σ tr0 hk hd hl ha hσ G _
  subst hσ
  have hle:ops.length<=i:=by simp_all
  have hge:i<=ops.length:=by
   rcases dI tr0.length with h0|h0
   ·omega
   ·have⟨t,ht⟩:∃ t,tr0[tr0.length-1]?=some t:=⟨tr0[tr0.length-1]'(by omega),by simp[show tr0.length-1<tr0.length by omega]⟩
    have:=(List.getElem?_eq_some_iff.1 (G.op _ t ht)).1
    omega
  exact⟨tr0,⟨G,by omega⟩,hk⟩
 |cons o rest ih=>
  intro i acc σ tr0 hk hd hl ha hσ G Ay
  have hoi:ops[i]?=some o:=by
   have:=congrArg (·[0]?) hd
   simpa using this
  have hd':ops.drop (i+1)=rest:=by rw[<-List.tail_drop,hd];rfl
  simp only[ll,px]at hk
  cases hed:qf i o.after.toList
  ·simp_all
  rw[hed]at hk
  simp only[cond_true]at hk
  have AE:∀ e,e∈o.after->Region.binds .any e=true->e.on<tr0.length:=λe he hb=>by rw[hl];exact AB hed e (by simpa using he) hb
  have AA:∀ m,m∈ez acc o.after.toList->∃ e:Edge,e∈o.after/\Region.binds .any e=true/\(m=e.on\/∃ s:Tr,tr0[e.on]?=some s/\m∈s.anc):=λm hm=>by grind [GZ]
  have hap:∀ (t:Tr),Loc V t->t.anc=ez acc o.after.toList->kp (t.fp V) (ez acc o.after.toList) acc 0=true->∀ k s,tr0[k]?=some s->k∉t.anc->iV s t:=λt ht hta hok k s hs hn=>by
   refine JC (Ay s (List.mem_of_getElem? hs)) ht (GY hok k ((s.fp V),s.anc) (by rw[ha,List.getElem?_map,hs];rfl) (by rw[eF,<-hta];exact hn))
  rcases AD hk with⟨hg,hk⟩|⟨hg,hk⟩
  ·cases hmv:mvE σ o with
   |some e0=>
   rw[hmv]at hk
   simp only at hk
   cases hc:kp ⟨true,cD ops o++looks o,o.dst,[],false⟩ (ez acc o.after.toList) acc 0
   ·rw[hc]at hk;cases hk
   rw[hc]at hk
   simp only[cond_true]at hk
   let t:Tr:={o:=o,st:=σ,run:=true,e:=some (.one e0),T:=λ_=>false,L':=λ_=>none,U':=λ_=>false,re:=cD ops o++looks o,TR:=λ_=>false,anc:=ez acc o.after.toList}
   have hfp:(t.fp V)=⟨true,cD ops o++looks o,o.dst,[],false⟩:=by simp[t,Tr.fp,hmv]
   have hlt:Loc V t:=⟨λl hl=>(by cases hl),λl hl=>(by cases hl),λ_=>rfl⟩
   have hU:∀ σ1:St,σ1.bT o.dst e0=t.U σ1:=λσ1=>JD
   refine ih (i+1) _ _ (tr0++[t]) hk hd' (by simp[hl]) (by rw[ha,cO,<-hfp,<-ha];rfl) (by rw[iA,<-hσ];exact hU σ) ?_ (λs hs=>by
    rcases au.1 hs with hs|hs
    ·exact Ay s hs
    ·simp at hs;rw[hs];exact hlt)
   exact G.snoc (by rw[hl];exact hoi) hσ ⟨hg,λs hs=>au.2 (.inl hs)⟩ (λ_=>ko.mv (t:=t) hmv (λx hx=>au.2 (.inr hx)) hU) (λh=>(by cases h)) AE AA (hap t hlt rfl (by rw[hfp];exact hc)) (λ_ h=>by cases h)
   |none=>
   rw[hmv]at hk
   simp only at hk
   cases hmo:jk V.TT o.op
   case true=>
    rw[hmo]at hk
    simp only[cond_true]at hk
    cases hmk:mkE V o with
    |some p=>
     obtain⟨d,b⟩:=p
     rw[hmk]at hk
     simp only at hk
     cases hU:σ.U (d*8)
     case true=>rw[hU]at hk;cases hk
     rw[hU]at hk
     simp only[cond_false]at hk
     cases hc:kp ⟨false,cD ops o,o.dst,[],false⟩ (ez acc o.after.toList) acc 0
     ·rw[hc]at hk;cases hk
     rw[hc]at hk
     simp only[cond_true]at hk
     obtain⟨hd0,_⟩:=Jv hmk
     let t:Tr:={o:=o,st:=σ,run:=true,e:=some (.one (.hdr (d*8) b.v [] ⟨b.t,b.x⟩)),T:=λl=>Nat.beq l (d*8),L':=λ_=>some b,U':=λ_=>true,re:=cD ops o,TR:=λl=>Nat.beq l (d*8),anc:=ez acc o.after.toList}
     have hfp:(t.fp V)=⟨false,cD ops o,o.dst,[],false⟩:=by simp[t,Tr.fp,hmv,hmo]
     have Un:∀ l,Nat.beq l (d*8)=true->wk [] o.dst l=true:=by
      intro l hl
      rw[bI hl,hd0]
      simp[wk,gG]
     have hlt:Loc V t:=⟨λl hl=>by rw[hfp];exact⟨rfl,Un l hl⟩,λl hl=>by rw[hfp];exact Un l hl,λ_=>rfl⟩
     have hUU:∀ σ1:St,σ1.mk' σ1.L (d*8) d b=t.U σ1:=by
      intro σ1
      have hU1:(λj=>Nat.beq j (d*8)||σ1.U j)=j8 (λl=>Nat.beq l (d*8)) (λ_=>true) σ1.U:=by
       funext j
       show _=bif Nat.beq j (d*8)then true else σ1.U j
       cases Nat.beq j (d*8) <;> rfl
      show St.mk _ _ _=St.mk _ _ _
      rw[hU1]
      simp only[t,hd0]
      rfl
     refine ih (i+1) _ _ (tr0++[t]) hk hd' (by simp[hl]) (by rw[ha,cO,<-hfp,<-ha];rfl) (by rw[iA,<-hσ];exact hUU σ) ?_ (λs hs=>by
      rcases au.1 hs with hs|hs
      ·exact Ay s hs
      ·simp at hs;rw[hs];exact hlt)
     exact G.snoc (by rw[hl];exact hoi) hσ ⟨hg,λs hs=>hs⟩ (λ_=>ko.mk (t:=t) hmk hU (fc _) hUU) (λh=>(by cases h)) AE AA (hap t hlt rfl (by rw[hfp];exact hc)) (λ_ h=>by cases h)
    |none=>
     rw[hmk]at hk
     simp only at hk
     cases hc:kp ⟨false,cD ops o,o.dst,[],true⟩ (ez acc o.after.toList) acc 0
     ·rw[hc]at hk;cases hk
     rw[hc]at hk
     simp only[cond_true]at hk
     have hb:=G0 (λσ'=>ll V ops rest (i+1) (acc++[(⟨false,cD ops o,o.dst,[],true⟩,ez acc o.after.toList)]) σ' K) V σ o some
     rw[show(rE V σ o λx=>(some x).bind λσ'=>ll V ops rest (i+1) (acc++[(⟨false,cD ops o,o.dst,[],true⟩,ez acc o.after.toList)]) σ' K)=some r from hk]at hb
     obtain⟨σ',hop,hk⟩:=b9.1 hb
     let t:Tr:={o:=o,st:=σ,run:=true,e:=none,T:=λ_=>false,L':=λ_=>none,U':=λ_=>false,re:=cD ops o,TR:=λ_=>false,anc:=ez acc o.after.toList,wh:=some σ'}
     have hfp:(t.fp V)=⟨false,cD ops o,o.dst,[],true⟩:=by simp[t,Tr.fp,hmv,hmo]
     have hlt:Loc V t:=⟨λl hl=>(by cases hl),λl hl=>(by cases hl),λh=>by rw[hfp]at h;cases h⟩
     refine ih (i+1) _ _ (tr0++[t]) hk hd' (by simp[hl]) (by rw[ha,cO,<-hfp,<-ha];rfl) (by rw[iA];rfl) ?_ (λs hs=>by
      rcases au.1 hs with hs|hs
      ·exact Ay s hs
      ·simp at hs;rw[hs];exact hlt)
     exact G.snoc (by rw[hl];exact hoi) hσ ⟨hg,λs hs=>hs⟩ (λ_=>ko.wh (t:=t) rfl hop) (λh=>(by cases h)) AE AA (hap t hlt rfl (by rw[hfp];exact hc)) (λσ2 h=>by injection h with h;rw[<-h];exact Rp hop)
   rw[hmo]at hk
   simp only[cond_false]at hk
   cases hc:calm V o&&kp ⟨isV V o,cD ops o++looks o,o.dst,jV σ (looks o),false⟩ (ez acc o.after.toList) acc 0
   ·rw[hc]at hk;cases hk
   rw[hc]at hk
   simp only[cond_true]at hk
   simp only[ag]at hc
   have hb:=Au (λσ'=>bif lY (fN σ o) o.dst σ' then ll V ops rest (i+1) (acc++[(⟨isV V o,cD ops o++looks o,o.dst,jV σ (looks o),false⟩,ez acc o.after.toList)]) (uK V σ o σ') K else none) V (nh σ o) o some
   rw[show(opD V (nh σ o) o λe=>(some e).bind λσ'=>bif lY (fN σ o) o.dst σ' then ll V ops rest (i+1) (acc++[(⟨isV V o,cD ops o++looks o,o.dst,jV σ (looks o),false⟩,ez acc o.after.toList)]) (uK V σ o σ') K else none)=some r from hk]at hb
   obtain⟨σ',hop,hk⟩:=b9.1 hb
   cases hin:lY (fN σ o) o.dst σ'
   ·rw[hin]at hk;cases hk
   rw[hin]at hk
   simp only[cond_true]at hk
   let t:Tr:={o:=o,st:=σ,run:=true,e:=match o.dst with|some d=>σ'.E d|none=>none,T:=λl=>bif isV V o then false else fN σ o l,L':=σ'.L,U':=σ'.U,re:=cD ops o++looks o,TR:=fN σ o,anc:=ez acc o.after.toList}
   have hfp:(t.fp V)=⟨isV V o,cD ops o++looks o,o.dst,jV σ (looks o),false⟩:=by simp[t,Tr.fp,hmv,hmo]
   have hlt:Loc V t:=by
    refine⟨λl hl=>?_,λl hl=>by rw[hfp];exact hl,λ_=>rfl⟩
    rw[hfp]
    simp only[t]at hl
    cases hv:isV V o
    ·rw[hv]at hl;exact⟨rfl,hl⟩
    ·rw[hv]at hl;cases hl
   have hU:∀ σ1,Ag t σ1 σ->qc (fN σ o) o.dst σ1 σ'=t.U σ1:=by
    intro σ1 hag
    have hE:o0 σ1.E o.dst σ'.E=match o.dst with|some d=>upd σ1.E d (match o.dst with|some d=>σ'.E d|none=>none)|none=>σ1.E:=by
     unfold o0
     cases o.dst <;> rfl
    unfold qc Tr.U
    simp only[t]
    cases hv:isV V o
    ·simp only[cond_false]
     rw[hE]
     try rfl
    ·simp only[cond_true]
     obtain⟨he1,he2⟩:=Nj hv hop
     have e1:σ'.L=jc σ.L (fN σ o):=he1
     have e2:σ'.U=jd σ.U (fN σ o):=he2
     have f1:li (fN σ o) σ'.L σ1.L=li (λ_=>false) σ'.L σ1.L:=by
      funext l
      unfold li
      cases hvl:fN σ o l
      ·rfl
      ·rw[e1];simp only[jc,hvl,cond_true,cond_false];exact(hag.2 l hvl).1.symm
     have f2:j8 (fN σ o) σ'.U σ1.U=j8 (λ_=>false) σ'.U σ1.U:=by
      funext l
      unfold j8
      cases hvl:fN σ o l
      ·rfl
      ·rw[e2];simp only[jd,hvl,cond_true,cond_false];exact(hag.2 l hvl).2.symm
     rw[hE,f1,f2]
     try rfl
   have wZ:uK V σ o σ'=t.U σ:=by
    unfold uK
    cases hv:isV V o
    ·exact hU σ (Ag.refl _ _)
    ·simp only[cond_true,Tr.U,t,hv]
     unfold o0
     cases o.dst <;> rfl
   refine ih (i+1) _ _ (tr0++[t]) hk hd' (by simp[hl]) (by rw[ha,cO,<-hfp,<-ha];rfl) (by rw[iA,<-hσ];exact wZ) ?_ (λs hs=>by
    rcases au.1 hs with hs|hs
    ·exact Ay s hs
    ·simp at hs;rw[hs];exact hlt)
   exact G.snoc (by rw[hl];exact hoi) hσ ⟨hg,λs hs=>au.2 (.inl hs)⟩ (λ_=>ko.of (t:=t) ⟨λx hx=>au.2 (.inr hx),λl hl=>hl,hc.1,σ',hop,hin,hU⟩) (λh=>(by cases h)) AE AA (hap t hlt rfl (by rw[hfp];exact hc.2)) (λ_ h=>by cases h)
  ·cases hc:kp ⟨true,cD ops o,o.dst,[],false⟩ (ez acc o.after.toList) acc 0
   ·rw[hc]at hk;cases hk
   rw[hc]at hk
   simp only[cond_true]at hk
   let t:Tr:={o:=o,st:=σ,run:=false,e:=some (.one (.cst undef)),T:=λ_=>false,L':=λ_=>none,U':=λ_=>false,re:=cD ops o,TR:=λ_=>false,anc:=ez acc o.after.toList}
   have hfp:(t.fp V)=⟨true,cD ops o,o.dst,[],false⟩:=by simp[t,Tr.fp]
   have hlt:Loc V t:=⟨λl hl=>(by cases hl),λl hl=>(by cases hl),λ_=>rfl⟩
   have hU:∀ σ1:St,σ1.bT o.dst (.cst undef)=t.U σ1:=λσ1=>JD
   refine ih (i+1) _ _ (tr0++[t]) hk hd' (by simp[hl]) (by rw[ha,cO,<-hfp,<-ha];rfl) (by rw[iA,<-hσ];exact hU σ) ?_ (λs hs=>by
    rcases au.1 hs with hs|hs
    ·exact Ay s hs
    ·simp at hs;rw[hs];exact hlt)
   exact G.snoc (by rw[hl];exact hoi) hσ ⟨hg,λs hs=>hs⟩ (λh=>(by cases h)) (λ_=>hU) AE AA (hap t hlt rfl (by rw[hfp];exact hc)) (λ_ h=>by cases h)
end
inductive Alt where
 |leaf (perm:List Nat)
 |split (i j:Nat) (a b:Alt)
def Lin(E:Nat->Nat->Prop)(n:Nat)(D:Nat->Prop):List Nat->Prop
 |[]=>∀ k,k<n->D k
 |i::r=>i<n/\¬D i/\(∀ m,m<n->E m i->D m)/\Lin E n (λk=>D k\/k=i) r
section
variable {E E':Nat->Nat->Prop} {n:Nat}
theorem Lin.congr:∀ {r:List Nat} {D D':Nat->Prop},(∀ k,k<n->(D k↔D' k))->Lin E n D r->Lin E n D' r:=by
 intro r
 induction r with
 |nil=>intro D D' h hl k hk;exact(h k hk).1 (hl k hk)
 |cons i r ih=>
  intro D D' h hl
  obtain⟨h1,h2,h3,h4⟩:=hl
  exact⟨h1,λhd=>h2 ((h i h1).2 hd),λm hm he=>(h m hm).1 (h3 m hm he),ih (λk hk=>or_congr (h k hk) jD) h4⟩
theorem Lin.add{i j:Nat}:∀ {r:List Nat} {D:Nat->Prop},D i->Lin E n D r->Lin (λm k=>E m k\/(m=i/\k=j)) n D r:=by
 intro r
 induction r with
 |nil=>intro D _ h;exact h
 |cons x r ih=>
  intro D hD h
  obtain⟨h1,h2,h3,h4⟩:=h
  exact⟨h1,h2,λm hm he=>he.elim (h3 m hm) (λe=>e.1 ▸ hD),ih (.inl hD) h4⟩
theorem Lin.split{i j:Nat}(hij:i≠j)(hi:i<n)(hj:j<n):∀ {r:List Nat} {D:Nat->Prop},¬D i->¬D j->Lin E n D r->Lin (λm k=>E m k\/(m=i/\k=j)) n D r\/Lin (λm k=>E m k\/(m=j/\k=i)) n D r:=by
 intro r
 induction r with
 |nil=>intro D h1 _ h;exact absurd (h i hi) h1
 |cons x r ih=>
  intro D hi' hj' h
  obtain⟨h1,h2,h3,h4⟩:=h
  by_cases ei:x=i
  ·subst ei
   exact .inl ⟨h1,h2,λm hm he=>he.elim (h3 m hm) (λe=>absurd e.2 hij),Lin.add (.inr rfl) h4⟩
  ·by_cases ej:x=j
   ·subst ej
    exact .inr ⟨h1,h2,λm hm he=>he.elim (h3 m hm) (λe=>absurd e.2 (Ne.symm hij)),Lin.add (.inr rfl) h4⟩
   ·rcases ih (D:=λk=>D k\/k=x) (λh=>h.elim hi' (λe=>ei e.symm)) (λh=>h.elim hj' (λe=>ej e.symm)) h4 with h4|h4
    ·exact .inl ⟨h1,h2,λm hm he=>he.elim (h3 m hm) (λe=>absurd e.2 ej),h4⟩
    ·exact .inr ⟨h1,h2,λm hm he=>he.elim (h3 m hm) (λe=>absurd e.2 ei),h4⟩
theorem Lin.mono(hE:∀ m k,E' m k->E m k):∀ {r:List Nat} {D:Nat->Prop},Lin E n D r->Lin E' n D r:=by
 intro r
 induction r with
 |nil=>intro D h;exact h
 |cons x r ih=>intro D h;exact⟨h.1,h.2.1,λm hm he=>h.2.2.1 m hm (hE _ _ he),ih h.2.2.2⟩
theorem Lin.map{π inv:Nat->Nat}(hπ:∀ k,k<n->π k<n)(hinv:∀ k,k<n->inv k<n)(hl:∀ k,k<n->π (inv k)=k)(hr:∀ k,k<n->inv (π k)=k):∀ {r:List Nat} {D:Nat->Prop},Lin E n D r->Lin (λm k=>E (π m) (π k)) n (λk=>D (π k)) (r.map inv):=by
 intro r
 induction r with
 |nil=>intro D h k hk;exact h _ (hπ k hk)
 |cons x r ih=>
  intro D h
  obtain⟨h1,h2,h3,h4⟩:=h
  refine⟨hinv x h1,by show ¬D (π (inv x));rw[hl x h1];exact h2,λm hm he=>h3 _ (hπ m hm) (by have he:E (π m) (π (inv x)):=he;rw[hl x h1]at he;exact he),?_⟩
  refine(ih h4).congr (λk hk=>or_congr jD ⟨λe=>by rw[<-e,hr k hk],λe=>by rw[e,hl x h1]⟩)
end
section
variable {P:Program} {ops Y1:Array Oper} {Q:Exit->Act->World->Prop}
end
section
variable {P:Program} {ops:Array Oper}
end
section
variable {P:Program} {B:dD} {V:Env} {σ:St} {a:Act} {w:World} {R:Type}
theorem Rq{V:Env}{ops:List Oper}{tr:List Tr}{σ:St}(G:GoodP V ops tr σ){j:Nat}(h:∀ t∈tr,t.o.dst≠some j):∀ n,n<=tr.length->(cS (λ_=>true) (tr.take n) 0 σ).E j=σ.E j:=by
 intro n
 induction n with
 |zero=>intro _;rfl
 |succ n ih=>
  intro hn
  have hg:tr[n]?=some tr[n]:=List.getElem?_eq_getElem hn
  have hst:=G.st n _ hg
  have hw:=G.wE n tr[n]
  have hm:=h _ (aN hn)
  rw[jy,hg]
  generalize tr[n]=t at *
  simp only[Option.toList]
  rw[iA,<-hst]
  simp only[cond_true]
  rw[<-hst]at ih
  rw[<-ih (by omega)]
  cases hw':t.wh with
  |some σ'=>simp only[Tr.U,hw'];exact hw σ' hg hw' j hm
  |none=>
   simp only[Tr.U,hw']
   cases hd:t.o.dst with
   |none=>rfl
   |some d=>exact aW _ _ (λe=>hm (by rw[hd,e]))
theorem G1{ops:List Oper}{j:Nat}(h:lc ops j=false):∀ o∈ops,o.dst≠some j:=by
 induction ops with
 |nil=>intro o ho;simp at ho
 |cons x xs ih=>grind [lc,Nat.beq_refl]
theorem C1:∀ (tr:List Tr) (m:Nat) (σ:St),cS (λ_=>false) tr m σ=σ:=by
 intro tr
 induction tr with
 |nil=>intro m σ;rfl
 |cons t tr ih=>intro m σ;simp only[cS,cond_false];exact ih _ _
theorem JF(hV:fT P V){ops:Array Oper}(hN:mY B.N ops.toList=true){K:St->Option R}{r:R}(hk:ll V ops.toList ops.toList 0 [] σ K=some r)(h:Inv B σ a w){Q:Exit->Act->World->Prop}(hQ:∀ σ' a' w',K σ'=some r->Inv B σ' a' w'->ES σ σ' (lc ops.toList)->Q .normal a' w'):
 wpAny P .any ops Q ops.size (Array.replicate ops.size false) a w:=by
 obtain⟨tr,G,hK⟩:=C0 (σ0:=σ) ops.toList 0 [] σ [] hk rfl rfl rfl rfl
  {op:=λi t h=>(by simp at h),st:=λi t h=>(by simp at h),gv:=λi t h=>(by simp at h),run:=λi t h=>(by simp at h),skip:=λi t h=>(by simp at h),GV:=λi t e h=>(by simp at h),anc:=λi t m h=>(by simp at h),apart:=λi j s t _ h=>(by simp at h),wE:=λi t σ' h=>(by simp at h)} (λt ht=>(by simp at ht))
 have hES:ES σ (cS (λ_=>true) tr 0 σ) (lc ops.toList):=by
  intro j hj
  refine .inl ((congrArg (λl=>(cS (λ_=>true) l 0 σ).E j) (dj (l:=tr)).symm).trans (Rq G.toGoodP (λt ht=>?_) tr.length (aw _)))
  obtain⟨i,hi⟩:=List.mem_iff_getElem?.1 ht
  exact G1 hj t.o (List.mem_of_getElem? (G.op i t hi))
 refine Nl G hV hN (B:=B) (λa' w' h'=>hQ _ a' w' hK h' hES) ops.size _ a _ (by simp) (λi t e _ hl=>?_) ?_ ?_
 ·simp[Array.getD_eq_getD_getElem?,Array.getElem?_replicate]at hl
  grind
 ·grind [List.countP_le_length]
 ·rw[show cS (λk=>(Array.replicate ops.size false).getD k false) tr 0 σ=σ by
   refine(rO tr 0 σ (D':=λ_=>false) (λk _ _=>?_)).trans (C1 tr 0 σ)
   simp[Array.getD_eq_getD_getElem?,Array.getElem?_replicate]
   split <;> rfl]
  exact h
theorem JG(h:Inv B σ a w):Inv B σ a {w with drawn:=w.drawn+1}:=by
 obtain⟨F,Sg,cg,h⟩:=h
 exact⟨F,Sg,cg,h.world rfl rfl rfl (aw _) (λ_ _=>rfl)⟩
end
def wpN(P:Program)(c:Code)(Q:Exit->Act->World->Prop)(a:Act)(w:World):Prop:=
 ∀ (b:Frame) (k:List Item) (cs:List Frame),b.kind=.normal->∃ e a' w',Q e a' w'/\Arrives P (lone (b.at a (.code c::k)) cs w) b k cs e a' w'
section
variable {P:Program} {Q:Exit->Act->World->Prop} {a:Act} {w:World}
theorem rR{c:Code}(h:c.wp P Q a w):wpN P c Q a w:=λb k cs _=>h b k cs
theorem gI{c:Code}{Q':Exit->Act->World->Prop}(h:wpN P c Q a w)(hq:∀ e a w,Q e a w->Q' e a w):wpN P c Q' a w:=by
 intro b k cs hb
 obtain⟨e,a',w',q,r⟩:=h b k cs hb
 grind
theorem Nn{x y:Code}(h:wpN P x (Exit.then (wpN P y Q) Q) a w):wpN P (.seq x y) Q a w:=by
 intro b k cs hb
 obtain⟨e,a1,w1,hq,har⟩:=h b (.code y::k) cs hb
 by_cases he:e=.normal
 ·subst he
  obtain⟨e2,a2,w2,hq2,Rr⟩:=hq b k cs hb
  exact⟨e2,a2,w2,hq2,.of_steps (.head step_seq har) Rr⟩
 ·refine⟨e,a1,w1,?_,.of_steps (.one step_seq) (.pass (x:=.code y) rfl (λ_ _=>.inl he) har)⟩
  cases e <;> first|exact absurd rfl he|exact hq
theorem JH{c:Operand}{x y:Code}{t:Bool}(hc:a.eval c=.bool t)(h:wpN P (if t then x else y) Q a w):wpN P (.cond c x y) Q a w:=by
 intro b k cs hb
 obtain⟨e,a1,w1,hq,har⟩:=h b k cs hb
 exact⟨e,a1,w1,hq,.of_steps (.one (step_cond hc)) har⟩
theorem G2{id:Nat}{c:Code}(h:wpN P c (Exit.inBlock id Q) a w):wpN P (.block id c) Q a w:=by
 intro b k cs hb
 obtain⟨e,a1,w1,hq,har⟩:=h b (.inBlock id::k) cs hb
 cases e with
 |normal=>exact⟨.normal,a1,w1,hq,.head step_block (Steps.trans har (.one step_inBlock))⟩
 |exit j=>
  by_cases hj:j=id
  ·have hq:Q .normal a1 w1:=by simpa [Exit.inBlock,hj]using hq
   exact⟨.normal,a1,w1,hq,.head step_block (har k (by simp[exitTo,hj]))⟩
  ·have hq:Q (.exit j) a1 w1:=by simpa [Exit.inBlock,hj]using hq
   have hn:(id == j)=false:=by simpa using λe:id=j=>hj e.symm
   exact⟨.exit j,a1,w1,hq,λk' hk=>.head step_block (har k' (by simp[exitTo,hn,hk]))⟩
 |goto l=>exact⟨_,a1,w1,hq,λk' hk=>.head step_block (har k' (by simp[gotoIn,hk]))⟩
 |ret=>exact⟨_,a1,w1,hq,.of_steps (.one step_block) har⟩
 |panic _=>exact⟨_,a1,w1,hq,.of_steps (.one step_block) har⟩
 |outgrown=>exact⟨_,a1,w1,hq,.of_steps (b:=b) (k:=k) (cs:=cs) (e:=.outgrown) (.one step_block) har⟩
theorem G3{c:Code}(h:wpN P c Q a w)(hg:∀ l a w,¬Q (.goto l) a w):wpN P (.scope c) Q a w:=by
 intro b k cs hb
 obtain⟨e,a1,w1,hq,har⟩:=h b (.inScope c::k) cs hb
 cases e with
 |normal=>exact⟨.normal,a1,w1,hq,.head step_scope (Steps.trans har (.one step_inScope))⟩
 |exit id=>exact⟨.exit id,a1,w1,hq,λk' hk=>.head step_scope (har k' (by simp[exitTo,hk]))⟩
 |goto l=>exact absurd hq (hg l a1 w1)
 |ret=>exact⟨_,a1,w1,hq,.of_steps (.one step_scope) har⟩
 |panic ch=>exact⟨_,a1,w1,hq,.of_steps (.one step_scope) har⟩
 |outgrown=>exact⟨_,a1,w1,hq,.of_steps (b:=b) (k:=k) (cs:=cs) (e:=.outgrown) (.one step_scope) har⟩
theorem JI{c:Code}(I:Nat->Act->World->Prop)(h0:∀ a w,¬I 0 a w)(round:∀ m a w,I (m+1) a w->wpN P c (Exit.then (I m) Q) a w)(m:Nat)(a:Act)(w:World)(h:I m a w):wpN P (.loop c) Q a w:=by
 intro b k cs hb
 have key:∀ m a w,I m a w->∃ e a' w',Q e a' w'/\Arrives P (lone (b.at a (.code c::.inLoop c::k)) cs w) b k cs e a' w':=by
  intro m
  induction m with
  |zero=>intro a w h;exact absurd h (h0 a w)
  |succ m ih=>
   intro a w hI
   obtain⟨e,a1,w1,hq,har⟩:=round m a w hI b (.inLoop c::k) cs hb
   by_cases he:e=.normal
   ·subst he
    obtain⟨e2,a2,w2,hq2,Rr⟩:=ih a1 w1 hq
    exact⟨e2,a2,w2,hq2,.of_steps (Steps.trans har (.one step_inLoop)) Rr⟩
   ·refine⟨e,a1,w1,?_,.pass (x:=.inLoop c) rfl (λ_ _=>.inl he) har⟩
    cases e <;> first|exact absurd rfl he|exact hq
 obtain⟨e,a',w',hq,har⟩:=key m a w h
 exact⟨e,a',w',hq,.of_steps (.one step_loop) har⟩
theorem yk{f:FuncId}{fn:Func}{c:Code}{args:Array Value}{R:Ending->World->Prop}(hf:P.funcs[f]?=some fn)(hb:fn.body=some c)
 (h:wpN P c (bodyPost P fn R) {tmps:=args++Array.replicate (fn.ntmps-args.size) undef,defers:=[]} w):Calls P f args w R:=by
 intro cs
 have hen:Frame.enter P f args .normal=({(default:Frame)with fn:=f,kind:=.normal}:Frame).at {tmps:=args++Array.replicate (fn.ntmps-args.size) undef,defers:=[]} [.code c]:=by grind [Frame.enter,Frame.at]
 obtain⟨e,a',w',hq,har⟩:=h {(default:Frame)with fn:=f,kind:=.normal} [] cs rfl
 rw[<-hen]at har
 cases e with
 |normal=>
  obtain⟨hd,v,hr,hR⟩:=hq
  exact⟨.returned v,w',_,hR,Steps.trans har (.one step_end),rfl,rfl,hd,rfl,fn,hf,hr⟩
 |ret=>
  obtain⟨hd,v,hr,hR⟩:=hq
  obtain⟨todo,hs⟩:=har
  exact⟨.returned v,w',_,hR,hs,rfl,rfl,hd,rfl,fn,hf,hr⟩
 |panic chain=>
  obtain⟨hd,hR⟩:=hq
  obtain⟨todo,hs⟩:=har
  exact⟨.panicked chain,w',_,hR,hs,rfl,rfl,hd,fn,hf⟩
 |exit id=>exact hq.elim
 |goto l=>exact hq.elim
 |outgrown=>exact⟨.outgrown,w',{(default:Frame)with fn:=f,kind:=.normal},hq,har.resolve_left (by simp),rfl,trivial⟩
end
section
variable {P:Program} {B:dD} {F:af} {Sg:Nat->af} {cg:Nat->List Value} {σ:St} {a:Act} {w:World}
end
inductive Ann where
 |nop
 |seq (x y:Ann)
 |cond (j:Option Spec) (x y:Ann)
 |block (j:Option Spec) (x:Ann)
 |loop (s:Spec) (x:Ann)
 |reg (j:Option Spec) (fz:List Nat)
 |rgf (j:Option Spec) (pf fz:List Nat)
 |rgp (j:Option Spec) (pf fz:List Nat) (pz:List (Nat×List Stp))
 |rga (j:Option Spec) (pf fz:List Nat) (t:Alt)
def Ann.a1:Ann->Ann
 |.seq x _=>x
 |.cond _ x _=>x
 |.block _ x=>x
 |.loop _ x=>x
 |_=>.nop
def Ann.a2:Ann->Ann
 |.seq _ y=>y
 |.cond _ _ y=>y
 |_=>.nop
def Ann.j:Ann->Option Spec
 |.cond j _ _=>j
 |.block j _=>j
 |.loop s _=>some s
 |.reg j _=>j
 |.rgf j _ _=>j
 |.rgp j _ _ _=>j
 |.rga j _ _ _=>j
 |_=>none
def Ann.fz:Ann->List Nat
 |.reg _ l=>l
 |.rgf _ _ l=>l
 |.rgp _ _ l _=>l
 |.rga _ _ l _=>l
 |_=>[]
def Ann.alt:Ann->Option Alt
 |.rga _ _ _ t=>some t
 |_=>none
def Ann.pf:Ann->List Nat
 |.rgf _ l _=>l
 |.rgp _ l _ _=>l
 |.rga _ l _ _=>l
 |_=>[]
def Ann.pz:Ann->List (Nat×List Stp)
 |.rgp _ _ _ l=>l
 |_=>[]
def nj:Ty->List Stp->Bool
 |_,[]=>true
 |.st t,.st::π=>nj t π
 |.pair a _,.fst::π=>nj a π
 |.pair _ b,.snd::π=>nj b π
 |.box t,.deref::π=>nj t π
 |_,_=>false
def No(σ:St)(s:Nat)(π:List Stp):St:=
 match σ.E s with
 |some (.one (.hdr l _ [] _))=>(match σ.L l with
  |some b=>bif nj b.t π then(match gk b.t b.m π .ro with
   |some mr=>{σ with L:=upd σ.L l (some ⟨b.v+1,b.t,mr,b.x⟩)}
   |none=>σ)else σ
  |none=>σ)
 |_=>σ
def AF(σ:St):List (Nat×List Stp)->St
 |[]=>σ
 |p::ps=>AF (No σ p.1 p.2) ps
def yl(σ:St):List Nat->St
 |[]=>σ
 |s::ss=>match σ.E s with
  |some (.one (.hdr l _ _ _))=>(match σ.L l with|some b=>yl (σ.frz l b) ss|none=>yl σ ss)
  |_=>yl σ ss
structure Ks(R:Type)where
 nrm:St->Option R
 ext:Nat->St->Option R
 ret:St->Option R
def aq{A R:Type}(J:A->Option R)(body:(A->Option R)->Option R):Option R:=body J
def aC{A R:Type}(body:A->(A->Option R)->Option R):Nat->A->Option R
 |0,_=>none
 |n+1,x=>body x (aC body n)
def AG{R:Type}(o:Option Spec)(W:Nat->Bool)(σ:St)(K:St->Option R)(body:(St->Option R)->Option R):Option R:=
 match o with
 |none=>body K
 |some s=>bif mZ σ s W then aq (λx=>K (stJ σ s x)) (λj=>body λσ1=>CH σ s σ1 j)else none
def wrC:Code->Nat->Bool
 |.region _ ops _,j=>lc ops.toList j
 |.seq x y,j=>wrC x j||wrC y j
 |.cond _ x y,j=>wrC x j||wrC y j
 |.block _ x,j=>wrC x j
 |.loop x,j=>wrC x j
 |.scope x,j=>wrC x j
 |_,_=>false
def Rs{R:Type}(V:Env)(N:Nat)(ops:Array Oper)(draw:Bool)(alt:Option Alt)(σ:St)(K:St->Option R):Option R:=
 bif mY N ops.toList then(bif draw then ll V ops.toList ops.toList 0 [] σ K else Gy V ops.toList ops.toList σ K)else none
def exec{R:Type}(V:Env)(N n:Nat):Code->Ann->St->Ks R->Option R
 |.skip,_,σ,k=>k.nrm σ
 |.region _ ops draw,an,σ,k=>AG an.j (lc ops.toList) σ k.nrm λnrm=>Rs V N ops draw an.alt (yl σ an.pf) λσ1=>nrm (AF (yl σ1 an.fz) an.pz)
 |.seq x y,an,σ,k=>exec V N n x an.a1 σ {k with nrm:=λσ1=>exec V N n y an.a2 σ1 k}
 |.cond c x y,an,σ,k=>AG an.j (λj=>wrC x j||wrC y j) σ k.nrm λnrm=>(match opd σ c with
  |some (.val .bool b)=>(match(b:Bool)with
   |true=>exec V N n x an.a1 σ {k with nrm:=nrm}
   |false=>exec V N n y an.a2 σ {k with nrm:=nrm})
  |_=>none)
 |.block id x,an,σ,k=>AG an.j (wrC x) σ k.nrm λnrm=>exec V N n x an.a1 σ {nrm:=nrm,ext:=λi σ1=>bif Nat.beq i id then nrm σ1 else k.ext i σ1,ret:=k.ret}
 |.loop x,an,σ,k=>(match an.j with
  |some s=>bif mZ σ s (wrC x)then CH σ s σ λx0=>aC (λy cont=>exec V N n x an.a1 (stJ σ s y) {k with nrm:=λσ1=>CH σ s σ1 cont}) n x0 else none
  |none=>none)
 |.exit id,_,σ,k=>k.ext id σ
 |.ret,_,σ,k=>k.ret σ
 |.scope x,an,σ,k=>exec V N n x an σ k
 |.label _,_,σ,k=>k.nrm σ
 |_,_,_,_=>none
def uL{R:Type}(B:dD)(σ:St)(W:Nat->Bool)(k:Ks R)(r:R):Exit->Act->World->Prop
 |.normal,a,w=>∃ σ',k.nrm σ'=some r/\Inv B σ' a w/\ES σ σ' W
 |.exit id,a,w=>∃ σ',k.ext id σ'=some r/\Inv B σ' a w/\ES σ σ' W
 |.ret,a,w=>∃ σ',k.ret σ'=some r/\Inv B σ' a w
 |_,_,_=>False
section
variable {P:Program} {B:dD} {σ:St} {a:Act} {w:World}
theorem uL.imp{R:Type}{σ σ1:St}{W W1:Nat->Bool}{k k1:Ks R}{r:R}(hes:ES σ σ1 W)(hW:∀ j,W j=false->W1 j=false)(hn:∀ σ' a w,k1.nrm σ'=some r->Inv B σ' a w->ES σ σ' W->∃ rK,k.nrm rK=some r/\Inv B rK a w/\ES σ rK W)
 (he:∀ i σ',k1.ext i σ'=k.ext i σ') (hr:∀ σ',k1.ret σ'=k.ret σ') {e:Exit} {a:Act} {w:World} (h:uL B σ1 W1 k1 r e a w):uL B σ W k r e a w:=by
 cases e with
 |normal=>
  obtain⟨σ',h1,h2,h3⟩:=h
  exact hn σ' a w h1 h2 (hes.trans h3 (λ_ h=>h) hW)
 |exit id=>
  obtain⟨σ',h1,h2,h3⟩:=h
  exact⟨σ',by rw[<-he];exact h1,h2,hes.trans h3 (λ_ h=>h) hW⟩
 |ret=>
  obtain⟨σ',h1,h2⟩:=h
  exact⟨σ',by rw[<-hr];exact h1,h2⟩
 |goto _=>exact h
 |panic _=>exact h
 |outgrown=>exact h
theorem uM{R:Type}{o:Option Spec}{c:Code}{W:Nat->Bool}(h:Inv B σ a w){k:Ks R}{r:R}{body:(St->Option R)->Option R}(hk:AG o W σ k.nrm body=some r)(main:∀ nrm,body nrm=some r->wpN P c (uL B σ W {k with nrm:=nrm} r) a w):
 wpN P c (uL B σ W k r) a w:=by
 unfold AG at hk
 split at hk
 ·exact main _ hk
 ·rename_i s
  cases hs:mZ σ s W
  ·simp_all
  rw[hs]at hk
  simp only[cond_true]at hk
  have hv:El σ:=by obtain⟨F,Sg,cg,h⟩:=h;exact h.ver
  have hvf:Em B σ:=by obtain⟨F,Sg,cg,h⟩:=h;exact h.Qc
  refine gI (main _ hk) (λe a' w' hp=>uL.imp (k:=k) (k1:={k with nrm:=λσ1=>CH σ s σ1 λx=>k.nrm (stJ σ s x)}) (ES.refl _ _) (λ_ h=>h) (λσ' a w h1 h2 h3=>?_) (λ_ _=>rfl) (λ_=>rfl) hp)
  grind [CJ,CK]
theorem Np{R:Type}{V:Env}(hV:fT P V){id:Nat}{ops:Array Oper}{draw:Bool}{alt:Option Alt}(h:Inv B σ a w){k:Ks R}{r:R}(hk:Rs V B.N ops draw alt σ k.nrm=some r):wpN P (Code.region id ops draw) (uL B σ (lc ops.toList) k r) a w:=by
 unfold Rs at hk
 cases hN:mY B.N ops.toList
 ·simp_all
 rw[hN]at hk
 simp only[cond_true]at hk
 cases draw
 ·simp only[cond_false]at hk
  exact rR (GA hV hN h hk (λσ' a' w' h1 h2 h3=>⟨σ',h1,h2,h3⟩))
 ·simp only[cond_true]at hk
  exact rR (wp_region_any hV.mix (JF hV hN hk (JG h) (λσ' a' w' h1 h2 h3=>⟨σ',h1,h2,h3⟩)))
theorem Ex:∀ (ss:List Nat) {σ:St},Inv B σ a w->Inv B (yl σ ss) a w/\∀ j,ER (σ.E j) ((yl σ ss).E j):=by
 intro ss
 induction ss with
 |nil=>intro σ h;exact⟨h,λ_=>.refl _⟩
 |cons s ss ih=>
  intro σ h
  simp only[yl]
  split
  ·rename_i l n π c hE
   cases hl:σ.L l with
   |none=>simp only;exact ih h
   |some b=>
    simp only
    obtain⟨F,Sg,cg,h⟩:=h
    obtain⟨g1,g2⟩:=ih ⟨_,Sg,cg,h.frz hl⟩
    exact⟨g1,λj=>(IN j).trans (g2 j)⟩
  ·exact ih h
theorem JJ:∀ (π:List Stp) (t:Ty) (m mr:Md) (x:t.T) (cs:List Value) (S F:af) (w:World),Rep F w t m x cs S->nj t π=true->gk t m π .ro=some mr->
 ∃ Sp S':af,Sub Sp S/\Sub S' S/\Dis Sp S'/\∀ F',Sub F F'->Sub Sp F'->Rep F' w t mr x cs S':=by
 intro π
 induction π with
 |nil=>
  intro t m mr x cs S F w h _ hm
  have hmr:Md.ro=mr:=by unfold gk at hm;cases t <;> (injection hm)
  subst hmr
  exact⟨S,af.none,Sub.refl _,λ_ h=>h.elim,λ_ _ h=>h.elim,λF' hF hS=>jL hF _ _ _ _ _ _ h hS⟩
 |cons p π ih=>
  intro t m mr x cs S F w h hp hm
  cases t <;> cases p <;> simp only[nj,ap]at hp
  case st.st t=>
   simp only[gk]at hm
   exact ih t m mr x cs S F w h hp hm
  case pair.fst a b=>
   simp only[gk]at hm
   cases h1:gk a m.fst π .ro with
   |none=>rw[h1]at hm;cases hm
   |some r=>
    obtain⟨c1,c2,S1,S2,rfl,g1,g2,s1,s2,d⟩:=h
    obtain⟨Sp,S1',q1,q2,q3,q4⟩:=ih a m.fst r x.1 c1 S1 F w g1 hp h1
    refine⟨Sp,S1'.or S2,q1.trans s1,λk hk=>hk.elim (λh=>s1 k (q2 k h)) (λh=>s2 k h),λk a b=>b.elim (λb=>q3 k a b) (λb=>d k (q1 k a) b),λF' hF hS=>?_⟩
    have hx1:=q4 F' hF hS
    have hx2:=aU (w':=w) hF (λ_ _=>rfl) _ _ _ _ _ _ g2 (Sub.refl _) (λ_ _=>rfl)
    rw[h1]at hm
    simp only at hm
    have fin:∀ mm:Md,mm.fst=r->mm.snd=m.snd->Rep F' w (.pair a b) mm x (c1++c2) (S1'.or S2):=λmm e1 e2=>
     ⟨c1,c2,S1',S2,rfl,by rw[e1];exact hx1,by rw[e2];exact hx2,λ_ h=>.inl h,λ_ h=>.inr h,λk a b=>d k (q2 k a) b⟩
    split at hm
    ·rename_i he
     injection hm with hm;subst hm;exact fin _ he.symm rfl
    ·injection hm with hm;subst hm;exact fin _ rfl rfl
  case pair.snd a b=>
   simp only[gk]at hm
   cases h1:gk b m.snd π .ro with
   |none=>rw[h1]at hm;cases hm
   |some r=>
    obtain⟨c1,c2,S1,S2,rfl,g1,g2,s1,s2,d⟩:=h
    obtain⟨Sp,S2',q1,q2,q3,q4⟩:=ih b m.snd r x.2 c2 S2 F w g2 hp h1
    refine⟨Sp,S1.or S2',q1.trans s2,λk hk=>hk.elim (λh=>s1 k h) (λh=>s2 k (q2 k h)),λk a b=>b.elim (λb=>d k b (q1 k a)) (λb=>q3 k a b),λF' hF hS=>?_⟩
    have hx2:=q4 F' hF hS
    have hx1:=aU (w':=w) hF (λ_ _=>rfl) _ _ _ _ _ _ g1 (Sub.refl _) (λ_ _=>rfl)
    rw[h1]at hm
    simp only at hm
    have fin:∀ mm:Md,mm.fst=m.fst->mm.snd=r->Rep F' w (.pair a b) mm x (c1++c2) (S1.or S2'):=λmm e1 e2=>
     ⟨c1,c2,S1,S2',rfl,by rw[e1];exact hx1,by rw[e2];exact hx2,λ_ h=>.inl h,λ_ h=>.inr h,λk a b=>d k a (q2 k b)⟩
    split at hm
    ·rename_i he
     injection hm with hm;subst hm;exact fin _ rfl he.symm
    ·injection hm with hm;subst hm;exact fin _ rfl rfl
  case box.deref t=>
   cases m with
   |ro=>simp[gk]at hm
   |pr _ _=>simp[gk]at hm
   |own e=>
    simp only[gk]at hm
    cases h1:gk t e π .ro with
    |none=>rw[h1]at hm;cases hm
    |some r=>
     rw[h1]at hm
     simp only[bh]at hm
     subst hm
     obtain⟨b,c,ee,rfl,hb,hS,S1,hr,s1,n1⟩:=h
     obtain⟨Sp,S1',q1,q2,q3,q4⟩:=ih t e r x _ S1 F w hr hp h1
     refine⟨Sp,λk=>S1' k\/k=b,q1.trans s1,λk hk=>hk.elim (λh=>s1 k (q2 k h)) (λh=>h ▸ hS),λk a c=>c.elim (λc=>q3 k a c) (λc=>n1 (c ▸ q1 k a)),λF' hF hSp=>?_⟩
     exact⟨b,c,ee,rfl,hb,.inr rfl,S1',q4 F' hF hSp,λk h=>.inl h,λh=>n1 (q2 b h)⟩
theorem Nq(h:Inv B σ a w)(s:Nat)(π:List Stp):Inv B (No σ s π) a w/\(No σ s π).E=σ.E:=by
 unfold No
 split
 case h_2=>exact⟨h,rfl⟩
 rename_i l n c hE
 cases hl:σ.L l with
 |none=>exact⟨h,rfl⟩
 |some b=>
 simp only
 cases hp:nj b.t π
 ·simp_all
 simp only[cond_true]
 cases hm:gk b.t b.m π .ro with
 |none=>exact⟨h,rfl⟩
 |some mr=>
 obtain⟨F,Sg,cg,h⟩:=h
 obtain⟨Sp,S',q1,q2,q3,q4⟩:=JJ π b.t b.m mr b.x (cg l) (Sg l) F w (h.lab l b hl) hp hm
 have hL:∀ j bj,upd σ.L l (some ⟨b.v+1,b.t,mr,b.x⟩) j=some bj->(j=l/\bj=⟨b.v+1,b.t,mr,b.x⟩)\/(j≠l/\σ.L j=some bj):=λj bj hj=>by grind [fv]
 refine⟨⟨λk=>F k\/Sp k,λj=>if j=l then S' else Sg j,cg,h.step (w':=w) (S:=af.none) ⟨rfl,rfl,rfl,aw _,λ_ _ _=>rfl⟩ (λ_ h=>h.elim) (λ_ h=>h.elim) ?_ ?_ ?_ ?_ ?_ (λ_ h=>.inl h) ?_ ?_⟩,rfl⟩
 ·intro j bj hj
  rcases hL j bj hj with⟨rfl,rfl⟩|⟨hne,hj⟩
  ·right
   exact⟨b,hl,cH _,rfl,by rw[if_pos rfl];exact q4 _ (λ_ h=>.inl h) (λ_ h=>.inr h)⟩
  ·left
   exact⟨hj,if_neg hne,λ_ _ h=>h.elim⟩
 ·intro j j' bj bj' hne hj hj'
  rcases hL j bj hj with⟨rfl,rfl⟩|⟨h1,hj1⟩ <;> rcases hL j' bj' hj' with⟨rfl,rfl⟩|⟨h2,hj2⟩
  ·omega
  ·rw[if_pos rfl,if_neg h2];exact(h.dis j j' b bj' hne hl hj2).mono q2 (Sub.refl _)
  ·rw[if_pos rfl,if_neg h1];exact(h.dis j j' bj b hne hj1 hl).mono (Sub.refl _) q2
  ·rw[if_neg h1,if_neg h2];exact h.dis j j' bj bj' hne hj1 hj2
 ·intro j bj hj
  rcases hL j bj hj with⟨rfl,rfl⟩|⟨h1,hj⟩
  ·rw[if_pos rfl]
   rintro k hk (hf|hf)
   ·exact h.ek j b hl k (q2 k hk) hf
   ·exact q3 k hf hk
  ·rw[if_neg h1]
   rintro k hk (hf|hf)
   ·exact h.ek j bj hj k hk hf
   ·exact h.dis j l bj b h1 hj hl k hk (q1 k hf)
 ·intro j bj hj k hk
  rcases hL j bj hj with⟨rfl,rfl⟩|⟨h1,hj⟩
  ·rw[if_pos rfl]at hk;exact h.lt j b hl k (q2 k hk)
  ·rw[if_neg h1]at hk;exact h.lt j bj hj k hk
 ·intro j bj hj k hk hlt
  rcases hL j bj hj with⟨rfl,rfl⟩|⟨h1,hj⟩
  ·rw[if_pos rfl]at hk;exact h.may j b hl k (q2 k hk) hlt
  ·rw[if_neg h1]at hk;exact h.may j bj hj k hk hlt
 ·rintro k (hk|hk)
  ·exact h.fl k hk
  ·exact h.lt l b hl k (q1 k hk)
 ·rintro k (hk|hk) hlt hn
  ·exact h.fs k hk hlt hn
  ·exact absurd (h.may l b hl k (q1 k hk) hlt) hn
theorem JK:∀ (ps:List (Nat×List Stp)) {σ:St},Inv B σ a w->Inv B (AF σ ps) a w/\(AF σ ps).E=σ.E:=by
 intro ps
 induction ps with
 |nil=>intro σ h;exact⟨h,rfl⟩
 |cons p ps ih=>
  intro σ h
  obtain⟨h1,h2⟩:=Nq h p.1 p.2
  obtain⟨h3,h4⟩:=ih h1
  exact⟨h3,h4.trans h2⟩
theorem Nr{R:Type}{V:Env}(hV:fT P V)(n:Nat):∀ (c:Code) (an:Ann) (σ:St) (k:Ks R) (r:R) (a:Act) (w:World),exec V B.N n c an σ k=some r->Inv B σ a w->wpN P c (uL B σ (wrC c) k r) a w:=by
 intro c
 induction c with
 |skip=>intro an σ k r a w hk h;exact rR (wp_skip ⟨σ,hk,h,ES.refl _ _⟩)
 |region id ops draw=>
  intro an σ k r a w hk h
  refine uM h hk (λnrm hk=>?_)
  obtain⟨h',xU⟩:=Ex an.pf h
  have hwp:=Np (id:=id) hV (k:={k with nrm:=λσ1=>nrm (AF (yl σ1 an.fz) an.pz)}) h' hk
  refine gI hwp (λe a' w' hp=>?_)
  cases e with
  |normal=>
   obtain⟨σ1,q1,q2,q3⟩:=hp
   obtain⟨g1,g2⟩:=Ex an.fz q2
   obtain⟨g3,g4⟩:=JK an.pz g1
   exact⟨_,q1,g3,λj hj=>(xU j).trans ((q3 j hj).trans (by rw[g4];exact g2 j))⟩
  |exit i=>obtain⟨σ1,q1,q2,q3⟩:=hp;exact⟨σ1,q1,q2,λj hj=>(xU j).trans (q3 j hj)⟩
  |ret=>exact hp
  |goto _=>exact hp
  |panic _=>exact hp
  |outgrown=>exact hp
 |seq x y ihx ihy=>
  intro an σ k r a w hk h
  simp only[exec]at hk
  have wx:∀ j,wrC (.seq x y) j=false->wrC x j=false:=λj hj=>by simp only[wrC,gr]at hj;exact hj.1
  have wy:∀ j,wrC (.seq x y) j=false->wrC y j=false:=λj hj=>by simp only[wrC,gr]at hj;exact hj.2
  refine Nn (gI (ihx an.a1 σ _ r a w hk h) (λe a' w' hp=>?_))
  cases e with
  |normal=>
   obtain⟨σ1,h1,h2,h3⟩:=hp
   exact gI (ihy an.a2 σ1 k r a' w' h1 h2) (λe a'' w'' hp=>uL.imp (h3.mono wx) wy (λσ' a w q1 q2 q3=>⟨σ',q1,q2,q3⟩) (λ_ _=>rfl) (λ_=>rfl) hp)
  |exit id=>obtain⟨σ1,h1,h2,h3⟩:=hp;exact⟨σ1,h1,h2,h3.mono wx⟩
  |ret=>exact hp
  |goto _=>exact hp
  |panic _=>exact hp
  |outgrown=>exact hp
 |cond c x y ihx ihy=>
  intro an σ k r a w hk h
  refine uM (W:=wrC (.cond c x y)) h hk (λnrm hk=>?_)
  have wx:∀ j,wrC (.cond c x y) j=false->wrC x j=false:=λj hj=>by simp only[wrC,gr]at hj;exact hj.1
  have wy:∀ j,wrC (.cond c x y) j=false->wrC y j=false:=λj hj=>by simp only[wrC,gr]at hj;exact hj.2
  split at hk
  ·rename_i b hc
   have hcv:a.eval c=.bool b:=by obtain⟨F,Sg,cg,h⟩:=h;exact jN (bA h hc)
   refine JH hcv ?_
   split at hk
   ·exact gI (ihx an.a1 σ _ r a w hk h) (λe a' w' hp=>uL.imp (k:={k with nrm:=nrm}) (ES.refl _ _) wx (λσ' a w q1 q2 q3=>⟨σ',q1,q2,q3⟩) (λ_ _=>rfl) (λ_=>rfl) hp)
   ·exact gI (ihy an.a2 σ _ r a w hk h) (λe a' w' hp=>uL.imp (k:={k with nrm:=nrm}) (ES.refl _ _) wy (λσ' a w q1 q2 q3=>⟨σ',q1,q2,q3⟩) (λ_ _=>rfl) (λ_=>rfl) hp)
  ·cases hk
 |block id x ihx=>
  intro an σ k r a w hk h
  refine uM (W:=wrC (.block id x)) h hk (λnrm hk=>?_)
  refine G2 (gI (ihx an.a1 σ _ r a w hk h) (λe a' w' hp=>?_))
  cases e with
  |normal=>exact hp
  |exit i=>
   obtain⟨σ1,h1,h2,h3⟩:=hp
   simp only at h1
   show(if i=id then _ else _:Prop)
   cases hb:Nat.beq i id
   ·rw[hb]at h1
    rw[if_neg (λe=>by rw[e,fc]at hb;cases hb)]
    exact⟨σ1,h1,h2,h3⟩
   ·rw[hb]at h1
    rw[if_pos (bI hb)]
    exact⟨σ1,h1,h2,h3⟩
  |ret=>exact hp
  |goto _=>exact hp
  |panic _=>exact hp
  |outgrown=>exact hp
 |loop x ihx=>
  intro an σ k r a w hk h
  simp only[exec]at hk
  cases hj:an.j with
  |none=>rw[hj]at hk;cases hk
  |some s=>
  rw[hj]at hk
  simp only at hk
  cases hs:mZ σ s (wrC x)
  ·simp_all
  rw[hs]at hk
  simp only[cond_true]at hk
  have hv:El σ:=by obtain⟨F,Sg,cg,h⟩:=h;exact h.ver
  have hvf:Em B σ:=by obtain⟨F,Sg,cg,h⟩:=h;exact h.Qc
  obtain⟨x0,hk,h0⟩:=CJ h hv hvf (ES.refl σ (wrC x)) hs hk
  refine JI (λm a w=>∃ y,aC (λy cont=>exec V B.N n x an.a1 (stJ σ s y) {k with nrm:=λσ1=>CH σ s σ1 cont}) m y=some r/\Inv B (stJ σ s y) a w) (λa w h=>by obtain⟨y,h1,_⟩:=h;cases h1) ?_ n a w ⟨x0,hk,h0⟩
  rintro m a w ⟨y,h1,h2⟩
  simp only[aC]at h1
  refine gI (ihx an.a1 _ _ r a w h1 h2) (λe a' w' hp=>?_)
  cases e with
  |normal=>
   obtain⟨σ1,q1,q2,q3⟩:=hp
   exact CJ q2 hv hvf ((CK hs y).trans q3 (λ_ h=>h) (λ_ h=>h)) hs q1
  |exit i=>obtain⟨σ1,q1,q2,q3⟩:=hp;exact⟨σ1,q1,q2,(CK hs y).trans q3 (λ_ h=>h) (λ_ h=>h)⟩
  |ret=>exact hp
  |goto _=>exact hp
  |panic _=>exact hp
  |outgrown=>exact hp
 |exit id=>intro an σ k r a w hk h;exact rR (wp_exit ⟨σ,hk,h,ES.refl _ _⟩)
 |ret=>intro an σ k r a w hk h;exact rR (wp_ret ⟨σ,hk,h⟩)
 |rangeFunc f ps x y _ _=>intro an σ k r a w hk h;cases hk
 |scope x ihx=>intro an σ k r a w hk h;exact G3 (ihx an σ k r a w hk h) λ_ _ _ h=>h
 |label l=>intro an σ k r a w hk h;exact rR (wp_label ⟨σ,hk,h,ES.refl _ _⟩)
 |goto l=>intro an σ k r a w hk h;cases hk
 |refuse s=>intro an σ k r a w hk h;cases hk
end
def eu:(ps:List (Ty×Md))->(dS ps).T->Nat->St
 |[],_,_=>⟨λ_=>none,λ_=>none,λ_=>false⟩
 |p::ps,x,i=>bif dE p.2 then(eu ps x.2 (i+1)).tW i (.val p.1 x.1)
  else {E:=upd (eu ps x.2 (i+1)).E i (some (.one (.hdr (i*8+6) 0 [] ⟨p.1,x.1⟩))),L:=upd (eu ps x.2 (i+1)).L (i*8+6) (some ⟨0,p.1,p.2,x.1⟩),U:=λj=>Nat.beq j (i*8+6)||(eu ps x.2 (i+1)).U j}
def Ns(TT:Tab)(σ:St):ResultVar->Option ar
 |.tmp t=>match σ.E t with
  |some (.one e)=>some e
  |_=>none
 |.cell a t=>match σ.E a with
  |some (.one e)=>(match TT t with|some td=>ub td σ e some|none=>none)
  |_=>none
def iW(TT:Tab)(σ:St):List ResultVar->Option (List ar)
 |[]=>some []
 |t::ts=>match Ns TT σ t with
  |some e=>(match iW TT σ ts with|some es=>some (e::es)|none=>none)
  |none=>none
def Nt{R:Type}:(ms:List (Ty×Md))->List Nat->(Nat->Option Lab)->((dS ms).T->(Nat->Option Lab)->Option R)->Option R
 |[],[],L,K=>K () L
 |p::ms,i::mi,L,K=>match L (i*8+6)with
  |some ⟨_,t,m,x⟩=>if h:t=p.1 then(bif decide (m=p.2)&&!p.1.agg then Nt ms mi (upd L (i*8+6) none) λys L'=>K (h ▸ x,ys) L' else none)else none
  |none=>none
 |_,_,_,_=>none
def JL(ps:List (Ty×Md)):List Nat->Bool
 |[]=>true
 |i::mi=>(match ps[i]? with|some p=>!dE p.2&&!p.1.agg|none=>false)&&JL ps mi
def Nu(TT:Tab)(rs:List (Ty×Md))(mi:List Nat)(ms:List (Ty×Md))(rv:List ResultVar)(σ:St):Option ((dS rs).T×(dS ms).T):=
 match iW TT σ rv with
 |some es=>kX σ rs es σ.L λx L bs=>Nt ms mi L λys L'=>bif bs.all λl=>(L' l).isSome then some (x,ys)else none
 |none=>none
def Ey(V:Env)(N n:Nat)(c:Code)(an:Ann)(ps rs:List (Ty×Md))(mi:List Nat)(ms:List (Ty×Md))(rv:List ResultVar)(x:(dS ps).T):Option ((dS rs).T×(dS ms).T):=
 exec V N n c an (eu ps x 0) {nrm:=Nu V.TT rs mi ms rv,ext:=λ_ _=>none,ret:=Nu V.TT rs mi ms rv}
section
variable {P:Program} {F:af} {w:World} {a:Act}
theorem Nv{B:dD}{vs:List Value}{S:af}(hB:B.w0=w/\B.S0=S/\B.F0=F/\(∀ l,B.fix l=none))(hsz:a.tmps.size=B.N)(hde:a.defers=[])(ha:∀ t,t<vs.length->a.tmps.getD t undef=vs.getD t undef)(hSF:Dis S F)(hF:∀ k,F k->k<w.heap.size)(hS:∀ k,S k->k<w.heap.size):
 ∀ (ps:List (Ty×Md)) (x:(dS ps).T) (i:Nat) (S':af),jj F w ps x (vs.drop i) S'->Sub S' S->∃ Sg cg,aP B F Sg cg (eu ps x i) a w/\(∀ l b,(eu ps x i).L l=some b->Sub (Sg l) S')/\(∀ l,(eu ps x i).U l=true->i*8<=l/\l % 8=6/\∀ b,(eu ps x i).L l=some b->cg l=(vs.getD (l / 8) undef).cells.toList):=by
 obtain⟨hB1,hB2,hB3,hB4⟩:=hB
 intro ps
 induction ps with
 |nil=>
  intro x i S' h fy
  refine⟨λ_=>af.none,λ_=>[],?_,λl b h=>(by cases h),λl h=>(by cases h)⟩
  exact
  {fr:=⟨by rw[hB1],by rw[hB1],by rw[hB1],by rw[hB1];exact aw _,λk _ _=>by rw[hB1]⟩
   size:=hsz
   defers:=hde
   f0:=by rw[hB3];exact Sub.refl _
   fl:=hF
   fs:=λk hk _ _=>by rw[hB3];exact hk
   lab:=λl b h=>by cases h
   dis:=λl l' b b' _ h=>by cases h
   ek:=λl b h=>by cases h
   lt:=λl b h=>by cases h
   may:=λl b h=>by cases h
   used:=λl b h=>by cases h
   fix:=λl cs h=>by rw[hB4]at h;cases h
   ent:=λt e h=>by cases h}
 |cons p ps ih=>
  intro x i S' h fy
  obtain⟨v,vs',cs,S1,S2,e,h1,h2,h3,s1,s2,d⟩:=h
  have hi:i<vs.length:=by
   rcases aj i vs.length with h|h
   ·exact h
   ·rw[dX h]at e;cases e
  have hv:vs.getD i undef=v:=by
   rw[cq hi]at e
   injection e with e1 e2
   simp[hi,e1]
  have WD:vs'=vs.drop (i+1):=by
   rw[<-List.tail_drop,e];rfl
  rw[WD]at h3
  obtain⟨Sg,cg,g1,g2,g3⟩:=ih x.2 (i+1) S2 h3 (s2.trans fy)
  have Qf:a.tmps.getD i undef=v:=by rw[ha i hi,hv]
  simp only[eu]
  cases hm:dE p.2
  ·simp only[cond_false]
   have hU:(eu ps x.2 (i+1)).U (i*8+6)=false:=by
    cases hu:(eu ps x.2 (i+1)).U (i*8+6)
    ·rfl
    ·have:=(g3 _ hu).1;omega
   have i1:=g1.jQ (w':=w) rfl rfl rfl (aw _) (l:=i*8+6) (b:=⟨0,p.1,p.2,x.1⟩) hU (upd (eu ps x.2 (i+1)).L (i*8+6) (some ⟨0,p.1,p.2,x.1⟩)) (λ_ _ _=>rfl) h1 (aG _ _ _) (λj hj=>.inr (aW _ _ hj))
    (λk hk=>⟨λj bj hj hbj hs=>by rw[aW _ _ hj]at hbj;exact d k hk (g2 j bj hbj k hs),λhf=>hSF k (fy k (s1 k hk)) hf,hS k (fy k (s1 k hk)),λ_=>by rw[hB2];exact fy k (s1 k hk)⟩)
   refine⟨_,_,i1.yf (s:=i) (e:=.one (.hdr (i*8+6) 0 [] ⟨p.1,x.1⟩)) (gg i1 (l:=i*8+6) (b:=⟨0,p.1,p.2,x.1⟩) (aG _ _ _) (by rw[Qf];simpa using h2)),λl b hl=>?_,λl hl=>?_⟩
   ·rcases fv hl with⟨e,_⟩|⟨e,e'⟩
    ·rw[if_pos e];exact s1
    ·rw[if_neg e];exact(g2 l b e').trans s2
   ·by_cases e:l=i*8+6
    ·refine⟨by omega,by omega,λb _=>?_⟩
     rw[if_pos e,show l / 8=i by omega,hv,h2.cells]
    ·have hl':(eu ps x.2 (i+1)).U l=true:=by
      simp only[aJ]at hl
      rcases hl with hl|hl
      ·exact absurd (bI hl) e
      ·exact hl
     obtain⟨q1,q2,q3⟩:=g3 l hl'
     refine⟨by omega,q2,λb hb=>?_⟩
     rw[if_neg e]
     simp only[aW _ _ e]at hb
     exact q3 b hb
  ·simp only[cond_true]
   refine⟨Sg,cg,g1.yf (s:=i) (e:=.one (.val p.1 x.1)) ⟨cs,eI _ _ hm _ _ _ _ h1,by rw[Qf];exact h2⟩,λl b hl=>(g2 l b hl).trans s2,λl hl=>?_⟩
   obtain⟨q1,q2,q3⟩:=g3 l hl
   exact⟨by omega,q2,q3⟩
theorem ym{t:TypeId}{v z:Value}(h:(Instr.loadAt t v).run P w=.ok z w):(do loadVar t (<-asAddr v):Sem Value).run P w=.ok z w:=by
 unfold Instr.loadAt Instr.sureAddr at h
 split at h
 all_goals simp_all [asAddr]
theorem AH{B:dD}{Sg:Nat->af}{cg:Nat->List Value}{σ:St}(h:aP B F Sg cg σ a w){TT:Tab}(hT:cK P TT){f:ResultVar->Sem Value}(hf:∀ t,f (.tmp t)=pure (a.tmps.getD t undef))(hf2:∀ t u,f (.cell t u)=(do loadVar u (<-asAddr (a.tmps.getD t undef)):Sem Value)):
 ∀ {ts:List ResultVar} {es:List ar},iW TT σ ts=some es->∃ vs,cC F w σ.L σ.U cg es vs/\(List.mapM f ts).run P w=.ok vs w:=by
 intro ts
 induction ts with
 |nil=>intro es he;simp only[iW,bh]at he;subst he;exact⟨[],rfl,by simp[bP]⟩
 |cons t ts ih=>
  intro es he
  simp only[iW]at he
  cases h1:Ns TT σ t with
  |none=>rw[h1]at he;cases he
  |some e=>
  rw[h1]at he
  simp only at he
  cases h2:iW TT σ ts with
  |none=>rw[h2]at he;cases he
  |some es'=>
  rw[h2]at he
  simp only[bh]at he
  subst he
  obtain⟨vs,g1,g2⟩:=ih h2
  have one:∃ z,aF F w σ.L σ.U cg e z/\(f t).run P w=.ok z w:=by
   cases t with
   |tmp t=>
    simp only[Ns]at h1
    split at h1
    ·rename_i e' hE
     injection h1 with h1
     subst h1
     exact⟨_,h.ent t _ hE,by rw[hf,bP]⟩
    ·cases h1
   |cell t u=>
    simp only[Ns]at h1
    split at h1
    ·rename_i e' hE
     cases hu:TT u with
     |none=>rw[hu]at h1;cases h1
     |some td=>
      rw[hu]at h1
      obtain⟨e2,z,k1,k2,k3⟩:=zC h (hT u td hu) h1 (h.ent t _ hE)
      grind [ym]
    ·cases h1
  obtain⟨z,o1,o2⟩:=one
  refine⟨z::vs,⟨_,_,rfl,o1,g1⟩,?_⟩
  simp_all
theorem Nw{B:dD}{Sg:Nat->af}{cg:Nat->List Value}{σ:St}(h:aP B F Sg cg σ a w){F2:af}(hFF:Sub F F2){vs:List Value}{mi0:List Nat}(WE:∀ i,i∈mi0->∀ b,σ.L (i*8+6)=some b->b.t.agg=false->VR b.t (cg (i*8+6)) (vs.getD i undef)){R:Type}:∀ (ms:List (Ty×Md)) (mi:List Nat) (L:Nat->Option Lab) (K:(dS ms).T->(Nat->Option Lab)->Option R) (r:R),Nt ms mi L K=some r->(∀ i∈mi,i∈mi0)->(∀ j,L j=none\/L j=σ.L j)->
 ∃ ys L' Sm,K ys L'=some r/\jj F2 w ms ys (mi.map λi=>vs.getD i undef) Sm/\(∀ j,L' j=none\/L' j=L j)/\(∀ k,Sm k->∃ l2 b2,L l2=some b2/\σ.L l2=some b2/\L' l2=none/\Sg l2 k):=by
 intro ms
 induction ms with
 |nil=>
  intro mi L K r hk hmi hL
  cases mi with
  |nil=>exact⟨(),L,af.none,hk,rfl,λ_=>.inr rfl,λ_ h=>h.elim⟩
  |cons _ _=>cases hk
 |cons p ms ih=>
  intro mi L K r hk hmi hL
  cases mi with
  |nil=>cases hk
  |cons i mi=>
   simp only[Nt]at hk
   cases hl:L (i*8+6)with
   |none=>rw[hl]at hk;cases hk
   |some b=>
    rw[hl]at hk
    obtain⟨v,t,m,x⟩:=b
    simp only at hk
    split at hk
    ·rename_i ht
     cases hm:decide (m=p.2)&&!p.1.agg
     ·rw[hm]at hk;cases hk
     rw[hm]at hk
     simp only[cond_true]at hk
     simp only[ag,bC]at hm
     obtain⟨hm,hag⟩:=hm
     replace hm:=of_decide_eq_true hm
     have hσ:σ.L (i*8+6)=some ⟨v,t,m,x⟩:=by
      rcases hL (i*8+6)with e|e
      ·rw[e]at hl;cases hl
      ·rw[<-e];exact hl
     have hLu:∀ j,upd L (i*8+6) none j=none\/upd L (i*8+6) none j=L j:=λj=>by
      by_cases e:j=i*8+6
      ·subst e;exact .inl (aG _ _ _)
      ·exact .inr (aW _ _ e)
     obtain⟨ys,L',Sm,g1,g2,g3,g4⟩:=ih mi _ _ r hk (λi hi=>hmi i (by simp[hi])) (λj=>by
      rcases hLu j with e|e
      ·exact .inl e
      ·rw[e];exact hL j)
     have bF:=aU hFF (λ_ _=>rfl) _ _ _ _ _ _ (h.lab _ _ hσ) (Sub.refl _) (λ_ _=>rfl)
     have hvr:=WE i (hmi i (by simp)) _ hσ (show t.agg=false by rw[ht];exact hag)
     have WG:L' (i*8+6)=none:=by
      rcases g3 (i*8+6)with e|e
      ·exact e
      ·rw[e];exact aG _ _ _
     obtain⟨p1,p2⟩:=p
     simp only at ht hm
     subst ht;subst hm
     refine⟨(x,ys),L',(Sg (i*8+6)).or Sm,g1,⟨_,_,_,Sg (i*8+6),Sm,rfl,bF,hvr,g2,λk h=>.inl h,λk h=>.inr h,λk h1 h2=>?_⟩,λj=>?_,λk hk=>?_⟩
     ·obtain⟨l2,b2,q1,q2,q3,q4⟩:=g4 k h2
      by_cases e:i*8+6=l2
      ·subst e;rw[aG]at q1;cases q1
      ·exact h.dis _ l2 _ b2 e hσ q2 k h1 q4
     ·rcases g3 j with e|e
      ·exact .inl e
      ·rw[e];exact hLu j
     ·rcases hk with hk|hk
      ·exact⟨_,_,hl,hσ,WG,hk⟩
      ·obtain⟨l2,b2,q1,q2,q3,q4⟩:=g4 k hk
       refine⟨l2,b2,?_,q2,q3,q4⟩
       rcases hLu l2 with e|e
       ·rw[e]at q1;cases q1
       ·rw[<-e];exact q1
    ·cases hk
theorem AI{B:dD}{Sg:Nat->af}{cg:Nat->List Value}{σ:St}(h:aP B F Sg cg σ a w){TT:Tab}(hT:cK P TT){fn:Func}{rv:List ResultVar}(hr:fn.results=rv.toArray){es:List ar}(he:iW TT σ rv=some es):∃ vs,cC F w σ.L σ.U cg es vs/\(results fn a.tmps).run P w=.ok (Cx vs) w:=by
 unfold results
 rw[hr,ba,Array.mapM_eq_mapM_toList]
 generalize hf:(λx:ResultVar=>(match x with
  |.tmp t=>pure (a.tmps.getD t undef)
  |.cell c t=>do loadVar t (<-asAddr (a.tmps.getD c undef)):Sem Value))=f
 obtain⟨vs,g1,g2⟩:=AH h hT (f:=f) (λt=>by rw[<-hf]) (λt u=>by rw[<-hf]) he
 refine⟨vs,g1,?_⟩
 rw[show Sem.run P (List.toArray <$> List.mapM f rv.toArray.toList) w=.ok vs.toArray w by
  change Sem.run P (List.mapM f rv >>= λl=>pure l.toArray) w=_
  simp only[ba,g2,bw,bP]]
 simp only[bw,bP]
 congr 1
 cases vs with
 |nil=>simp[Cx]
 |cons t rv=>
  cases rv with
  |nil=>simp[Cx]
  |cons t2 rv=>simp[Cx]
theorem jj.get:∀ {ps:List (Ty×Md)} {x:(dS ps).T} {vs:List Value} {S:af} (i:Nat) (p:Ty×Md),jj F w ps x vs S->ps[i]?=some p->∃ cs,VR p.1 cs (vs.getD i undef):=by
 intro ps
 induction ps with
 |nil=>intro x vs S i p _ h;simp at h
 |cons q ps ih=>
  rintro x vs S i p ⟨v,vs',cs,S1,S2,rfl,h1,h2,h3,_⟩ hi
  grind
theorem Rt:∀ (ps:List (Ty×Md)) (x:(dS ps).T) (i j:Nat) (p:Ty×Md),ps[j]?=some p->dE p.2=false->(eu ps x i).U ((i+j)*8+6)=true:=by
 intro ps
 induction ps with
 |nil=>intro x i j p h;simp at h
 |cons q ps ih=>
  intro x i j p h hp
  cases j with
  |zero=>simp_all [eu]
  |succ j=>
   simp at h
   have:=ih x.2 (i+1) j p h hp
   rw[show i+1+j=i+(j+1) by omega]at this
   simp only[eu]
   cases dE q.2
   ·simp_all
   ·exact this
theorem JM{ps:List (Ty×Md)}:∀ {mi:List Nat},JL ps mi=true->∀ i∈mi,∃ p,ps[i]?=some p/\dE p.2=false/\p.1.agg=false:=by
 intro mi
 induction mi with
 |nil=>intro _ i h;simp at h
 |cons j mi ih=>
  intro h i hi
  simp only[JL,ag]at h
  grind
theorem Uo{V:Env}(hV:fT P V){f:FuncId}{fn:Func}{c:Code}(hf:P.funcs[f]?=some fn)(hb:fn.body=some c){ps rs:List (Ty×Md)}{mi:List Nat}{ms:List (Ty×Md)}{rv:List ResultVar}(hr:fn.results=rv.toArray){N:Nat}(hN:fn.ntmps=N)(hps:ps.length<=N)(hmi:JL ps mi=true)(an:Ann)(n:Nat):
 fL P f ⟨ps,rs,mi,ms,Ey V N n c an ps rs mi ms rv⟩:=by
 intro x r hx F w S vs jS hSF hF hS hG
 refine yk hf hb ?_
 have hlen:=jS.len
 simp only at hlen
 have hx:Ey V N n c an ps rs mi ms rv x=some r:=hx
 have jS:jj F w ps x vs S:=jS
 generalize ha0:({tmps:=vs.toArray++Array.replicate (fn.ntmps-vs.toArray.size) undef,defers:=[]}:Act)=a0
 have hsz:a0.tmps.size=N:=by rw[<-ha0];simp;omega
 have hde:a0.defers=[]:=by rw[<-ha0]
 have vX:∀ t,t<vs.length->a0.tmps.getD t undef=vs.getD t undef:=λt ht=>by
  rw[<-ha0]
  simp only[Array.getD_eq_getD_getElem?]
  grind
 obtain⟨Sg,cg,i0,_,i2⟩:=Nv (a:=a0) (B:=⟨w,S,F,N,λ_=>none,hG,λp hp h=>hSF p h (hG p hp).1,λp hp=>hF p (hG p hp).1⟩) ⟨rfl,rfl,rfl,λ_=>rfl⟩ hsz hde vX hSF hF hS ps x 0 S (by simpa using jS) (Sub.refl _)
 let B:dD:=⟨w,S,F,N,λl=>if(eu ps x 0).U l=true then some ((vs.getD (l / 8) undef).cells.toList)else none,hG,λp hp h=>hSF p h (hG p hp).1,λp hp=>hF p (hG p hp).1⟩
 have i1:aP B F Sg cg (eu ps x 0) a0 w:=
  {i0 with
   fr:=i0.fr
   fix:=λl cs hl=>by
    simp only[B]at hl
    by_cases hu:(eu ps x 0).U l=true
    ·rw[if_pos hu]at hl
     injection hl with hl
     obtain⟨_,q2,q3⟩:=i2 l hu
     exact⟨⟨hu,q2⟩,λb hb=>by rw[<-hl];exact q3 b hb⟩
    ·rw[if_neg hu]at hl;cases hl}
 have hwp:=Nr (B:=B) hV n c an (eu ps x 0) _ r a0 w hx ⟨F,Sg,cg,i1⟩
 have fin:∀ (σ':St) (a':Act) (w':World),Nu V.TT rs mi ms rv σ'=some r->Inv B σ' a' w'->a'.defers=[]/\∃ v,(results fn a'.tmps).run P w'=.ok v w'/\us ⟨ps,rs,mi,ms,Ey V N n c an ps rs mi ms rv⟩ r F w S vs (.returned v) w':=by
  rintro σ' a' w' hk ⟨F',Sg',cg',h⟩
  unfold Nu at hk
  cases hes:iW V.TT σ' rv with
  |none=>rw[hes]at hk;cases hk
  |some es=>
  rw[hes]at hk
  simp only at hk
  obtain⟨ws,Up,bX⟩:=AI h hV.tab hr hes
  refine⟨h.defers,_,bX,?_⟩
  obtain⟨x',L1,bs,Sr,hk,hA,hL1,hSr,hbs⟩:=zT h rs es _ σ'.L _ r hk Up (λ_=>.inr rfl)
  have hFF:Sub F' (λk=>F' k\/∃ l∈bs,Sg' l k):=λk hk=>.inl hk
  obtain⟨ys,L2,Sm,hk,hM,hL2,hSm⟩:=Nw h hFF (vs:=vs) (mi0:=mi) (λi hi b hb hag=>by
   obtain⟨p,hp,ho,hpa⟩:=JM hmi i hi
   have hU:=Rt ps x 0 i p hp ho
   rw[eF]at hU
   have hq:=(h.fix (i*8+6) ((vs.getD i undef).cells.toList) (by
    simp only[B]
    rw[if_pos hU,show(i*8+6) / 8=i by omega])).2 b hb
   obtain⟨cs,hcs⟩:=jS.get i p hp
   rw[hq,hcs.cells]
   unfold VR at hcs |-
   rw[hpa]at hcs
   rw[hag]
   exact hcs) ms mi L1 _ r hk (λ_ h=>h) hL1
  cases fK:bs.all λl=>(L2 l).isSome
  ·rw[fK]at hk;cases hk
  rw[fK]at hk
  simp only[cond_true,bh]at hk
  subst hk
  simp only[cG]at fK
  have hbl:∀ l∈bs,∃ b,L2 l=some b/\L1 l=some b/\σ'.L l=some b:=λl hl=>by
   obtain⟨b,hb⟩:=nV.1 (fK l hl)
   have h1:L1 l=some b:=by
    rcases hL2 l with e|e
    ·rw[e]at hb;cases hb
    ·rw[<-e];exact hb
   refine⟨b,hb,h1,?_⟩
   rcases hL1 l with e|e
   ·rw[e]at h1;cases h1
   ·rw[<-e];exact h1
  have WH:∀ k,Sr k\/Sm k->¬∃ l∈bs,Sg' l k:=by
   rintro k hk ⟨l,hl,hlk⟩
   obtain⟨b,q1,q2,q3⟩:=hbl l hl
   rcases hk with hk|hk
   ·obtain⟨l2,b2,e1,e2,e3,e4⟩:=hSr k hk
    by_cases e:l2=l
    ·subst e;rw[e3]at q2;cases q2
    ·exact h.dis l2 l b2 b e e2 q3 k e4 hlk
   ·obtain⟨l2,b2,e1,e2,e3,e4⟩:=hSm k hk
    by_cases e:l2=l
    ·subst e;rw[e3]at q1;cases q1
    ·exact h.dis l2 l b2 b e e2 q3 k e4 hlk
  refine⟨_,λk=>F' k\/∃ l∈bs,Sg' l k,Sr,Sm,rfl,hA _ hFF (λl hl k hk=>.inr ⟨l,hl,hk⟩),hM,?_,h.fr,?_,?_,?_,?_⟩
  ·intro k h1 h2
   obtain⟨l2,b2,e1,e2,e3,e4⟩:=hSr k h1
   obtain⟨l3,b3,f1,f2,f3,f4⟩:=hSm k h2
   by_cases e:l2=l3
   ·subst e;rw[e3]at f1;cases f1
   ·exact h.dis l2 l3 b2 b3 e e2 f2 k e4 f4
  ·exact λk hk=>.inl (h.f0 k hk)
  ·rintro k (hk|⟨l,hl,hk⟩)
   ·exact h.fl k hk
   ·obtain⟨b,_,_,q3⟩:=hbl l hl;exact h.lt l b q3 k hk
  ·rintro k (hk|⟨l,hl,hk⟩) hlt hns
   ·exact h.fs k hk hlt hns
   ·obtain⟨b,_,_,q3⟩:=hbl l hl;exact absurd (h.may l b q3 k hk hlt) hns
  ·intro k hk
   have hl2:∃ l2 b2,σ'.L l2=some b2/\Sg' l2 k:=by
    rcases hk with hk|hk
    ·obtain⟨l2,b2,e1,e2,e3,e4⟩:=hSr k hk;exact⟨l2,b2,e2,e4⟩
    ·obtain⟨l2,b2,e1,e2,e3,e4⟩:=hSm k hk;exact⟨l2,b2,e2,e4⟩
   obtain⟨l2,b2,e2,e4⟩:=hl2
   exact⟨h.lt l2 b2 e2 k e4,λhf=>hf.elim (h.ek l2 b2 e2 k e4) (WH k hk),λhlt=>h.may l2 b2 e2 k e4 hlt⟩
 exact gI hwp (λe a' w' hp=>by
  cases e with
  |normal=>obtain⟨σ',h1,h2,_⟩:=hp;exact fin σ' a' w' h1 h2
  |ret=>obtain⟨σ',h1,h2⟩:=hp;exact fin σ' a' w' h1 h2
  |exit i=>obtain⟨σ',h1,_⟩:=hp;cases h1
  |goto _=>exact hp.elim
  |panic _=>exact hp.elim
  |outgrown=>exact hp.elim)
end
def AJ:List (Nat×TD)->Tab
 |[]=>λ_=>none
 |p::ps=>λt=>bif Nat.beq t p.1 then some p.2 else AJ ps t
def Uq(P:Program):List (Nat×TD)->Prop
 |[]=>True
 |p::ps=>TOk P p.1 p.2/\Uq P ps
theorem JN{P:Program}:∀ {l:List (Nat×TD)},Uq P l->cK P (AJ l):=by
 intro l
 induction l with
 |nil=>intro _ t d h;cases h
 |cons p ps ih=>
  intro hl t d h
  simp only[AJ]at h
  cases hb:Nat.beq t p.1
  ·rw[hb]at h;exact ih hl.2 t d h
  ·rw[hb]at h
   simp only[cond_true,bh]at h
   subst h
   rw[bI hb]
   exact hl.1
theorem av{P:Program}{t:Nat}{i:TypeInfo}{d:TD}{z:Value}(h:∀ w:World,(typeInfo t).run P w=.ok i w)(h1:i.size=d.ty.width)(h2:i.bytes=d.bytes)(h3:i.zero=some z)(h4:z.cells.toList=d.zero):∃ i z,P.info? t=some i/\i.size=d.ty.width/\i.bytes=d.bytes/\i.zero=some z/\z.cells.toList=d.zero:=by
 refine⟨i,z,?_,h1,h2,h3,h4⟩
 have h0:=h default
 cases hi:P.info? t with
 |none=>simp[typeInfo,hi]at h0
 |some j=>
  simp[typeInfo,hi]at h0
  rw[h0]
theorem jh{P:Program}{t:Nat}{i:TypeInfo}{d:TD}{k0:IntKind}(hd:d.kd=.int k0)(h:∀ w:World,(typeInfo t).run P w=.ok i w)(h3:i.zero=some (.int k0 0)):∀ k,d.kd=.int k->∃ i,P.info? t=some i/\i.zero=some (.int k 0):=by
 intro k hk
 rw[hd]at hk
 cases hk
 have h0:=h default
 cases hi:P.info? t with
 |none=>simp[typeInfo,hi]at h0
 |some j=>
  simp[typeInfo,hi]at h0
  exact⟨j,rfl,by rw[h0];exact h3⟩
theorem aR{P:Program}{t:Nat}{d:TD}(hd:(match d.kd with|.int _=>false|_=>true)=true):∀ k,d.kd=.int k->∃ i,P.info? t=some i/\i.zero=some (.int k 0):=by
 intro k hk
 rw[hk]at hd
 cases hd
def Ez:List (FuncId×Callee)->FuncId->Option Callee
 |[],_=>none
 |p::ps,f=>bif Nat.beq f p.1 then some p.2 else Ez ps f
def gW(P:Program):List (FuncId×Callee)->Prop
 |[]=>True
 |p::ps=>(fL P p.1 p.2/\Plain P p.1)/\gW P ps
theorem JO{P:Program}:∀ {l:List (FuncId×Callee)},gW P l->∀ f c,Ez l f=some c->fL P f c/\Plain P f:=by
 intro l
 induction l with
 |nil=>intro _ f c h;cases h
 |cons p ps ih=>
  intro hl f c h
  simp only[Ez]at h
  cases hb:Nat.beq f p.1
  ·rw[hb]at h;exact ih hl.2 f c h
  ·rw[hb]at h
   simp only[cond_true,bh]at h
   subst h
   rw[bI hb]
   exact hl.1
theorem fL.of_eq{P:Program}{f:FuncId}{ps rs:List (Ty×Md)}{mi:List Nat}{ms:List (Ty×Md)}{den Ru:(dS ps).T->Option ((dS rs).T×(dS ms).T)}(h:fL P f ⟨ps,rs,mi,ms,den⟩)(he:∀ x,Ru x=den x):fL P f ⟨ps,rs,mi,ms,Ru⟩:=by
 have:Ru=den:=funext he
 rw[this];exact h
def G4(rd:TypeId->Ty->Bool):List (TypeId×Nat)->Ty->Nat->Bool
 |[],u,_=>(match u with|.unit=>true|_=>false)
 |[p],u,k=>Nat.beq p.2 k&&rd p.1 u
 |p::q::fs,u,k=>(match u with
  |.pair a b=>Nat.beq p.2 k&&(rd p.1 a&&G4 rd (q::fs) b (k+a.width))
  |_=>false)
def tp(TT:Tab):Nat->TypeId->Ty->Bool
 |0,_,_=>false
 |n+1,t,ty=>match TT t with
  |none=>false
  |some d=>decide (d.ty=ty)&&(match d.kd with
   |.int k=>decide (ty=.int k)
   |.bool=>decide (ty=.bool)
   |.str=>decide (ty=.str)
   |.slice e=>(match ty with|.sl u=>tp TT n e u&&Nat.blt 0 u.width|_=>false)
   |.array m e=>(match ty with|.arr m' u=>Nat.beq m m'&&tp TT n e u|_=>false)
   |.struct fs=>(match ty with|.st u=>G4 (tp TT n) fs u 0|_=>false)
   |_=>false)
theorem nk{TT:Tab}{P:Program}(hT:cK P TT){n:Nat}{t:TypeId}{ty:Ty}(h:tp TT n t ty=true):P.cellsOf t=ty.width:=by
 cases n with
 |zero=>cases h
 |succ n=>
  simp only[tp]at h
  cases hd:TT t with
  |none=>rw[hd]at h;cases h
  |some d=>
   rw[hd]at h
   simp only[ag,decide_eq_true_eq]at h
   obtain⟨i,z,h1,h2,_⟩:=(hT t d hd).vS
   simp[Program.cellsOf,h1,h2,h.1]
theorem mapM_some{α β:Type}{f:α->Option β}:∀ {l:List α} {xs:List β},l.mapM f=some xs->xs.length=l.length/\∀ (i:Nat) (a:α),l[i]?=some a->∃ x:β,xs[i]?=some x/\f a=some x:=by
 intro l
 induction l with
 |nil=>intro xs h;simp at h;subst h;exact⟨rfl,λi a h=>by simp at h⟩
 |cons a l ih=>
  intro xs h
  rw[List.mapM_cons]at h
  cases ha:f a with
  |none=>rw[ha]at h;cases h
  |some b=>
   rw[ha]at h
   cases hl:l.mapM f with
   |none=>rw[hl]at h;cases h
   |some bs=>
    rw[hl]at h
    have h:some (b::bs)=some xs:=h
    injection h with h
    subst h
    obtain⟨h1,h2⟩:=ih hl
    refine⟨by simp[h1],λi x hi=>?_⟩
    cases i with
    |zero=>simp at hi;subst hi;exact⟨b,rfl,ha⟩
    |succ i=>simp at hi;simpa using h2 i x hi
section
variable {H:Type} {enc:TypeId×Value->H} {P:Program} {w:World}
theorem JP{a:Addr}{n:Nat}{cs:List Value}(h:w.cells? 0 a n=some cs):cs.length=n/\At w a cs:=by
 unfold World.cells? at h
 rw[if_pos (az _)]at h
 obtain⟨h1,h2⟩:=mapM_some h
 refine⟨by simpa using h1,λj v hj=>?_⟩
 have hlt:j<n:=by have:=(List.getElem?_eq_some_iff.1 hj).1;simp at h1;omega
 obtain⟨x,hx,hc⟩:=h2 j j (by simp[hlt])
 rw[hj]at hx
 injection hx with hx
 rw[hx];exact hc
theorem Ny{t:Ty}{F:af}{a:Addr}{len:Nat}(h:∀ i,i<len->∃ cs x,w.cells? 0 (a.add (i*t.width)) t.width=some cs/\Rep F w t .ro x cs af.none):∃ (xs:List t.T) (ds:List Value),xs.length=len/\At w a ds/\ds.length=len*t.width/\bm (Rep F w t .ro) xs ds af.none:=by
 induction len with
 |zero=>exact⟨[],[],rfl,λj v hj=>by simp at hj,by simp,rfl⟩
 |succ len ih=>
  obtain⟨xs,ds,h1,h2,h3,h4⟩:=ih (λi hi=>h i (by omega))
  obtain⟨cs,x,h5,h6⟩:=h len (by omega)
  obtain⟨h7,h8⟩:=JP h5
  refine⟨xs++[x],ds++cs,by simp[h1],λj v hj=>?_,by rw[ak,h3,h7,jC],?_⟩
  ·rcases aj j ds.length with hlt|hge
   ·rw[List.getElem?_append_left hlt]at hj;exact h2 j v hj
   ·rw[List.getElem?_append_right hge]at hj
    have:=h8 (j-ds.length) v hj
    rw[add_add,<-h3]at this
    rw[show ds.length+(j-ds.length)=j by omega]at this
    exact this
  ·have h7:bm (Rep F w t .ro) [x] cs af.none:=⟨cs,[],af.none,af.none,by simp,h6,rfl,Sub.refl _,Sub.refl _,λ_ h=>h.elim⟩
   exact(bm.append h4 h7 (λ_ h=>h.elim)).mono (λk h=>h.elim id id)
theorem Nz{a:Addr}{v:Value}(h:w.cell? a=some v):a.block<w.heap.size:=by
 rcases aj a.block w.heap.size with h'|h'
 ·exact h'
 ·simp[World.cell?,Array.getElem?_eq_none h']at h
def LtB(w:World):af:=λk=>k<w.heap.size
theorem Ry{TT:Tab}(hT:cK P TT){n:Nat}{F:af}{g:TypeId->List Value->Prop}
 (ih:∀ t ty cs,tp TT n t ty=true->g t cs->∃ x,Rep F w ty .ro x cs af.none):
 ∀ (fs:List (TypeId×Nat)) (u:Ty) (k:Nat) (cs:List Value),G4 (tp TT n) fs u k=true->k<=cs.length->(cs.length=k+u.width)->
  (∀ f∈fs,g f.1 ((cs.drop f.2).take (P.cellsOf f.1)))->∃ x,Rep F w u .ro x (cs.drop k) af.none:=by
 intro fs
 induction fs with
 |nil=>
  intro u k cs h hk hl _
  cases u <;> simp only[G4,ap]at h
  exact⟨(),dX (by simp[Ty.width]at hl;omega)⟩
 |cons p fs ihf=>
  intro u k cs h hk hl hg
  cases fs with
  |nil=>
   simp only[G4,ag]at h
   obtain⟨x,hx⟩:=ih p.1 u _ h.2 (hg p (by simp))
   rw[bI h.1,nk hT h.2,bK (by rw[bD];omega)]at hx
   exact⟨x,hx⟩
  |cons q fs=>
   simp only[G4]at h
   cases u <;> simp only[ap,ag]at h
   rename_i a b
   obtain⟨h1,h2,h3⟩:=h
   simp only[Ty.width]at hl
   obtain⟨x,hx⟩:=ih p.1 a _ h2 (hg p (by simp))
   obtain⟨y,hy⟩:=ihf b (k+a.width) cs h3 (by omega) (by omega) (λf hf=>hg f (by simp only[aI]at hf |-;exact .inr hf))
   rw[bI h1,nk hT h2]at hx
   refine⟨(x,y),_,_,af.none,af.none,?_,hx,hy,Sub.refl _,Sub.refl _,λ_ h=>h.elim⟩
   rw[<-ij]
   exact(fC _ _).symm
theorem JQ{TT:Tab}(hT:cK P TT){spare:Nat->Bool}{held:Bool}:∀ (n:Nat) (t:TypeId) (ty:Ty),tp TT n t ty=true->∀ (bZ:Nat) (cs:List Value) (d:DataW H×List MemPlace),DataW.trod enc P w 0 spare held bZ t cs=some d->∃ x,Rep (LtB w) w ty .ro x cs af.none:=by
 intro n
 induction n with
 |zero=>intro t ty h;cases h
 |succ n ih=>
  intro t ty h bZ cs d hd
  have Ur:=nk hT h
  simp only[tp]at h
  cases hdd:TT t with
  |none=>rw[hdd]at h;cases h
  |some td=>
  rw[hdd]at h
  simp only[ag,decide_eq_true_eq]at h
  obtain⟨hty,h⟩:=h
  have bN:=(hT t td hdd).desc
  split at h
  ·rename_i k hk
   rw[hk]at bN
   have h:=of_decide_eq_true h
   subst h
   obtain⟨m,rfl,_,hwf⟩:=DataW.trod_int bN.1 hd
   refine⟨m,rfl,?_⟩
   simp only[Lit.wf,ag,decide_eq_true_eq]at hwf
   revert hwf
   cases k <;> simp[inK,kLo,kHi,IntKind.min,IntKind.max,IntKind.signed,IntKind.bits] <;> omega
  ·rename_i hk
   rw[hk]at bN
   have h:=of_decide_eq_true h
   subst h
   obtain⟨m,rfl,_⟩:=DataW.trod_bool bN.1 hd
   exact⟨m,rfl⟩
  ·rename_i hk
   rw[hk]at bN
   have h:=of_decide_eq_true h
   subst h
   obtain⟨m,rfl,_,hs⟩:=DataW.trod_string bN.1 hd
   exact⟨cd m,m,rfl,rfl,hs⟩
  ·rename_i e hk
   rw[hk]at bN
   cases ty <;> simp only[ap]at h
   rename_i u
   simp only[ag]at h
   obtain⟨h,hw0⟩:=h
   have hw0:=show 0<u.width by simpa [kR]using hw0
   rcases DataW.trod_slice bN hd with⟨rfl,_⟩|⟨a,len,cap,Qg,rest,m,_,rfl,_,_,h1,h2,h3,h4,_⟩
   ·exact⟨[],none,0,rfl,aw _,az _,λh=>absurd h (dZ _)⟩
   ·have kh:=nk hT h
    have eR:∀ i,i<len->∃ cs x,w.cells? 0 (a.add (i*u.width)) u.width=some cs/\Rep (LtB w) w u .ro x cs af.none:=λi hi=>by
     have:=h4 i hi
     rw[kh]at this
     cases hc:w.cells? 0 (a.add (i*u.width)) u.width with
     |none=>rw[hc]at this;simp[List.getElem?_eq_getElem (show i<Qg.length by omega)]at this
     |some cs=>
      rw[hc]at this
      simp only[ig]at this
      rw[List.getElem?_eq_getElem (show i<Qg.length by omega)]at this
      obtain⟨x,hx⟩:=ih e u h _ _ _ this
      exact⟨cs,x,rfl,hx⟩
    obtain⟨xs,ds,g1,g2,g3,g4⟩:=Ny eR
    refine⟨xs,some a,cap,?_,by rw[g1];exact h1,h2,λhp=>⟨a,rfl,?_,ds,g2,g4⟩⟩
    ·show _=[Value.slice (some a) (List.length xs) cap];rw[g1]
    ·have h0:0<ds.length:=by rw[g3];rw[g1]at hp;exact Nat.mul_pos hp hw0
     have hcc:=g2 0 ds[0] (by simp[h0])
     have:=Nz hcc
     rwa [jE]at this
  ·rename_i m e hk
   rw[hk]at bN
   cases ty <;> simp only[ap]at h
   rename_i m' u
   simp only[ag]at h
   obtain⟨h,hw0⟩:=h
   have h:=bI h
   subst h
   obtain⟨xs,k,_,_,g1,g2,g3⟩:=DataW.trod_array bN hd
   have kh:=nk hT hw0
   rw[Ur]at g1
   have key:∀ j,j<=m->∃ ys:List u.T,ys.length=j/\bm (Rep (LtB w) w u .ro) ys (cs.take (j*u.width)) af.none:=by
    intro j
    induction j with
    |zero=>intro _;exact⟨[],rfl,by simp[bm]⟩
    |succ j ihj=>
     intro hj
     obtain⟨ys,q1,q2⟩:=ihj (by omega)
     have:=g3 j (by omega)
     rw[kh,List.getElem?_eq_getElem (show j<xs.length by omega)]at this
     obtain⟨x,hx⟩:=ih e u hw0 _ _ _ this
     refine⟨ys++[x],by simp[q1],?_⟩
     have e1:cs.take ((j+1)*u.width)=cs.take (j*u.width)++(cs.drop (j*u.width)).take u.width:=by
      rw[jC,List.take_add]
     rw[e1]
     have h7:bm (Rep (LtB w) w u .ro) [x] ((cs.drop (j*u.width)).take u.width) af.none:=⟨_,[],af.none,af.none,(bV _).symm,hx,rfl,Sub.refl _,Sub.refl _,λ_ h=>h.elim⟩
     exact(bm.append q2 h7 (λ_ h=>h.elim)).mono (λk h=>h.elim id id)
   obtain⟨ys,q1,q2⟩:=key m (aw _)
   rw[bK (by rw[g1];exact aw _)]at q2
   exact⟨ys,q1,q2⟩
  ·rename_i fs hk
   rw[hk]at bN
   obtain⟨f,hf1,hf2⟩:=bN
   cases ty <;> simp only[ap]at h
   rename_i u
   obtain⟨xs,k,_,_,g1,g2,g3⟩:=DataW.trod_struct hf1 hd
   rw[Ur]at g1
   obtain⟨x,hx⟩:=Ry hT (F:=LtB w) (g:=λt cs=>∃ d,DataW.trod enc P w 0 spare held k t cs=some d) (λt ty cs hr hg=>by obtain⟨d,hg⟩:=hg;exact ih t ty hr _ _ _ hg) fs u 0 cs h (az _) (by rw[g1];simp[Ty.width]) (λp hp=>by
    rw[<-hf2]at hp
    obtain⟨fl,hfl,rfl⟩:=eE.1 hp
    obtain⟨i,hi⟩:=List.mem_iff_getElem?.1 hfl
    have hi':f[i]?=some fl:=by simpa using hi
    have hlt:i<f.size:=(Array.getElem?_eq_some_iff.1 hi').1
    exact⟨_,(g3 i fl hi').trans (List.getElem?_eq_getElem (show i<xs.length by omega))⟩)
   rw[dm]at hx
   exact⟨x,hx⟩
  ·cases h
end
def WfT:(t:Ty)->t.T->Prop
 |.int k,n=>inK k n
 |.bool,_=>True
 |.str,s=>List.length s<=maxLen/\∀ c∈(s:List Int),0<=c/\c<=255
 |.unit,_=>True
 |.pair a b,x=>WfT a x.1/\WfT b x.2
 |.st t,x=>WfT t x
 |.sl t,x=>List.length x<=maxLen/\∀ y∈(x:List t.T),WfT t y
 |.arr n t,x=>List.length x=n/\∀ y∈(x:List t.T),WfT t y
 |.box t,x=>WfT t x
 |.ptr _,none=>True
 |.ptr t,some x=>WfT t x
 |.jI,_=>True
 |.hol _,_=>True
 |.chan,_=>True
 |.fn _,_=>True
 |.may _,_=>True
 |.nl t,x=>List.length x<=maxLen/\∀ y∈(x:List t.T),WfT t y
 |.map k v,x=>∀ p∈(x:List (k.T×v.T)),WfT k p.1/\WfT v p.2
theorem qg{α:Type}{R:α->List Value->af->Prop}{p:α->Prop}(hp:∀ y c S,R y c S->p y):∀ {x:List α} {cs:List Value} {S:af},bm R x cs S->∀ y∈x,p y:=by
 intro x
 induction x with
 |nil=>intro cs S _ y hy;simp at hy
 |cons z zs ih=>
  rintro cs S ⟨c1,c2,S1,S2,rfl,h1,h2,_⟩ y hy
  rcases aI.1 hy with rfl|hy
  ·exact hp _ _ _ h1
  ·exact ih h2 y hy
theorem Rz{F:af}{w:World}:∀ (t:Ty) (m:Md) (x:t.T) (cs:List Value) (S:af),Rep F w t m x cs S->WfT t x:=by
 intro t
 induction t with
 |int k=>intro m x cs S h;exact h.2
 |bool=>intro m x cs S h;trivial
 |str=>
  rintro m x cs S ⟨u,rfl,rfl,hs⟩
  refine⟨by simpa [cd]using hs,λc hc=>?_⟩
  obtain⟨b,_,rfl⟩:=eE.1 hc
  have:=b.toNat_lt
  omega
 |unit=>intro m x cs S h;trivial
 |jI=>intro m x cs S h;trivial
 |hol t ih=>intro m x cs S h;trivial
 |chan=>intro m x cs S h;trivial
 |fn f=>intro m x cs S h;trivial
 |nl t ih=>
  rintro m x cs S ⟨⟨a,cap,rfl,h1,h2,h3⟩,_⟩
  refine⟨bE h1 h2,λy hy=>?_⟩
  obtain⟨ad,_,_,ds,_,hr⟩:=h3 (qV hy)
  exact qg (λy c S h=>ih _ _ _ _ h) hr y hy
 |map k v ihk ihv=>
  intro m x cs S h
  have main:∀ (es:List MapEntry) (i:Nat),dN (RV (Rep F w k .ro)) (RV (Rep F w v .ro)) x es i->∀ p∈(x:List (k.T×v.T)),WfT k p.1/\WfT v p.2:=by
   clear h
   induction x with
   |nil=>intro es i _ p hp;simp at hp
   |cons y ys ih=>
    rintro es i ⟨e,r,rfl,_,⟨ck,hk,_⟩,⟨cv,hv,_⟩,hr⟩ p hp
    rcases aI.1 hp with rfl|hp
    ·exact⟨ihk _ _ _ _ hk,ihv _ _ _ _ hv⟩
    ·exact ih r (i+1) hr p hp
  cases m with
  |own m=>obtain⟨b,es,_,_,_,hr⟩:=h;exact main _ _ hr
  |ro=>
   rcases h with⟨_,rfl⟩|⟨b,es,_,_,_,hr⟩
   ·intro p hp;simp at hp
   ·exact main _ _ hr
  |pr _ _=>
   rcases h with⟨_,rfl⟩|⟨b,es,_,_,_,hr⟩
   ·intro p hp;simp at hp
   ·exact main _ _ hr
 |may t ih=>intro m x cs S h;trivial
 |pair a b iha ihb=>
  rintro m x cs S ⟨c1,c2,S1,S2,rfl,h1,h2,_⟩
  exact⟨iha _ _ _ _ h1,ihb _ _ _ _ h2⟩
 |st t ih=>intro m x cs S h;exact ih m x cs S h
 |arr n t ih=>rintro m x cs S ⟨hn,h⟩;exact⟨hn,qg (λy c S=>ih m.el y c S) h⟩
 |sl t ih=>
  have ro:∀ (x:List t.T) (cs:List Value),Cg F w (Rep F w t .ro) x cs->List.length x<=maxLen/\∀ y∈x,WfT t y:=by
   rintro x cs ⟨a,cap,rfl,h1,h2,h3⟩
   refine⟨bE h1 h2,λy hy=>?_⟩
   obtain⟨ad,rfl,_,ds,_,hr⟩:=h3 (qV hy)
   exact qg (λy c S=>ih .ro y c S) hr y hy
  intro m x cs S h
  cases m with
  |ro=>exact ro x cs h
  |pr _ _=>exact ro x cs h
  |own m=>
   obtain⟨a,cap,rfl,h1,h2,h3⟩:=h
   refine⟨bE h1 h2,λy hy=>?_⟩
   rcases h3 with rfl|⟨b,off,c,e,rfl,hb,hc,hS,S1,hr,s1,n1⟩
   ·have:=qV hy;omega
   ·exact qg (λy c S=>ih m y c S) hr y hy
 |box t ih=>
  intro m x cs S h
  cases m with
  |own m=>obtain⟨b,c,e,rfl,hb,hS,S1,hr,_⟩:=h;exact ih m x _ _ hr
  |ro=>obtain⟨a,rfl,_,ds,_,hr⟩:=h;exact ih .ro x _ _ hr
  |pr _ _=>obtain⟨a,rfl,_,ds,_,hr⟩:=h;exact ih .ro x _ _ hr
 |ptr t ih=>
  intro m x cs S h
  cases x with
  |none=>trivial
  |some x=>
   cases m with
   |own m=>obtain⟨b,c,e,rfl,hb,hS,S1,hr,_⟩:=h;exact ih m x _ _ hr
   |ro=>obtain⟨a,rfl,_,ds,_,hr⟩:=h;exact ih .ro x _ _ hr
   |pr _ _=>obtain⟨a,rfl,_,ds,_,hr⟩:=h;exact ih .ro x _ _ hr
open Go Go.ChangeShapes Go.RowKit
section
variable {H:Type} {enc:TypeId×Value->H} {P:Program} {w:World}
theorem G5{TT:Tab}(hT:cK P TT){n:Nat}{t:TypeId}{ty:Ty}(h:tp TT n t ty=true){r:Reach}{base:Nat}{v:Value}(hv:Value.okWide P w r base t v):VR ty v.cells.toList v:=by
 cases n with
 |zero=>cases h
 |succ n=>
  simp only[tp]at h
  cases hdd:TT t with
  |none=>rw[hdd]at h;cases h
  |some td=>
  rw[hdd]at h
  simp only[ag,decide_eq_true_eq]at h
  obtain⟨hty,h⟩:=h
  have bN:=(hT t td hdd).desc
  split at h
  ·rename_i k hk
   rw[hk]at bN
   have h:=of_decide_eq_true h
   subst h
   simp only[Value.okWide,bN.1,Cell.okWide,Cell.ok]at hv
   cases v <;> simp_all [VR,Ty.agg,Value.cells,Value.oneCell']
  ·rename_i hk
   rw[hk]at bN
   have h:=of_decide_eq_true h
   subst h
   simp only[Value.okWide,bN.1,Cell.okWide,Cell.ok]at hv
   cases v <;> simp_all [VR,Ty.agg,Value.cells,Value.oneCell']
  ·rename_i hk
   rw[hk]at bN
   have h:=of_decide_eq_true h
   subst h
   simp only[Value.okWide,bN.1,Cell.okWide,Cell.ok]at hv
   cases v <;> simp_all [VR,Ty.agg,Value.cells,Value.oneCell']
  ·rename_i e hk
   rw[hk]at bN
   cases ty <;> simp only[ap]at h
   simp only[Value.okWide,bN,Cell.okWide,Cell.ok]at hv
   cases v <;> simp_all [VR,Ty.agg,Value.cells,Value.oneCell']
  ·rename_i m e hk
   rw[hk]at bN
   cases ty <;> simp only[ap]at h
   simp only[Value.okWide,bN]at hv
   obtain⟨cs,rfl,_⟩:=hv
   simp[VR,Ty.agg,Value.cells]
  ·rename_i fs hk
   rw[hk]at bN
   obtain⟨f,hf1,hf2⟩:=bN
   cases ty <;> simp only[ap]at h
   simp only[Value.okWide,hf1]at hv
   obtain⟨cs,rfl,_⟩:=hv
   simp[VR,Ty.agg,Value.cells]
  ·cases h
def AK(TT:Tab)(n:Nat):List TypeId->List (Ty×Md)->Bool
 |[],[]=>true
 |t::ts,p::ps=>tp TT n t p.1&&decide (p.2=.ro)&&AK TT n ts ps
 |_,_=>false
def WfA:(ps:List (Ty×Md))->(dS ps).T->Prop
 |[],_=>True
 |p::ps,x=>WfT p.1 x.1/\WfA ps x.2
theorem NA{F:af}:∀ {ps:List (Ty×Md)} {x:(dS ps).T} {vs:List Value} {S:af},jj F w ps x vs S->WfA ps x:=by
 intro ps
 induction ps with
 |nil=>intro x vs S _;trivial
 |cons p ps ih=>
  rintro x vs S ⟨v,vs',cs,S1,S2,rfl,h1,h2,h3,_⟩
  exact⟨Rz _ _ _ _ _ h1,ih h3⟩
theorem NB{TT:Tab}(hT:cK P TT){n:Nat}{r:Reach}{base:Nat}{spare:Nat->Bool}{held:Bool}:∀ (ts:List TypeId) (ps:List (Ty×Md)) (vs:List Value) (ds:List (DataW H)) (pl:List MemPlace),AK TT n ts ps=true->DataW.TrodAll enc P w 0 spare held ts vs ds pl->
 (∀ (j:Nat) t v,ts[j]?=some t->vs[j]?=some v->Value.okWide P w r base t v)->∃ x,jj (LtB w) w ps x vs af.none:=by
 intro ts
 induction ts with
 |nil=>
  intro ps vs ds pl h hA _
  cases ps <;> simp only[AK,ap]at h
  obtain⟨rfl,_⟩:=trodAll_nil hA
  exact⟨(),rfl⟩
 |cons t ts ih=>
  intro ps vs ds pl h hA hv
  cases ps with
  |nil=>cases h
  |cons p ps=>
   simp only[AK,ag,decide_eq_true_eq]at h
   obtain⟨⟨h1,h2⟩,h3⟩:=h
   obtain⟨v,vs1,d,ds1,a,b,rfl,rfl,rfl,⟨bZ,g1⟩,g2⟩:=trodAll_cons hA
   obtain⟨x,hx⟩:=JQ hT n t p.1 h1 bZ _ _ g1
   obtain⟨y,hy⟩:=ih ps vs1 ds1 b h3 g2 (λj t v ht hv'=>hv (j+1) t v (by simpa using ht) (by simpa using hv'))
   rw[<-h2]at hx
   exact⟨(x,y),v,vs1,_,af.none,af.none,rfl,hx,G5 hT h1 (hv 0 t v rfl rfl),hy,Sub.refl _,Sub.refl _,λ_ h=>h.elim⟩
theorem Fr.below{w':World}(h:Fr w af.none w'):Below w.heap.size w w':=⟨h.os,h.tape,h.output,h.size,λk hk=>h.block k hk (λh=>h)⟩
theorem G6{TT:Tab}(hT:cK P TT){n:Nat}{f:FuncId}{ps:List (Ty×Md)}{den:(dS ps).T->Option ((dS [(Ty.bool,Md.ro)]).T×(dS []).T)}(hf:fL P f ⟨ps,[(.bool,.ro)],[],[],den⟩)
 (all:∀ x,WfA ps x->den x=some ((true,()),())) {r:Reach} {base:Nat} {ts:List TypeId} {args:Array Value} {ds:List (DataW H)} {pl:List MemPlace} {held:Bool} {spare:Nat->Bool} (hr:AK TT n ts ps=true) (hA:DataW.TrodAll enc P w 0 spare held ts args.toList ds pl)
 (hv:∀ (j:Nat) t v,ts[j]?=some t->args[j]?=some v->Value.okWide P w r base t v) (hG:Gh (LtB w) w):Calls P f args w λe w'=>e=.returned (.bool true)/\Below w.heap.size w w':=by
 obtain⟨x,hx⟩:=NB hT ts ps args.toList ds pl hr hA (λj t v h1 h2=>hv j t v h1 (by simpa using h2))
 have:=hf x _ (all x (NA hx)) (LtB w) w af.none args.toList hx (λ_ h=>h.elim) (λ_ h=>h) (λ_ h=>h.elim) hG
 refine Calls.mono (by simpa using this) λe w' hp=>?_
 cases e with
 |panicked _=>exact hp.elim
 |outgrown=>exact hp.elim
 |returned v=>
  obtain⟨ws,F',Sr,Sm,hrv,⟨v1,r1,cs,S1,S2,rfl,h1,h2,h3,_⟩,_,_,fr,_⟩:=hp
  cases h3
  simp only[Rep]at h1
  subst h1
  simp only[VR,Ty.agg,ap,if_false]at h2
  obtain⟨h2,_⟩:=h2
  simp only[e8,and_true]at h2
  subst h2
  simp only[TU,Cx]at hrv
  exact⟨by rw[hrv],fr.below⟩
theorem AL:∀ (ts:List TypeId) (vs:List Value) (ds:List (DataW H)) (ps:List MemPlace) {spare:Nat->Bool} {held:Bool},DataW.TrodAll enc P w 0 spare held ts vs ds ps->ds.length=ts.length:=by
 intro ts
 induction ts with
 |nil=>intro vs ds ps _ _ h;obtain⟨rfl,rfl,rfl⟩:=trodAll_nil h;rfl
 |cons t ts ih=>
  intro vs ds ps _ _ h
  obtain⟨v,vs1,d,ds1,a,b,rfl,rfl,rfl,h1,h2⟩:=trodAll_cons h
  simp[ih vs1 ds1 b h2]
theorem wm(hl:laidOutB P=true){w':World}(hb:Below w.heap.size w w'):∀ (ts:List TypeId) (vs:List Value) (ds:List (DataW H)) (ps:List MemPlace),(ts.all λt=>P.readableRec t&&decide (t<P.types.size))=true->DataW.TrodAll enc P w 0 (λ_=>true) true ts vs ds ps->(∀ x∈ps,x.block<w.heap.size)->
 DataW.TrodAll enc P w' 0 (λb=>decide (b<w.heap.size)) true ts vs ds ps:=by
 intro ts
 induction ts with
 |nil=>intro vs ds ps _ h _;obtain⟨rfl,rfl,rfl⟩:=trodAll_nil h;exact rfl
 |cons t ts ih=>
  intro vs ds ps ha h hlt
  simp only[List.all_cons,ag,decide_eq_true_eq]at ha
  obtain⟨v,vs1,d,ds1,a,b,rfl,rfl,rfl,h1,h2⟩:=trodAll_cons h
  exact⟨a,b,Below.trod hl ha.1.1 ha.1.2 h1 hb (λx hx=>hlt x (by simp[hx])),ih vs1 ds1 b (by simpa using ha.2) h2 (λx hx=>hlt x (by simp[hx])),rfl⟩
theorem JR(hl:laidOutB P=true){fn:Func}{s:ChangeSpec}{args:Array Value}{ds gs:List (DataW H)}{before:List MemPlace}{w':World}(hv:s.vars=[])(hrt:∃ t,fn.resultTypes=#[t]/\P.underlying t=some .bool)
 (hfn:∀ ds:List (DataW H),ds.length=fn.params.size->s.fn H ds={results:=[.lit (.bool true)],args:=ds}) (hrd:(fn.params.toList.all λt=>P.readableRec t&&decide (t<P.types.size))=true)
 (hW:DataW.Whole enc P fn.params.toList s.vars false w args.toList ds gs before) (hb:Below w.heap.size w w'):s.post enc P fn false true false false w args (.bool true) w':=by
 have hW':=hW
 obtain⟨p,q,hA,hV,rfl,hfz,_⟩:=hW
 rw[hv]at hV
 obtain⟨rfl,rfl⟩:=trodVars_none hV
 have hlen:=AL _ _ _ _ hA
 have hf:s.fn H (ds++[])={results:=[.lit (.bool true)],args:=ds}:=by rw[bV];exact hfn ds (by simpa using hlen)
 obtain⟨t,hrt,htb⟩:=hrt
 have hlt:∀ x∈p,x.block<w.heap.size:=λx hx=>by simpa using hW'.lt x (by simpa using hx)
 refine⟨ds,[],p++[],[],p,[],hW',?_,?_,?_,?_,λh=>by cases h⟩
 ·rw[hf,hrt]
  exact trodAll_mk1 (shut_bool htb true)
 ·rw[hf]
  exact wm hl hb _ _ _ _ hrd hA hlt
 ·rw[hv,hf];exact rfl
 ·exact World.keptBut_mono (λx hx=>hx) (hb.frame _)
end
end
noncomputable section
abbrev y2:Ty:=.int .i64
def d2:TD:=⟨.int .i64,8,y2,[(.int .i64 0)]⟩
theorem k2:TOk Tryz.prog 2 d2:=⟨av Tryz.typeInfo2 rfl rfl rfl rfl,⟨Tryz.underlying2,rfl⟩,rfl,rfl,jh rfl Tryz.typeInfo2 rfl⟩
abbrev y3:Ty:=.int .i64
def d3:TD:=⟨.int .i64,8,y3,[(.int .i64 0)]⟩
theorem k3:TOk Tryz.prog 3 d3:=⟨av Tryz.typeInfo3 rfl rfl rfl rfl,⟨Tryz.underlying3,rfl⟩,rfl,rfl,jh rfl Tryz.typeInfo3 rfl⟩
abbrev y4:Ty:=.bool
def d4:TD:=⟨.bool,1,y4,[(.bool false)]⟩
theorem k4:TOk Tryz.prog 4 d4:=⟨av Tryz.typeInfo4 rfl rfl rfl rfl,⟨Tryz.underlying4,rfl⟩,rfl,rfl,aR rfl⟩
abbrev y5:Ty:=.int .u8
def d5:TD:=⟨.int .u8,1,y5,[(.int .u8 0)]⟩
theorem k5:TOk Tryz.prog 5 d5:=⟨av Tryz.typeInfo5 rfl rfl rfl rfl,⟨Tryz.underlying5,rfl⟩,rfl,rfl,jh rfl Tryz.typeInfo5 rfl⟩
abbrev y6:Ty:=.int .u8
def d6:TD:=⟨.int .u8,1,y6,[(.int .u8 0)]⟩
theorem k6:TOk Tryz.prog 6 d6:=⟨av Tryz.typeInfo6 rfl rfl rfl rfl,⟨Tryz.underlying6,rfl⟩,rfl,rfl,jh rfl Tryz.typeInfo6 rfl⟩
abbrev y7:Ty:=.st (.pair y2 (.pair y3 (.pair y4 (y6))))
def d7:TD:=⟨.struct [(2,0),(3,1),(4,2),(6,3)],24,y7,[(.int .i64 0),(.int .i64 0),(.bool false),(.int .u8 0)]⟩
theorem k7:TOk Tryz.prog 7 d7:=⟨av Tryz.typeInfo7 rfl rfl rfl rfl,⟨_,Tryz.underlying7,rfl⟩,rfl,rfl,aR rfl⟩
abbrev y8:Ty:=.st (.pair y2 (.pair y3 (.pair y4 (y6))))
def d8:TD:=⟨.struct [(2,0),(3,1),(4,2),(6,3)],24,y8,[(.int .i64 0),(.int .i64 0),(.bool false),(.int .u8 0)]⟩
theorem k8:TOk Tryz.prog 8 d8:=⟨av Tryz.typeInfo8 rfl rfl rfl rfl,⟨_,Tryz.underlying8,rfl⟩,rfl,rfl,aR rfl⟩
abbrev y9:Ty:=.str
def d9:TD:=⟨.str,16,y9,[(.string ByteArray.empty)]⟩
theorem k9:TOk Tryz.prog 9 d9:=⟨av Tryz.typeInfo9 rfl rfl rfl rfl,⟨Tryz.underlying9,rfl⟩,rfl,rfl,aR rfl⟩
abbrev y10:Ty:=.str
def d10:TD:=⟨.str,16,y10,[(.string ByteArray.empty)]⟩
theorem k10:TOk Tryz.prog 10 d10:=⟨av Tryz.typeInfo10 rfl rfl rfl rfl,⟨Tryz.underlying10,rfl⟩,rfl,rfl,aR rfl⟩
abbrev y11:Ty:=.str
def d11:TD:=⟨.str,16,y11,[(.string ByteArray.empty)]⟩
theorem k11:TOk Tryz.prog 11 d11:=⟨av Tryz.typeInfo11 rfl rfl rfl rfl,⟨Tryz.underlying11,rfl⟩,rfl,rfl,aR rfl⟩
abbrev y12:Ty:=.int .u64
def d12:TD:=⟨.int .u64,8,y12,[(.int .u64 0)]⟩
theorem k12:TOk Tryz.prog 12 d12:=⟨av Tryz.typeInfo12 rfl rfl rfl rfl,⟨Tryz.underlying12,rfl⟩,rfl,rfl,jh rfl Tryz.typeInfo12 rfl⟩
abbrev y13:Ty:=.st (.pair y9 (y12))
def d13:TD:=⟨.struct [(9,0),(12,1)],24,y13,[(.string ByteArray.empty),(.int .u64 0)]⟩
theorem k13:TOk Tryz.prog 13 d13:=⟨av Tryz.typeInfo13 rfl rfl rfl rfl,⟨_,Tryz.underlying13,rfl⟩,rfl,rfl,aR rfl⟩
abbrev y14:Ty:=.st (.pair y9 (y12))
def d14:TD:=⟨.struct [(9,0),(12,1)],24,y14,[(.string ByteArray.empty),(.int .u64 0)]⟩
theorem k14:TOk Tryz.prog 14 d14:=⟨av Tryz.typeInfo14 rfl rfl rfl rfl,⟨_,Tryz.underlying14,rfl⟩,rfl,rfl,aR rfl⟩
abbrev y21:Ty:=.int .i32
def d21:TD:=⟨.int .i32,4,y21,[(.int .i32 0)]⟩
theorem k21:TOk Tryz.prog 21 d21:=⟨av Tryz.typeInfo21 rfl rfl rfl rfl,⟨Tryz.underlying21,rfl⟩,rfl,rfl,jh rfl Tryz.typeInfo21 rfl⟩
abbrev y25:Ty:=.st (.pair y3 (.pair y3 (.pair y3 (.pair y3 (.pair y3 (y4))))))
def d25:TD:=⟨.struct [(3,0),(3,1),(3,2),(3,3),(3,4),(4,5)],48,y25,[(.int .i64 0),(.int .i64 0),(.int .i64 0),(.int .i64 0),(.int .i64 0),(.bool false)]⟩
theorem k25:TOk Tryz.prog 25 d25:=⟨av Tryz.typeInfo25 rfl rfl rfl rfl,⟨_,Tryz.underlying25,rfl⟩,rfl,rfl,aR rfl⟩
abbrev y26:Ty:=.st (.pair y3 (.pair y3 (.pair y3 (.pair y3 (.pair y3 (y4))))))
def d26:TD:=⟨.struct [(3,0),(3,1),(3,2),(3,3),(3,4),(4,5)],48,y26,[(.int .i64 0),(.int .i64 0),(.int .i64 0),(.int .i64 0),(.int .i64 0),(.bool false)]⟩
theorem k26:TOk Tryz.prog 26 d26:=⟨av Tryz.typeInfo26 rfl rfl rfl rfl,⟨_,Tryz.underlying26,rfl⟩,rfl,rfl,aR rfl⟩
abbrev y29:Ty:=.sl y9
def d29:TD:=⟨.slice 9,24,y29,[(.slice none 0 0)]⟩
theorem k29:TOk Tryz.prog 29 d29:=⟨av Tryz.typeInfo29 rfl rfl rfl rfl,Tryz.underlying29,rfl,rfl,aR rfl⟩
abbrev y45:Ty:=.int .i64
def d45:TD:=⟨.int .i64,8,y45,[(.int .i64 0)]⟩
theorem k45:TOk Tryz.prog 45 d45:=⟨av Tryz.typeInfo45 rfl rfl rfl rfl,⟨Tryz.underlying45,rfl⟩,rfl,rfl,jh rfl Tryz.typeInfo45 rfl⟩
abbrev y53:Ty:=.sl y3
def d53:TD:=⟨.slice 3,24,y53,[(.slice none 0 0)]⟩
theorem k53:TOk Tryz.prog 53 d53:=⟨av Tryz.typeInfo53 rfl rfl rfl rfl,Tryz.underlying53,rfl,rfl,aR rfl⟩
abbrev y57:Ty:=.st (.pair y3 (y3))
def d57:TD:=⟨.struct [(3,0),(3,1)],16,y57,[(.int .i64 0),(.int .i64 0)]⟩
theorem k57:TOk Tryz.prog 57 d57:=⟨av Tryz.typeInfo57 rfl rfl rfl rfl,⟨_,Tryz.underlying57,rfl⟩,rfl,rfl,aR rfl⟩
abbrev y58:Ty:=.st (.pair y3 (y3))
def d58:TD:=⟨.struct [(3,0),(3,1)],16,y58,[(.int .i64 0),(.int .i64 0)]⟩
theorem k58:TOk Tryz.prog 58 d58:=⟨av Tryz.typeInfo58 rfl rfl rfl rfl,⟨_,Tryz.underlying58,rfl⟩,rfl,rfl,aR rfl⟩
abbrev y59:Ty:=.int .u64
def d59:TD:=⟨.int .u64,8,y59,[(.int .u64 0)]⟩
theorem k59:TOk Tryz.prog 59 d59:=⟨av Tryz.typeInfo59 rfl rfl rfl rfl,⟨Tryz.underlying59,rfl⟩,rfl,rfl,jh rfl Tryz.typeInfo59 rfl⟩
abbrev y60:Ty:=.int .u64
def d60:TD:=⟨.int .u64,8,y60,[(.int .u64 0)]⟩
theorem k60:TOk Tryz.prog 60 d60:=⟨av Tryz.typeInfo60 rfl rfl rfl rfl,⟨Tryz.underlying60,rfl⟩,rfl,rfl,jh rfl Tryz.typeInfo60 rfl⟩
abbrev y62:Ty:=.st (.pair y4 (y3))
def d62:TD:=⟨.struct [(4,0),(3,1)],16,y62,[(.bool false),(.int .i64 0)]⟩
theorem k62:TOk Tryz.prog 62 d62:=⟨av Tryz.typeInfo62 rfl rfl rfl rfl,⟨_,Tryz.underlying62,rfl⟩,rfl,rfl,aR rfl⟩
abbrev y63:Ty:=.st (.pair y4 (y3))
def d63:TD:=⟨.struct [(4,0),(3,1)],16,y63,[(.bool false),(.int .i64 0)]⟩
theorem k63:TOk Tryz.prog 63 d63:=⟨av Tryz.typeInfo63 rfl rfl rfl rfl,⟨_,Tryz.underlying63,rfl⟩,rfl,rfl,aR rfl⟩
abbrev y73:Ty:=.st (.pair y3 (.pair y3 (.pair y3 (.pair y3 (.pair y3 (y4))))))
def d73:TD:=⟨.struct [(3,0),(3,1),(3,2),(3,3),(3,4),(4,5)],48,y73,[(.int .i64 0),(.int .i64 0),(.int .i64 0),(.int .i64 0),(.int .i64 0),(.bool false)]⟩
theorem k73:TOk Tryz.prog 73 d73:=⟨av Tryz.typeInfo73 rfl rfl rfl rfl,⟨_,Tryz.underlying73,rfl⟩,rfl,rfl,aR rfl⟩
abbrev y74:Ty:=.st (.pair y3 (y3))
def d74:TD:=⟨.struct [(3,0),(3,1)],16,y74,[(.int .i64 0),(.int .i64 0)]⟩
theorem k74:TOk Tryz.prog 74 d74:=⟨av Tryz.typeInfo74 rfl rfl rfl rfl,⟨_,Tryz.underlying74,rfl⟩,rfl,rfl,aR rfl⟩
abbrev y77:Ty:=.sl y63
def d77:TD:=⟨.slice 63,24,y77,[(.slice none 0 0)]⟩
theorem k77:TOk Tryz.prog 77 d77:=⟨av Tryz.typeInfo77 rfl rfl rfl rfl,Tryz.underlying77,rfl,rfl,aR rfl⟩
abbrev y78:Ty:=.st (.pair y3 (.pair y9 (.pair y77 (.pair y4 (.pair y3 (y53))))))
def d78:TD:=⟨.struct [(3,0),(9,1),(77,2),(4,3),(3,4),(53,5)],88,y78,[(.int .i64 0),(.string ByteArray.empty),(.slice none 0 0),(.bool false),(.int .i64 0),(.slice none 0 0)]⟩
theorem k78:TOk Tryz.prog 78 d78:=⟨av Tryz.typeInfo78 rfl rfl rfl rfl,⟨_,Tryz.underlying78,rfl⟩,rfl,rfl,aR rfl⟩
abbrev y79:Ty:=.st (.pair y3 (.pair y9 (.pair y77 (.pair y4 (.pair y3 (y53))))))
def d79:TD:=⟨.struct [(3,0),(9,1),(77,2),(4,3),(3,4),(53,5)],88,y79,[(.int .i64 0),(.string ByteArray.empty),(.slice none 0 0),(.bool false),(.int .i64 0),(.slice none 0 0)]⟩
theorem k79:TOk Tryz.prog 79 d79:=⟨av Tryz.typeInfo79 rfl rfl rfl rfl,⟨_,Tryz.underlying79,rfl⟩,rfl,rfl,aR rfl⟩
abbrev y88:Ty:=.arr 256 y5
def d88:TD:=⟨.array 256 5,256,y88,List.replicate 256 (.int .u8 0)⟩
theorem k88:TOk Tryz.prog 88 d88:=⟨av (z:=.agg d88.zero.toArray) Tryz.typeInfo88 (by kernel_rfl) (by kernel_rfl) (by kernel_rfl) (by kernel_rfl),Tryz.underlying88,(by kernel_rfl),(by kernel_rfl),aR rfl⟩
abbrev y95:Ty:=.st (.pair y9 (.pair y3 (y9)))
def d95:TD:=⟨.struct [(9,0),(3,1),(9,2)],40,y95,[(.string ByteArray.empty),(.int .i64 0),(.string ByteArray.empty)]⟩
theorem k95:TOk Tryz.prog 95 d95:=⟨av Tryz.typeInfo95 rfl rfl rfl rfl,⟨_,Tryz.underlying95,rfl⟩,rfl,rfl,aR rfl⟩
abbrev y96:Ty:=.st (.pair y9 (.pair y3 (y9)))
def d96:TD:=⟨.struct [(9,0),(3,1),(9,2)],40,y96,[(.string ByteArray.empty),(.int .i64 0),(.string ByteArray.empty)]⟩
theorem k96:TOk Tryz.prog 96 d96:=⟨av Tryz.typeInfo96 rfl rfl rfl rfl,⟨_,Tryz.underlying96,rfl⟩,rfl,rfl,aR rfl⟩
abbrev y99:Ty:=.st (.pair y45 (y3))
def d99:TD:=⟨.struct [(45,0),(3,1)],16,y99,[(.int .i64 0),(.int .i64 0)]⟩
theorem k99:TOk Tryz.prog 99 d99:=⟨av Tryz.typeInfo99 rfl rfl rfl rfl,⟨_,Tryz.underlying99,rfl⟩,rfl,rfl,aR rfl⟩
abbrev Us:Ty:=.st (.pair y45 (y3))
def d100:TD:=⟨.struct [(45,0),(3,1)],16,Us,[(.int .i64 0),(.int .i64 0)]⟩
theorem WI:TOk Tryz.prog 100 d100:=⟨av Tryz.typeInfo100 rfl rfl rfl rfl,⟨_,Tryz.underlying100,rfl⟩,rfl,rfl,aR rfl⟩
abbrev G7:Ty:=.st (.pair y45 (.pair y3 (y3)))
def d109:TD:=⟨.struct [(45,0),(3,1),(3,2)],24,G7,[(.int .i64 0),(.int .i64 0),(.int .i64 0)]⟩
theorem WJ:TOk Tryz.prog 109 d109:=⟨av Tryz.typeInfo109 rfl rfl rfl rfl,⟨_,Tryz.underlying109,rfl⟩,rfl,rfl,aR rfl⟩
abbrev WK:Ty:=.st (.pair y45 (.pair y3 (y3)))
def d110:TD:=⟨.struct [(45,0),(3,1),(3,2)],24,WK,[(.int .i64 0),(.int .i64 0),(.int .i64 0)]⟩
theorem WL:TOk Tryz.prog 110 d110:=⟨av Tryz.typeInfo110 rfl rfl rfl rfl,⟨_,Tryz.underlying110,rfl⟩,rfl,rfl,aR rfl⟩
abbrev eC:Ty:=.sl y4
def d112:TD:=⟨.slice 4,24,eC,[(.slice none 0 0)]⟩
theorem WM:TOk Tryz.prog 112 d112:=⟨av Tryz.typeInfo112 rfl rfl rfl rfl,Tryz.underlying112,rfl,rfl,aR rfl⟩
abbrev wo:Ty:=.map y9 y3
def d116:TD:=⟨.map 9 3,8,wo,[(.map none)]⟩
theorem WN:TOk Tryz.prog 116 d116:=⟨av Tryz.typeInfo116 rfl rfl rfl rfl,Tryz.underlying116,rfl,rfl,aR rfl⟩
abbrev WO:Ty:=.st (.pair y63 (y3))
def d126:TD:=⟨.struct [(63,0),(3,2)],24,WO,[(.bool false),(.int .i64 0),(.int .i64 0)]⟩
theorem WQ:TOk Tryz.prog 126 d126:=⟨av Tryz.typeInfo126 rfl rfl rfl rfl,⟨_,Tryz.underlying126,rfl⟩,rfl,rfl,aR rfl⟩
abbrev Ut:Ty:=.st (.pair y63 (y3))
def d127:TD:=⟨.struct [(63,0),(3,2)],24,Ut,[(.bool false),(.int .i64 0),(.int .i64 0)]⟩
theorem WR:TOk Tryz.prog 127 d127:=⟨av Tryz.typeInfo127 rfl rfl rfl rfl,⟨_,Tryz.underlying127,rfl⟩,rfl,rfl,aR rfl⟩
abbrev C2:Ty:=.st (.pair y3 (.pair y3 (y59)))
def d130:TD:=⟨.struct [(3,0),(3,1),(59,2)],24,C2,[(.int .i64 0),(.int .i64 0),(.int .u64 0)]⟩
theorem WS:TOk Tryz.prog 130 d130:=⟨av Tryz.typeInfo130 rfl rfl rfl rfl,⟨_,Tryz.underlying130,rfl⟩,rfl,rfl,aR rfl⟩
abbrev j9:Ty:=.st (.pair y3 (.pair y3 (y59)))
def d131:TD:=⟨.struct [(3,0),(3,1),(59,2)],24,j9,[(.int .i64 0),(.int .i64 0),(.int .u64 0)]⟩
theorem RA:TOk Tryz.prog 131 d131:=⟨av Tryz.typeInfo131 rfl rfl rfl rfl,⟨_,Tryz.underlying131,rfl⟩,rfl,rfl,aR rfl⟩
abbrev Uu:Ty:=.st (.pair y3 (.pair y3 (y59)))
def d134:TD:=⟨.struct [(3,0),(3,1),(59,2)],24,Uu,[(.int .i64 0),(.int .i64 0),(.int .u64 0)]⟩
theorem WT:TOk Tryz.prog 134 d134:=⟨av Tryz.typeInfo134 rfl rfl rfl rfl,⟨_,Tryz.underlying134,rfl⟩,rfl,rfl,aR rfl⟩
abbrev WU:Ty:=.st (.pair y3 (y53))
def d164:TD:=⟨.struct [(3,0),(53,1)],32,WU,[(.int .i64 0),(.slice none 0 0)]⟩
theorem WV:TOk Tryz.prog 164 d164:=⟨av Tryz.typeInfo164 rfl rfl rfl rfl,⟨_,Tryz.underlying164,rfl⟩,rfl,rfl,aR rfl⟩
abbrev Uv:Ty:=.st (.pair y3 (y53))
def d165:TD:=⟨.struct [(3,0),(53,1)],32,Uv,[(.int .i64 0),(.slice none 0 0)]⟩
theorem WW:TOk Tryz.prog 165 d165:=⟨av Tryz.typeInfo165 rfl rfl rfl rfl,⟨_,Tryz.underlying165,rfl⟩,rfl,rfl,aR rfl⟩
abbrev pA:Ty:=.sl Us
def d168:TD:=⟨.slice 100,24,pA,[(.slice none 0 0)]⟩
theorem WX:TOk Tryz.prog 168 d168:=⟨av Tryz.typeInfo168 rfl rfl rfl rfl,Tryz.underlying168,rfl,rfl,aR rfl⟩
abbrev wq:Ty:=.sl y5
def d182:TD:=⟨.slice 5,24,wq,[(.slice none 0 0)]⟩
theorem WY:TOk Tryz.prog 182 d182:=⟨av Tryz.typeInfo182 rfl rfl rfl rfl,Tryz.underlying182,rfl,rfl,aR rfl⟩
abbrev o3:Ty:=.st (.pair y9 (.pair y3 (y3)))
def d203:TD:=⟨.struct [(9,0),(3,1),(3,2)],32,o3,[(.string ByteArray.empty),(.int .i64 0),(.int .i64 0)]⟩
theorem WZ:TOk Tryz.prog 203 d203:=⟨av Tryz.typeInfo203 rfl rfl rfl rfl,⟨_,Tryz.underlying203,rfl⟩,rfl,rfl,aR rfl⟩
abbrev Uw:Ty:=.st (.pair y9 (.pair y3 (y3)))
def d204:TD:=⟨.struct [(9,0),(3,1),(3,2)],32,Uw,[(.string ByteArray.empty),(.int .i64 0),(.int .i64 0)]⟩
theorem W0:TOk Tryz.prog 204 d204:=⟨av Tryz.typeInfo204 rfl rfl rfl rfl,⟨_,Tryz.underlying204,rfl⟩,rfl,rfl,aR rfl⟩
abbrev ka:Ty:=.arr 4 y59
def d212:TD:=⟨.array 4 59,32,ka,[(.int .u64 0),(.int .u64 0),(.int .u64 0),(.int .u64 0)]⟩
theorem W2:TOk Tryz.prog 212 d212:=⟨av Tryz.typeInfo212 rfl rfl rfl rfl,Tryz.underlying212,rfl,rfl,aR rfl⟩
abbrev G8:Ty:=.arr 4 y59
def d213:TD:=⟨.array 4 59,32,G8,[(.int .u64 0),(.int .u64 0),(.int .u64 0),(.int .u64 0)]⟩
theorem W3:TOk Tryz.prog 213 d213:=⟨av Tryz.typeInfo213 rfl rfl rfl rfl,Tryz.underlying213,rfl,rfl,aR rfl⟩
abbrev G9:Ty:=.st (.pair y3 (G8))
def d214:TD:=⟨.struct [(3,0),(213,1)],40,G9,[(.int .i64 0),(.int .u64 0),(.int .u64 0),(.int .u64 0),(.int .u64 0)]⟩
theorem W4:TOk Tryz.prog 214 d214:=⟨av Tryz.typeInfo214 rfl rfl rfl rfl,⟨_,Tryz.underlying214,rfl⟩,rfl,rfl,aR rfl⟩
abbrev RB:Ty:=.st (.pair y3 (G8))
def d215:TD:=⟨.struct [(3,0),(213,1)],40,RB,[(.int .i64 0),(.int .u64 0),(.int .u64 0),(.int .u64 0),(.int .u64 0)]⟩
theorem W5:TOk Tryz.prog 215 d215:=⟨av Tryz.typeInfo215 rfl rfl rfl rfl,⟨_,Tryz.underlying215,rfl⟩,rfl,rfl,aR rfl⟩
abbrev W6:Ty:=.st (.pair y3 (y3))
def d217:TD:=⟨.struct [(3,0),(3,1)],16,W6,[(.int .i64 0),(.int .i64 0)]⟩
theorem W7:TOk Tryz.prog 217 d217:=⟨av Tryz.typeInfo217 rfl rfl rfl rfl,⟨_,Tryz.underlying217,rfl⟩,rfl,rfl,aR rfl⟩
abbrev Ux:Ty:=.st (.pair y3 (y3))
def d218:TD:=⟨.struct [(3,0),(3,1)],16,Ux,[(.int .i64 0),(.int .i64 0)]⟩
theorem W8:TOk Tryz.prog 218 d218:=⟨av Tryz.typeInfo218 rfl rfl rfl rfl,⟨_,Tryz.underlying218,rfl⟩,rfl,rfl,aR rfl⟩
abbrev W9:Ty:=.st (.pair y3 (.pair y3 (.pair G8 (y4))))
def d219:TD:=⟨.struct [(3,0),(3,1),(213,2),(4,6)],56,W9,[(.int .i64 0),(.int .i64 0),(.int .u64 0),(.int .u64 0),(.int .u64 0),(.int .u64 0),(.bool false)]⟩
theorem Xa:TOk Tryz.prog 219 d219:=⟨av Tryz.typeInfo219 rfl rfl rfl rfl,⟨_,Tryz.underlying219,rfl⟩,rfl,rfl,aR rfl⟩
abbrev Uy:Ty:=.st (.pair y3 (.pair y3 (.pair G8 (y4))))
def d220:TD:=⟨.struct [(3,0),(3,1),(213,2),(4,6)],56,Uy,[(.int .i64 0),(.int .i64 0),(.int .u64 0),(.int .u64 0),(.int .u64 0),(.int .u64 0),(.bool false)]⟩
theorem Xb:TOk Tryz.prog 220 d220:=⟨av Tryz.typeInfo220 rfl rfl rfl rfl,⟨_,Tryz.underlying220,rfl⟩,rfl,rfl,aR rfl⟩
abbrev RC:Ty:=.sl eC
def d223:TD:=⟨.slice 112,24,RC,[(.slice none 0 0)]⟩
theorem Xc:TOk Tryz.prog 223 d223:=⟨av Tryz.typeInfo223 rfl rfl rfl rfl,Tryz.underlying223,rfl,rfl,aR rfl⟩
abbrev Ha:Ty:=.sl G8
def d227:TD:=⟨.slice 213,24,Ha,[(.slice none 0 0)]⟩
theorem Xd:TOk Tryz.prog 227 d227:=⟨av Tryz.typeInfo227 rfl rfl rfl rfl,Tryz.underlying227,rfl,rfl,aR rfl⟩
abbrev Xe:Ty:=.st (.pair y3 (y9))
def d235:TD:=⟨.struct [(3,0),(9,1)],24,Xe,[(.int .i64 0),(.string ByteArray.empty)]⟩
theorem Xf:TOk Tryz.prog 235 d235:=⟨av Tryz.typeInfo235 rfl rfl rfl rfl,⟨_,Tryz.underlying235,rfl⟩,rfl,rfl,aR rfl⟩
abbrev Uz:Ty:=.st (.pair y3 (y9))
def d236:TD:=⟨.struct [(3,0),(9,1)],24,Uz,[(.int .i64 0),(.string ByteArray.empty)]⟩
theorem Xg:TOk Tryz.prog 236 d236:=⟨av Tryz.typeInfo236 rfl rfl rfl rfl,⟨_,Tryz.underlying236,rfl⟩,rfl,rfl,aR rfl⟩
abbrev Xh:Ty:=.sl Uz
def d237:TD:=⟨.slice 236,24,Xh,[(.slice none 0 0)]⟩
theorem Xi:TOk Tryz.prog 237 d237:=⟨av Tryz.typeInfo237 rfl rfl rfl rfl,Tryz.underlying237,rfl,rfl,aR rfl⟩
abbrev UA:Ty:=.map y3 y3
def d258:TD:=⟨.map 3 3,8,UA,[(.map none)]⟩
theorem Xj:TOk Tryz.prog 258 d258:=⟨av Tryz.typeInfo258 rfl rfl rfl rfl,Tryz.underlying258,rfl,rfl,aR rfl⟩
abbrev Xk:Ty:=.int .i64
def d296:TD:=⟨.int .i64,8,Xk,[(.int .i64 0)]⟩
theorem Xl:TOk Tryz.prog 296 d296:=⟨av Tryz.typeInfo296 rfl rfl rfl rfl,⟨Tryz.underlying296,rfl⟩,rfl,rfl,jh rfl Tryz.typeInfo296 rfl⟩
abbrev Xm:Ty:=.int .u32
def d303:TD:=⟨.int .u32,4,Xm,[(.int .u32 0)]⟩
theorem Xn:TOk Tryz.prog 303 d303:=⟨av Tryz.typeInfo303 rfl rfl rfl rfl,⟨Tryz.underlying303,rfl⟩,rfl,rfl,jh rfl Tryz.typeInfo303 rfl⟩
abbrev UB:Ty:=.int .u64
def d314:TD:=⟨.int .u64,8,UB,[(.int .u64 0)]⟩
theorem Xo:TOk Tryz.prog 314 d314:=⟨av Tryz.typeInfo314 rfl rfl rfl rfl,⟨Tryz.underlying314,rfl⟩,rfl,rfl,jh rfl Tryz.typeInfo314 rfl⟩
abbrev Xp:Ty:=.ptr y3
def d318:TD:=⟨.pointer 3,8,Xp,[(.pointer none)]⟩
theorem Xq:TOk Tryz.prog 318 d318:=⟨av Tryz.typeInfo318 rfl rfl rfl rfl,Tryz.underlying318,rfl,rfl,aR rfl⟩
abbrev Xr:Ty:=.ptr UB
def d324:TD:=⟨.pointer 314,8,Xr,[(.pointer none)]⟩
theorem Xs:TOk Tryz.prog 324 d324:=⟨av Tryz.typeInfo324 rfl rfl rfl rfl,Tryz.underlying324,rfl,rfl,aR rfl⟩
abbrev Xt:Ty:=.int .u8
def d346:TD:=⟨.int .u8,1,Xt,[(.int .u8 0)]⟩
theorem Xu:TOk Tryz.prog 346 d346:=⟨av Tryz.typeInfo346 rfl rfl rfl rfl,⟨Tryz.underlying346,rfl⟩,rfl,rfl,jh rfl Tryz.typeInfo346 rfl⟩
abbrev Xv:Ty:=.int .u8
def d347:TD:=⟨.int .u8,1,Xv,[(.int .u8 0)]⟩
theorem Xw:TOk Tryz.prog 347 d347:=⟨av Tryz.typeInfo347 rfl rfl rfl rfl,⟨Tryz.underlying347,rfl⟩,rfl,rfl,jh rfl Tryz.typeInfo347 rfl⟩
abbrev Xx:Ty:=.ptr y5
def d349:TD:=⟨.pointer 5,8,Xx,[(.pointer none)]⟩
theorem Xy:TOk Tryz.prog 349 d349:=⟨av Tryz.typeInfo349 rfl rfl rfl rfl,Tryz.underlying349,rfl,rfl,aR rfl⟩
abbrev Xz:Ty:=.int .i32
def d350:TD:=⟨.int .i32,4,Xz,[(.int .i32 0)]⟩
theorem XA:TOk Tryz.prog 350 d350:=⟨av Tryz.typeInfo350 rfl rfl rfl rfl,⟨Tryz.underlying350,rfl⟩,rfl,rfl,jh rfl Tryz.typeInfo350 rfl⟩
abbrev XB:Ty:=.int .i32
def d351:TD:=⟨.int .i32,4,XB,[(.int .i32 0)]⟩
theorem XC:TOk Tryz.prog 351 d351:=⟨av Tryz.typeInfo351 rfl rfl rfl rfl,⟨Tryz.underlying351,rfl⟩,rfl,rfl,jh rfl Tryz.typeInfo351 rfl⟩
abbrev y22:Ty:=.sl y26
def d22:TD:=⟨.slice 26,24,y22,[(.slice none 0 0)]⟩
theorem k22:TOk Tryz.prog 22 d22:=⟨av Tryz.typeInfo22 rfl rfl rfl rfl,Tryz.underlying22,rfl,rfl,aR rfl⟩
abbrev y28:Ty:=.sl y96
def d28:TD:=⟨.slice 96,24,y28,[(.slice none 0 0)]⟩
theorem k28:TOk Tryz.prog 28 d28:=⟨av Tryz.typeInfo28 rfl rfl rfl rfl,Tryz.underlying28,rfl,rfl,aR rfl⟩
abbrev y30:Ty:=.sl y79
def d30:TD:=⟨.slice 79,24,y30,[(.slice none 0 0)]⟩
theorem k30:TOk Tryz.prog 30 d30:=⟨av Tryz.typeInfo30 rfl rfl rfl rfl,Tryz.underlying30,rfl,rfl,aR rfl⟩
abbrev y31:Ty:=.sl Uv
def d31:TD:=⟨.slice 165,24,y31,[(.slice none 0 0)]⟩
theorem k31:TOk Tryz.prog 31 d31:=⟨av Tryz.typeInfo31 rfl rfl rfl rfl,Tryz.underlying31,rfl,rfl,aR rfl⟩
abbrev y32:Ty:=.st (.pair y28 (.pair y29 (.pair y30 (.pair y31 (y3)))))
def d32:TD:=⟨.struct [(28,0),(29,1),(30,2),(31,3),(3,4)],104,y32,[(.slice none 0 0),(.slice none 0 0),(.slice none 0 0),(.slice none 0 0),(.int .i64 0)]⟩
theorem k32:TOk Tryz.prog 32 d32:=⟨av Tryz.typeInfo32 rfl rfl rfl rfl,⟨_,Tryz.underlying32,rfl⟩,rfl,rfl,aR rfl⟩
abbrev y33:Ty:=.st (.pair y28 (.pair y29 (.pair y30 (.pair y31 (y3)))))
def d33:TD:=⟨.struct [(28,0),(29,1),(30,2),(31,3),(3,4)],104,y33,[(.slice none 0 0),(.slice none 0 0),(.slice none 0 0),(.slice none 0 0),(.int .i64 0)]⟩
theorem k33:TOk Tryz.prog 33 d33:=⟨av Tryz.typeInfo33 rfl rfl rfl rfl,⟨_,Tryz.underlying33,rfl⟩,rfl,rfl,aR rfl⟩
abbrev y35:Ty:=.sl y77
def d35:TD:=⟨.slice 77,24,y35,[(.slice none 0 0)]⟩
theorem k35:TOk Tryz.prog 35 d35:=⟨av Tryz.typeInfo35 rfl rfl rfl rfl,Tryz.underlying35,rfl,rfl,aR rfl⟩
abbrev y36:Ty:=.sl y53
def d36:TD:=⟨.slice 53,24,y36,[(.slice none 0 0)]⟩
theorem k36:TOk Tryz.prog 36 d36:=⟨av Tryz.typeInfo36 rfl rfl rfl rfl,Tryz.underlying36,rfl,rfl,aR rfl⟩
abbrev y52:Ty:=.sl y58
def d52:TD:=⟨.slice 58,24,y52,[(.slice none 0 0)]⟩
theorem k52:TOk Tryz.prog 52 d52:=⟨av Tryz.typeInfo52 rfl rfl rfl rfl,Tryz.underlying52,rfl,rfl,aR rfl⟩
abbrev y54:Ty:=.sl y59
def d54:TD:=⟨.slice 59,24,y54,[(.slice none 0 0)]⟩
theorem k54:TOk Tryz.prog 54 d54:=⟨av Tryz.typeInfo54 rfl rfl rfl rfl,Tryz.underlying54,rfl,rfl,aR rfl⟩
abbrev y69:Ty:=.sl y74
def d69:TD:=⟨.slice 74,24,y69,[(.slice none 0 0)]⟩
theorem k69:TOk Tryz.prog 69 d69:=⟨av Tryz.typeInfo69 rfl rfl rfl rfl,Tryz.underlying69,rfl,rfl,aR rfl⟩
abbrev y70:Ty:=.sl y73
def d70:TD:=⟨.slice 73,24,y70,[(.slice none 0 0)]⟩
theorem k70:TOk Tryz.prog 70 d70:=⟨av Tryz.typeInfo70 rfl rfl rfl rfl,Tryz.underlying70,rfl,rfl,aR rfl⟩
abbrev y82:Ty:=.sl y69
def d82:TD:=⟨.slice 69,24,y82,[(.slice none 0 0)]⟩
theorem k82:TOk Tryz.prog 82 d82:=⟨av Tryz.typeInfo82 rfl rfl rfl rfl,Tryz.underlying82,rfl,rfl,aR rfl⟩
abbrev y83:Ty:=.st (.pair y82 (.pair y36 (.pair y53 (y53))))
def d83:TD:=⟨.struct [(82,0),(36,1),(53,2),(53,3)],96,y83,[(.slice none 0 0),(.slice none 0 0),(.slice none 0 0),(.slice none 0 0)]⟩
theorem k83:TOk Tryz.prog 83 d83:=⟨av Tryz.typeInfo83 rfl rfl rfl rfl,⟨_,Tryz.underlying83,rfl⟩,rfl,rfl,aR rfl⟩
abbrev y84:Ty:=.st (.pair y82 (.pair y36 (.pair y53 (y53))))
def d84:TD:=⟨.struct [(82,0),(36,1),(53,2),(53,3)],96,y84,[(.slice none 0 0),(.slice none 0 0),(.slice none 0 0),(.slice none 0 0)]⟩
theorem k84:TOk Tryz.prog 84 d84:=⟨av Tryz.typeInfo84 rfl rfl rfl rfl,⟨_,Tryz.underlying84,rfl⟩,rfl,rfl,aR rfl⟩
abbrev y89:Ty:=.st (.pair y88 (.pair y36 (y53)))
def d89:TD:=⟨.struct [(88,0),(36,256),(53,257)],304,y89,List.replicate 256 (.int .u8 0)++[(.slice none 0 0),(.slice none 0 0)]⟩
theorem k89:TOk Tryz.prog 89 d89:=⟨av (z:=.agg d89.zero.toArray) Tryz.typeInfo89 (by kernel_rfl) (by kernel_rfl) (by kernel_rfl) (by kernel_rfl),⟨_,Tryz.underlying89,rfl⟩,(by kernel_rfl),(by kernel_rfl),aR rfl⟩
abbrev y90:Ty:=.st (.pair y88 (.pair y36 (y53)))
def d90:TD:=⟨.struct [(88,0),(36,256),(53,257)],304,y90,List.replicate 256 (.int .u8 0)++[(.slice none 0 0),(.slice none 0 0)]⟩
theorem k90:TOk Tryz.prog 90 d90:=⟨av (z:=.agg d90.zero.toArray) Tryz.typeInfo90 (by kernel_rfl) (by kernel_rfl) (by kernel_rfl) (by kernel_rfl),⟨_,Tryz.underlying90,rfl⟩,(by kernel_rfl),(by kernel_rfl),aR rfl⟩
abbrev C3:Ty:=.st (.pair eC (y54))
def d113:TD:=⟨.struct [(112,0),(54,1)],48,C3,[(.slice none 0 0),(.slice none 0 0)]⟩
theorem XD:TOk Tryz.prog 113 d113:=⟨av Tryz.typeInfo113 rfl rfl rfl rfl,⟨_,Tryz.underlying113,rfl⟩,rfl,rfl,aR rfl⟩
abbrev RD:Ty:=.st (.pair eC (y54))
def d114:TD:=⟨.struct [(112,0),(54,1)],48,RD,[(.slice none 0 0),(.slice none 0 0)]⟩
theorem XE:TOk Tryz.prog 114 d114:=⟨av Tryz.typeInfo114 rfl rfl rfl rfl,⟨_,Tryz.underlying114,rfl⟩,rfl,rfl,aR rfl⟩
abbrev fm:Ty:=.sl j9
def d117:TD:=⟨.slice 131,24,fm,[(.slice none 0 0)]⟩
theorem XF:TOk Tryz.prog 117 d117:=⟨av Tryz.typeInfo117 rfl rfl rfl rfl,Tryz.underlying117,rfl,rfl,aR rfl⟩
abbrev RE:Ty:=.sl Ut
def d123:TD:=⟨.slice 127,24,RE,[(.slice none 0 0)]⟩
theorem XG:TOk Tryz.prog 123 d123:=⟨av Tryz.typeInfo123 rfl rfl rfl rfl,Tryz.underlying123,rfl,rfl,aR rfl⟩
abbrev UC:Ty:=.sl Uu
def d133:TD:=⟨.slice 134,24,UC,[(.slice none 0 0)]⟩
theorem XH:TOk Tryz.prog 133 d133:=⟨av Tryz.typeInfo133 rfl rfl rfl rfl,Tryz.underlying133,rfl,rfl,aR rfl⟩
abbrev nn:Ty:=.sl RB
def d144:TD:=⟨.slice 215,24,nn,[(.slice none 0 0)]⟩
theorem XI:TOk Tryz.prog 144 d144:=⟨av Tryz.typeInfo144 rfl rfl rfl rfl,Tryz.underlying144,rfl,rfl,aR rfl⟩
abbrev UD:Ty:=.sl RB
def d145:TD:=⟨.slice 215,24,UD,[(.slice none 0 0)]⟩
theorem XJ:TOk Tryz.prog 145 d145:=⟨av Tryz.typeInfo145 rfl rfl rfl rfl,Tryz.underlying145,rfl,rfl,aR rfl⟩
abbrev RF:Ty:=.sl Uy
def d148:TD:=⟨.slice 220,24,RF,[(.slice none 0 0)]⟩
theorem XK:TOk Tryz.prog 148 d148:=⟨av Tryz.typeInfo148 rfl rfl rfl rfl,Tryz.underlying148,rfl,rfl,aR rfl⟩
abbrev yn:Ty:=.st (.pair y3 (.pair RF (.pair y3 (y3))))
def d149:TD:=⟨.struct [(3,0),(148,1),(3,2),(3,3)],48,yn,[(.int .i64 0),(.slice none 0 0),(.int .i64 0),(.int .i64 0)]⟩
theorem XL:TOk Tryz.prog 149 d149:=⟨av Tryz.typeInfo149 rfl rfl rfl rfl,⟨_,Tryz.underlying149,rfl⟩,rfl,rfl,aR rfl⟩
abbrev Hb:Ty:=.st (.pair y3 (.pair RF (.pair y3 (y3))))
def d150:TD:=⟨.struct [(3,0),(148,1),(3,2),(3,3)],48,Hb,[(.int .i64 0),(.slice none 0 0),(.int .i64 0),(.int .i64 0)]⟩
theorem XM:TOk Tryz.prog 150 d150:=⟨av Tryz.typeInfo150 rfl rfl rfl rfl,⟨_,Tryz.underlying150,rfl⟩,rfl,rfl,aR rfl⟩
abbrev C4:Ty:=.st (.pair y33 (.pair RD (.pair eC (.pair y54 (fm)))))
def d185:TD:=⟨.struct [(33,0),(114,5),(112,7),(54,8),(117,9)],224,C4,[(.slice none 0 0),(.slice none 0 0),(.slice none 0 0),(.slice none 0 0),(.int .i64 0),(.slice none 0 0),(.slice none 0 0),(.slice none 0 0),(.slice none 0 0),(.slice none 0 0)]⟩
theorem XN:TOk Tryz.prog 185 d185:=⟨av Tryz.typeInfo185 rfl rfl rfl rfl,⟨_,Tryz.underlying185,rfl⟩,rfl,rfl,aR rfl⟩
abbrev UE:Ty:=.st (.pair y33 (.pair RD (.pair eC (.pair y54 (fm)))))
def d186:TD:=⟨.struct [(33,0),(114,5),(112,7),(54,8),(117,9)],224,UE,[(.slice none 0 0),(.slice none 0 0),(.slice none 0 0),(.slice none 0 0),(.int .i64 0),(.slice none 0 0),(.slice none 0 0),(.slice none 0 0),(.slice none 0 0),(.slice none 0 0)]⟩
theorem XO:TOk Tryz.prog 186 d186:=⟨av Tryz.typeInfo186 rfl rfl rfl rfl,⟨_,Tryz.underlying186,rfl⟩,rfl,rfl,aR rfl⟩
abbrev XP:Ty:=.ptr Uw
def d202:TD:=⟨.pointer 204,8,XP,[(.pointer none)]⟩
theorem XQ:TOk Tryz.prog 202 d202:=⟨av Tryz.typeInfo202 rfl rfl rfl rfl,Tryz.underlying202,rfl,rfl,aR rfl⟩
abbrev Hc:Ty:=.st (Hb)
def d209:TD:=⟨.struct [(150,0)],48,Hc,[(.int .i64 0),(.slice none 0 0),(.int .i64 0),(.int .i64 0)]⟩
theorem XR:TOk Tryz.prog 209 d209:=⟨av Tryz.typeInfo209 rfl rfl rfl rfl,⟨_,Tryz.underlying209,rfl⟩,rfl,rfl,aR rfl⟩
abbrev UF:Ty:=.st (Hb)
def d210:TD:=⟨.struct [(150,0)],48,UF,[(.int .i64 0),(.slice none 0 0),(.int .i64 0),(.int .i64 0)]⟩
theorem XS:TOk Tryz.prog 210 d210:=⟨av Tryz.typeInfo210 rfl rfl rfl rfl,⟨_,Tryz.underlying210,rfl⟩,rfl,rfl,aR rfl⟩
abbrev XT:Ty:=.sl Ux
def d211:TD:=⟨.slice 218,24,XT,[(.slice none 0 0)]⟩
theorem XU:TOk Tryz.prog 211 d211:=⟨av Tryz.typeInfo211 rfl rfl rfl rfl,Tryz.underlying211,rfl,rfl,aR rfl⟩
abbrev C5:Ty:=.st (.pair Hb (.pair y53 (.pair wq (.pair wo (.pair RC (y90))))))
def d224:TD:=⟨.struct [(150,0),(53,4),(182,5),(116,6),(223,7),(90,8)],432,C5,[(.int .i64 0),(.slice none 0 0),(.int .i64 0),(.int .i64 0),(.slice none 0 0),(.slice none 0 0),(.map none),(.slice none 0 0)]++List.replicate 256 (.int .u8 0)++[(.slice none 0 0),(.slice none 0 0)]⟩
theorem XV:TOk Tryz.prog 224 d224:=⟨av (z:=.agg d224.zero.toArray) Tryz.typeInfo224 (by kernel_rfl) (by kernel_rfl) (by kernel_rfl) (by kernel_rfl),⟨_,Tryz.underlying224,rfl⟩,(by kernel_rfl),(by kernel_rfl),aR rfl⟩
abbrev UG:Ty:=.st (.pair Hb (.pair y53 (.pair wq (.pair wo (.pair RC (y90))))))
def d225:TD:=⟨.struct [(150,0),(53,4),(182,5),(116,6),(223,7),(90,8)],432,UG,[(.int .i64 0),(.slice none 0 0),(.int .i64 0),(.int .i64 0),(.slice none 0 0),(.slice none 0 0),(.map none),(.slice none 0 0)]++List.replicate 256 (.int .u8 0)++[(.slice none 0 0),(.slice none 0 0)]⟩
theorem XW:TOk Tryz.prog 225 d225:=⟨av (z:=.agg d225.zero.toArray) Tryz.typeInfo225 (by kernel_rfl) (by kernel_rfl) (by kernel_rfl) (by kernel_rfl),⟨_,Tryz.underlying225,rfl⟩,(by kernel_rfl),(by kernel_rfl),aR rfl⟩
abbrev NC:Ty:=.sl UD
def d307:TD:=⟨.slice 145,24,NC,[(.slice none 0 0)]⟩
theorem XX:TOk Tryz.prog 307 d307:=⟨av Tryz.typeInfo307 rfl rfl rfl rfl,Tryz.underlying307,rfl,rfl,aR rfl⟩
abbrev y34:Ty:=.sl UC
def d34:TD:=⟨.slice 133,24,y34,[(.slice none 0 0)]⟩
theorem k34:TOk Tryz.prog 34 d34:=⟨av Tryz.typeInfo34 rfl rfl rfl rfl,Tryz.underlying34,rfl,rfl,aR rfl⟩
abbrev y37:Ty:=.st (.pair y34 (.pair y35 (y36)))
def d37:TD:=⟨.struct [(34,0),(35,1),(36,2)],72,y37,[(.slice none 0 0),(.slice none 0 0),(.slice none 0 0)]⟩
theorem k37:TOk Tryz.prog 37 d37:=⟨av Tryz.typeInfo37 rfl rfl rfl rfl,⟨_,Tryz.underlying37,rfl⟩,rfl,rfl,aR rfl⟩
abbrev y38:Ty:=.st (.pair y34 (.pair y35 (y36)))
def d38:TD:=⟨.struct [(34,0),(35,1),(36,2)],72,y38,[(.slice none 0 0),(.slice none 0 0),(.slice none 0 0)]⟩
theorem k38:TOk Tryz.prog 38 d38:=⟨av Tryz.typeInfo38 rfl rfl rfl rfl,⟨_,Tryz.underlying38,rfl⟩,rfl,rfl,aR rfl⟩
abbrev y41:Ty:=.sl fm
def d41:TD:=⟨.slice 117,24,y41,[(.slice none 0 0)]⟩
theorem k41:TOk Tryz.prog 41 d41:=⟨av Tryz.typeInfo41 rfl rfl rfl rfl,Tryz.underlying41,rfl,rfl,aR rfl⟩
abbrev y42:Ty:=.sl RE
def d42:TD:=⟨.slice 123,24,y42,[(.slice none 0 0)]⟩
theorem k42:TOk Tryz.prog 42 d42:=⟨av Tryz.typeInfo42 rfl rfl rfl rfl,Tryz.underlying42,rfl,rfl,aR rfl⟩
abbrev y43:Ty:=.st (.pair y41 (y42))
def d43:TD:=⟨.struct [(41,0),(42,1)],48,y43,[(.slice none 0 0),(.slice none 0 0)]⟩
theorem k43:TOk Tryz.prog 43 d43:=⟨av Tryz.typeInfo43 rfl rfl rfl rfl,⟨_,Tryz.underlying43,rfl⟩,rfl,rfl,aR rfl⟩
abbrev y44:Ty:=.st (.pair y41 (y42))
def d44:TD:=⟨.struct [(41,0),(42,1)],48,y44,[(.slice none 0 0),(.slice none 0 0)]⟩
theorem k44:TOk Tryz.prog 44 d44:=⟨av Tryz.typeInfo44 rfl rfl rfl rfl,⟨_,Tryz.underlying44,rfl⟩,rfl,rfl,aR rfl⟩
abbrev y48:Ty:=.sl y52
def d48:TD:=⟨.slice 52,24,y48,[(.slice none 0 0)]⟩
theorem k48:TOk Tryz.prog 48 d48:=⟨av Tryz.typeInfo48 rfl rfl rfl rfl,Tryz.underlying48,rfl,rfl,aR rfl⟩
abbrev y65:Ty:=.st (.pair y48 (.pair y36 (.pair y53 (y53))))
def d65:TD:=⟨.struct [(48,0),(36,1),(53,2),(53,3)],96,y65,[(.slice none 0 0),(.slice none 0 0),(.slice none 0 0),(.slice none 0 0)]⟩
theorem k65:TOk Tryz.prog 65 d65:=⟨av Tryz.typeInfo65 rfl rfl rfl rfl,⟨_,Tryz.underlying65,rfl⟩,rfl,rfl,aR rfl⟩
abbrev y66:Ty:=.st (.pair y48 (.pair y36 (.pair y53 (y53))))
def d66:TD:=⟨.struct [(48,0),(36,1),(53,2),(53,3)],96,y66,[(.slice none 0 0),(.slice none 0 0),(.slice none 0 0),(.slice none 0 0)]⟩
theorem k66:TOk Tryz.prog 66 d66:=⟨av Tryz.typeInfo66 rfl rfl rfl rfl,⟨_,Tryz.underlying66,rfl⟩,rfl,rfl,aR rfl⟩
abbrev XY:Ty:=.sl Hb
def d143:TD:=⟨.slice 150,24,XY,[(.slice none 0 0)]⟩
theorem XZ:TOk Tryz.prog 143 d143:=⟨av Tryz.typeInfo143 rfl rfl rfl rfl,Tryz.underlying143,rfl,rfl,aR rfl⟩
abbrev X0:Ty:=.ptr UE
def d183:TD:=⟨.pointer 186,8,X0,[(.pointer none)]⟩
theorem X1:TOk Tryz.prog 183 d183:=⟨av Tryz.typeInfo183 rfl rfl rfl rfl,Tryz.underlying183,rfl,rfl,aR rfl⟩
abbrev X2:Ty:=.ptr UF
def d208:TD:=⟨.pointer 210,8,X2,[(.pointer none)]⟩
theorem X3:TOk Tryz.prog 208 d208:=⟨av Tryz.typeInfo208 rfl rfl rfl rfl,Tryz.underlying208,rfl,rfl,aR rfl⟩
abbrev UH:Ty:=.ptr UG
def d222:TD:=⟨.pointer 225,8,UH,[(.pointer none)]⟩
theorem X4:TOk Tryz.prog 222 d222:=⟨av Tryz.typeInfo222 rfl rfl rfl rfl,Tryz.underlying222,rfl,rfl,aR rfl⟩
def tab:List (Nat×TD):=[(2,d2),(3,d3),(4,d4),(5,d5),(6,d6),(7,d7),(8,d8),(9,d9),(10,d10),(11,d11),(12,d12),(13,d13),(14,d14),(21,d21),(22,d22),(25,d25),(26,d26),(28,d28),(29,d29),(30,d30),(31,d31),(32,d32),(33,d33),(34,d34),(35,d35),(36,d36),(37,d37),(38,d38),(41,d41),(42,d42),(43,d43),(44,d44),(45,d45),(48,d48),(52,d52),(53,d53),(54,d54),(57,d57),(58,d58),(59,d59),(60,d60),(62,d62),(63,d63),(65,d65),(66,d66),(69,d69),(70,d70),(73,d73),(74,d74),(77,d77),(78,d78),(79,d79),(82,d82),(83,d83),(84,d84),(88,d88),(89,d89),(90,d90),(95,d95),(96,d96),(99,d99),(100,d100),(109,d109),(110,d110),(112,d112),(113,d113),(114,d114),(116,d116),(117,d117),(123,d123),(126,d126),(127,d127),(130,d130),(131,d131),(133,d133),(134,d134),(143,d143),(144,d144),(145,d145),(148,d148),(149,d149),(150,d150),(164,d164),(165,d165),(168,d168),(182,d182),(183,d183),(185,d185),(186,d186),(202,d202),(203,d203),(204,d204),(208,d208),(209,d209),(210,d210),(211,d211),(212,d212),(213,d213),(214,d214),(215,d215),(217,d217),(218,d218),(219,d219),(220,d220),(222,d222),(223,d223),(224,d224),(225,d225),(227,d227),(235,d235),(236,d236),(237,d237),(258,d258),(296,d296),(303,d303),(307,d307),(314,d314),(318,d318),(324,d324),(346,d346),(347,d347),(349,d349),(350,d350),(351,d351)]
theorem JS:cK Tryz.prog (AJ tab):=JN ((by exact⟨k2,k3,k4,k5,k6,k7,k8,k9,k10,k11,k12,k13,k14,k21,k22,k25,k26,k28,k29,k30,k31,k32,k33,k34,k35,k36,k37,k38,k41,k42,k43,k44,k45,k48,k52,k53,k54,k57,k58,k59,k60,k62,k63,k65,k66,k69,k70,k73,k74,k77,k78,k79,k82,k83,k84,k88,k89,k90,k95,k96,k99,WI,WJ,WL,WM,XD,XE,WN,XF,XG,WQ,WR,WS,RA,XH,WT,XZ,XI,XJ,XK,XL,XM,WV,WW,WX,WY,X1,XN,XO,XQ,WZ,W0,X3,XR,XS,XU,W2,W3,W4,W5,W7,W8,Xa,Xb,X4,Xc,XV,XW,Xd,Xf,Xg,Xi,Xj,Xl,Xn,XX,Xo,Xq,Xs,Xu,Xw,Xy,XA,XC,trivial⟩))
end
noncomputable section
theorem mix:Tryz.prog.follows .mixedOrders=true:=by kernel_rfl
structure Fb(i:Nat)where
 k:Callee
 o:fL Tryz.prog i k
 q:Plain Tryz.prog i
def lk:List (Σ i,Fb i)->List (FuncId×Callee)
 |[]=>[]
 |a::l=>(a.1,a.2.k)::lk l
theorem Qh:∀ l,gW Tryz.prog (lk l)
 |[]=>trivial
 |a::l=>⟨⟨a.2.o,a.2.q⟩,Qh l⟩
def hsN:List Nat->Nat->Bool
 |[],_=>false
 |a::l,d=>Nat.beq d a||hsN l d
abbrev Eqs:=List {t//xZ Tryz.prog t}
def eqN:Eqs->Nat->Bool
 |[],_=>false
 |a::l,d=>Nat.beq d a.1||eqN l d
theorem JT:∀ (l:Eqs) t,eqN l t=true->xZ Tryz.prog t
 |[],t,h=>by cases h
 |a::l,t,h=>by
  simp only [eqN,aJ]at h
  rcases h with h|h
  ·rw [bI h];exact a.2
  ·exact JT l t h
def vv(l:List (Σ i,Fb i))(a b:List Nat)(e:Eqs):Env:=⟨AJ tab,Ez (lk l),hsN a,eqN e,hsN b⟩
theorem UI(l:List (Σ i,Fb i))(a b:List Nat)(e:Eqs):fT Tryz.prog (vv l a b e):=⟨JS,JO (Qh l),mix,JT e⟩
def cb(f:Func):Code:=match f.body with|some c=>c|none=>.skip
abbrev Qt(a b c:List (Ty×Md)):=(dS a).T->Option ((dS b).T×(dS c).T)
theorem pl{f:FuncId}{fn:Func}(h:Tryz.prog.funcs[f]?=some fn)(h1:(fn.name=="runtime.NumGoroutine")=false:=by kernel_rfl)(h2:fn.body.isNone=false:=by kernel_rfl):Plain Tryz.prog f:=⟨fn,h,h1,h2⟩
noncomputable def fb {f:FuncId} {fn:Func} {rv:List ResultVar} {N:Nat} (n:Nat) (l:List (Σ i,Fb i)) (a b:List Nat) (e:Eqs) (hf:Tryz.prog.funcs[f]?=some fn) (hr:fn.results=rv.toArray) (hN:fn.ntmps=N) (an:Ann) (ps rs:List (Ty×Md)) (mi:List Nat) (ms:List (Ty×Md)) (d:Qt ps rs ms) (hb:fn.body=some (cb fn):=by rfl) (hp:ps.length≤N:=by decide) (hm:JL ps mi=true:=by rfl) (he:∀ x,d x=Ey (vv l a b e) N n (cb fn) an ps rs mi ms rv x:=by intro x;kernel_rfl) (h1:(fn.name=="runtime.NumGoroutine")=false:=by kernel_rfl) (h2:fn.body.isNone=false:=by kernel_rfl):Fb f:=⟨⟨ps,rs,mi,ms,d⟩,(Uo (UI l a b e) hf hb hr hN hp hm an n).of_eq he,pl hf h1 h2⟩
abbrev U0:Type:=(List Int)
abbrev T0:Type:=U0
abbrev U25:Type:=(Int×Unit)
abbrev T1:Type:=U25
abbrev T2:Type:=(Unit×Unit)
abbrev T3:Type:=(Int×Int×Unit)
abbrev T4:Type:=(Unit×Int×Unit)
abbrev T5:Type:=(Unit×Bool×Unit)
abbrev U31:Type:=(U0×Unit)
abbrev T6:Type:=U31
abbrev T7:Type:=(U25×Unit)
abbrev U12:Type:=(List Bool)
abbrev U30:Type:=(U12×Unit)
abbrev T8:Type:=U30
abbrev T9:Type:=((Bool×Unit)×Unit)
abbrev T10:Type:=(Unit×Int×Int×Unit)
abbrev T11:Type:=(U0×Int×Unit)
abbrev T12:Type:=(Unit×Bool×Int×Unit)
abbrev T13:Type:=((Int×Int×Unit)×Unit)
abbrev U27:Type:=(Int×Bool×Unit)
abbrev T14:Type:=(U27×Unit)
abbrev T15:Type:=Option (U25×Unit)
abbrev T16:Type:=(U31×Unit)
abbrev T17:Type:=Option ((Bool×Unit)×Unit)
abbrev T18:Type:=(U30×Unit)
abbrev T19:Type:=(Unit×Int×Int×Int×Unit)
abbrev T20:Type:=(U0×Int×Int×Unit)
abbrev T21:Type:=(Unit×U0×Int×Unit)
abbrev T22:Type:=((Int×Int×Bool×Unit)×Unit)
abbrev U14:Type:=(U0×Int×Int)
abbrev T23:Type:=(U14×Unit)
abbrev U32:Type:=(U0×U0×Unit)
abbrev T24:Type:=U32
abbrev T25:Type:=(Unit×U12×Int×Unit)
abbrev U11:Type:=(Int×Int×Int)
abbrev U2:Type:=(List U11)
abbrev T26:Type:=(U2×Unit)
abbrev T27:Type:=(U31×Int×Unit)
abbrev T28:Type:=Option ((Int×Int×Unit)×Unit)
abbrev T29:Type:=((U11×Unit)×Unit)
abbrev U7:Type:=(Int×U0)
abbrev U15:Type:=(List U7)
abbrev T30:Type:=(U15×Unit)
abbrev T31:Type:=(U30×Int×Unit)
abbrev T32:Type:=(U31×Bool×Unit)
abbrev T33:Type:=Option (U27×Unit)
abbrev U5:Type:=(Bool×Int)
abbrev U17:Type:=(List U5)
abbrev T34:Type:=(Unit×U17×Unit)
abbrev T35:Type:=Option (U31×Unit)
abbrev T36:Type:=(U30×Bool×Unit)
abbrev T37:Type:=((U5×Unit)×Bool×Unit)
abbrev T38:Type:=((U5×Bool×Unit)×Unit)
abbrev U24:Type:=(Int×Int)
abbrev U8:Type:=(List U24)
abbrev U34:Type:=(U8×Unit)
abbrev T39:Type:=(U34×Unit)
abbrev T40:Type:=Option (U30×Unit)
abbrev T41:Type:=((U17×Unit)×Unit)
abbrev T42:Type:=((U11×Unit)×Int×Unit)
abbrev T43:Type:=(Unit×U2×Unit)
abbrev T44:Type:=Option ((Int×Int×Bool×Unit)×Unit)
abbrev T45:Type:=((List U0)×U0×Unit)
abbrev T46:Type:=((U11×Unit)×Bool×Unit)
abbrev T47:Type:=(Unit×U17×Int×Unit)
abbrev T48:Type:=(U30×Bool×Int×Unit)
abbrev T49:Type:=(U32×Unit)
abbrev T50:Type:=Option ((U11×Unit)×Unit)
abbrev T51:Type:=((U2×Unit)×Unit)
abbrev T52:Type:=(U34×Int×Unit)
abbrev T53:Type:=(U31×U12×Unit)
abbrev T54:Type:=(U17×U5×Unit)
abbrev T55:Type:=(U34×Bool×Unit)
abbrev T56:Type:=((U15×Unit)×Unit)
abbrev T57:Type:=((U17×Bool×Unit)×Unit)
abbrev T58:Type:=Option ((U5×Bool×Unit)×Unit)
abbrev T59:Type:=Option ((U17×Unit)×Unit)
abbrev T60:Type:=(Unit×U2×Int×Unit)
abbrev T61:Type:=(U32×Int×Unit)
abbrev T62:Type:=(Unit×Int×U15×Unit)
abbrev T63:Type:=((U14×Unit)×Bool×Unit)
abbrev T64:Type:=((Bool×Unit)×U14×Unit)
abbrev U26:Type:=(U0×Int×U0)
abbrev T65:Type:=((List U26)×Unit)
abbrev T66:Type:=((U2×Unit)×Bool×Unit)
abbrev U33:Type:=((U15×Int×Unit)×Unit)
abbrev T67:Type:=U33
abbrev T68:Type:=Option ((U2×Unit)×Unit)
abbrev U4:Type:=(Int×Int×Int×Int×Int×Bool)
abbrev U21:Type:=(List U4)
abbrev T69:Type:=(U21×Unit)
abbrev T70:Type:=Option ((U17×Bool×Unit)×Unit)
abbrev T71:Type:=(U27×U14×Unit)
abbrev T72:Type:=((U14×U0×Unit)×Unit)
abbrev T73:Type:=Option ((Bool×Unit)×U14×Unit)
abbrev T74:Type:=(U12×U0×U17×Unit)
abbrev T75:Type:=Option U33
abbrev T76:Type:=((U17×U5×Unit)×Bool×Unit)
abbrev T77:Type:=((U21×Unit)×Unit)
abbrev T78:Type:=((U11×U8×Unit)×Int×Unit)
abbrev T79:Type:=(U15×U0×U12×Unit)
abbrev U20:Type:=(Int×Int×U0×Bool)
abbrev U3:Type:=(Int×(List U20)×Int×Int)
abbrev T80:Type:=(U3×Unit)
abbrev T81:Type:=((U2×U11×Unit)×Bool×Unit)
abbrev T82:Type:=((U14×Unit)×U15×Unit)
abbrev U16:Type:=(U0×(List U0)×U0)
abbrev T83:Type:=((U16×Int×Unit)×Unit)
abbrev T84:Type:=(Unit×U3×Unit)
abbrev U22:Type:=(Int×U0×U17×Bool×Int×U0)
abbrev T85:Type:=(U22×Unit)
abbrev U19:Type:=(List (U0×Int))
abbrev T86:Type:=((U0×U0×U19×Unit)×Int×Unit)
abbrev T87:Type:=((U14×Unit)×U15×Bool×Unit)
abbrev U28:Type:=((U15×Bool×Unit)×U14×Unit)
abbrev T88:Type:=U28
abbrev T89:Type:=Option ((U16×Int×Unit)×Unit)
abbrev T90:Type:=(U25×U3×Unit)
abbrev T91:Type:=(U34×U21×Unit)
abbrev T92:Type:=((U8×U21×Unit)×Unit)
abbrev U29:Type:=(U12×U0)
abbrev T93:Type:=((U29×U29×Unit)×Bool×Unit)
abbrev T94:Type:=Option U28
abbrev U13:Type:=((List U8)×(List U0)×U0×U0)
abbrev T95:Type:=(U13×Unit)
abbrev T96:Type:=(U34×U21×Int×Unit)
abbrev T97:Type:=((U21×U8×Unit)×Int×Unit)
abbrev T98:Type:=Option ((U8×U21×Unit)×Unit)
abbrev T99:Type:=(((List U8)×U21×Unit)×Unit)
abbrev ND:Type:=(U0×Int×Int×Unit)->Option U33
abbrev UJ:Type:=((U21×U24×U8×Unit)×Unit)
abbrev U23:Type:=(List (U5×Int))
abbrev U10:Type:=((List U2)×(List U23))
abbrev RG:Type:=((U10×Int×Unit)×Unit)
abbrev Hd:Type:=((U3×U8×Unit)×Unit)
abbrev X5:Type:=(U13×Int×Int×Unit)
abbrev UK:Type:=(U15×U0×U12×Unit)->Option (U30×Unit)
abbrev U9:Type:=((List U2)×(List U17)×(List U0))
abbrev RH:Type:=((U9×Bool×Unit)×Unit)
abbrev UL:Type:=Option ((U9×Bool×Unit)×Unit)
abbrev RI:Type:=((U21×U4×U8×Unit)×Unit)
abbrev NE:Type:=(U14×Unit)->Option U28
abbrev UM:Type:=(U25×U19×U10×Unit)
abbrev UN:Type:=((U13×U21×Int×Unit)×Unit)
abbrev UO:Type:=((U13×U13×Unit)×Int×Unit)
abbrev U1:Type:=((List U26)×(List U0)×(List U22)×U15×Int)
abbrev o4:Type:=(U1×Unit)
abbrev uN:Type:=(U1×Int×Unit)
abbrev RJ:Type:=(U1×Int×Int×Unit)
abbrev UP:Type:=(U1×U5×Unit)
abbrev NF:Type:=(U1×U11×Unit)
abbrev U6:Type:=(U3×U0×U0×U19×(List U12)×U0×(List U0)×U0)
abbrev UQ:Type:=(U25×U6×Unit)
abbrev RK:Type:=(U1×U2×Unit)
abbrev UR:Type:=((U9×U9×U0×Unit)×Int×Unit)
abbrev US:Type:=(U1×U2×U5×Unit)
abbrev UT:Type:=((U16×U6×Unit)×Int×Unit)
abbrev U18:Type:=(U1×U29×U12×U0×U2)
abbrev RL:Type:=((U18×Unit)×Unit)
abbrev UU:Type:=((U18×Unit)×Bool×Unit)
abbrev A0:List (Ty×Md):=[(.box Hc,.own (.pr .ro (.pr (.own .ro) (.pr .ro .ro))))]
abbrev A1:List (Ty×Md):=[(nn,.ro),(y9,.ro),(eC,.ro)]
abbrev A2:List (Ty×Md):=[(y32,.ro),(y2,.ro),(y2,.ro)]
abbrev A3:List (Ty×Md):=[(y83,.ro),(y2,.ro),(y2,.ro)]
abbrev A4:List (Ty×Md):=[(y9,.ro),(y2,.ro),(y2,.ro)]
abbrev A5:List (Ty×Md):=[(.nl G9,.ro),(y2,.ro)]
abbrev A6:List (Ty×Md):=[(.box o3,.own .ro)]
abbrev A7:List (Ty×Md):=[(y32,.ro),(C2,.ro)]
abbrev A8:List (Ty×Md):=[(y32,.ro),(fm,.ro)]
abbrev A9:List (Ty×Md):=[(nn,.ro),(y4,.ro)]
abbrev A10:List (Ty×Md):=[(nn,.ro),(y2,.ro)]
abbrev A11:List (Ty×Md):=[(y89,.ro),(y2,.ro)]
abbrev A12:List (Ty×Md):=[(y32,.ro),(y2,.ro)]
abbrev A13:List (Ty×Md):=[(y12,.ro),(y4,.ro)]
abbrev A14:List (Ty×Md):=[(y2,.ro),(y2,.ro)]
abbrev A15:List (Ty×Md):=[(ka,.ro)]
abbrev A16:List (Ty×Md):=[(eC,.ro)]
abbrev A17:List (Ty×Md):=[(fm,.ro)]
abbrev A18:List (Ty×Md):=[(y32,.ro)]
abbrev A19:List (Ty×Md):=[(y12,.ro)]
abbrev A20:List (Ty×Md):=[(y4,.ro)]
abbrev A21:List (Ty×Md):=[(y2,.ro)]
abbrev A22:List (Ty×Md):=[(y9,.ro)]
abbrev Wi(a:Int):Int:=IntKind.wrap .i64 a
abbrev Ld{α β:Type}(l:List α)(i:Int)(k:α->Option β):Option β:=if 0<=i then(match l[(i).toNat]? with|some v=>k v|none=>none)else none
abbrev Bd{α:Type}(c:Prop)[Decidable c](x y:α):α:=bif decide c then x else y
abbrev Ap{β:Type}(k n:Nat)(x:Option β):Option β:=if n*k<=140737488355328 then if n<=9223372036854775807 then x else none else none
def mo_:Md:=.own .ro
def sn_(x:Ann):Ann:=.seq .nop x
def bk_(s:Spec)(x:Ann):Ann:=.block none (.loop s x)
def rn_(z:List Nat):Ann:=.reg none z
def cs_(s:Spec)(x y:Ann):Ann:=.cond (some s) x y
def rs_(s:Spec)(z:List Nat):Ann:=.reg (some s) z
def Q0_:Md:=(.pr mo_ mo_)
def Q1_:Md:=(.pr .ro .ro)
def JU:Md:=(.pr .ro (.pr mo_ Q1_))
def Q2_:List (Nat×Ty×Md):=[(6,.box Hc,.own JU),(22,pA,mo_)]
def Q3_:Md:=(.pr .ro (.pr .ro (.pr .ro (.pr mo_ (.pr mo_ (.pr .ro Q0_))))))
def Q4_:List (Nat×Ty×Md):=[(16,.box C3,.own Q0_),(24,.box C3,.own Q0_)]
def Q5_:Md:=(.pr mo_ Q0_)
def He:Md:=(.pr .ro Q1_)
def Q6_:List (Nat×Ty×Md):=[(79,y22,mo_),(152,.box y25,.own (.pr .ro (.pr .ro (.pr .ro He)))),(200,pA,.own Q1_)]
def Q7_:List (Nat×Ty×Md):=[(32,.box y37,.own Q5_),(48,.box y37,.own Q5_),(79,y53,mo_)]
def Q8_:List (Nat×Ty×Md):=[(47,y77,mo_),(64,.box y62,.own Q1_)]
def Q9_:Md:=(.pr .ro (.pr .ro Q5_))
def RM:List (Nat×Ty×Md):=[(16,.box y83,.own (.pr mo_ Q5_)),(72,.box y83,.own (.pr .ro Q5_))]
def wu:List (Nat×Ty×Md):=[(112,eC,mo_)]
def UW:List (Nat×Ty×Md):=[(32,.box y89,.own (.pr .ro Q0_)),(168,.box C5,.own (.pr .ro (.pr .ro (.pr mo_ (.pr mo_ (.pr mo_ (.pr .ro Q0_)))))))]
def NG:List (Nat×Ty×Md):=[(16,.box ka,mo_),(24,.box ka,mo_)]
def C6:List (Nat×Ty×Md):=[(208,pA,.own Q1_)]
def C7:List (Nat×Ty×Md):=[(200,pA,.own Q1_)]
def NH:List (Nat×Ty×Md):=[(6,.box o3,mo_),(40,.box ka,mo_)]
def C8:List (Nat×Ty×Md):=[(48,.box ka,mo_)]
def RN:List (Nat×Ty×Md):=[(16,.box G7,.own He),(64,UA,mo_)]
def RO:List (Nat×Ty×Md):=[(31,fm,mo_),(64,.box C2,.own He)]
def NI:List (Nat×Ty×Md):=[(16,.box G7,.own He)]
def UX:List (Nat×Ty×Md):=[(16,.box y43,.own Q0_),(48,.box y43,.own Q0_),(56,.box wo,.own mo_)]
def Hf:List (Nat×Ty×Md):=[(104,eC,mo_)]
def UY:List (Nat×Ty×Md):=[(32,.box y89,.own (.pr .ro Q0_)),(168,.box C5,.own Q3_)]
def UZ:List (Nat×Ty×Md):=[(16,.box y88,mo_),(24,.box y88,mo_),(72,wo,mo_)]
def JV:List (Nat×Ty×Md):=[(128,y54,mo_)]
def RP:List (Nat×Ty×Md):=[(216,.box C4,.own Q9_)]
def Va:List (Nat×Ty×Md):=[(32,.box y37,.own Q5_),(48,.box y37,.own Q5_)]
end
noncomputable section
def AM(v1:Nat)(v2:(U14×U0×Unit)):T73:=Bd ((v2.1.1.length:Int)<=v2.1.2.1) (some ((true,()),v2.1,())) (aC (λ(v3:((U14×Unit)×Int×Unit))=>λv4=>Bd (v3.2.1<(v2.2.1.length:Int)) (Ld v3.1.1.1 v3.1.1.2.1 λv5=>Ld v2.2.1 v3.2.1 λv6=>Bd (v5=v6) (some ((true,()),v3.1.1,())) (v4 ((v3.1.1,()),Wi (v3.2.1+1),()))) (some ((false,()),v3.1.1,()))) v1 ((v2.1,()),0,()))
def F220(n:Nat):Fb 220:=fb n [] [] [] [] Tryz.func220 Tryz.results220 Tryz.ntmps220 (sn_ (sn_ (.seq (sn_ (bk_ ⟨[(6,.box o3,mo_)],[.val 18 y2],[0,1,17]⟩ .nop)) .nop))) [(.box o3,mo_),(y9,.ro)] A20 [0] A6 (AM n)
def o5(v1:Nat)(v2:(U14×Int×Unit)):T73:=aq (λ(v3:T63)=>bif v3.2.1 then some ((true,()),(v3.1.1.1,Wi (v3.1.1.2.1+1),v3.1.1.2.2),())else some ((false,()),v3.1.1,())) (λv4=>Bd (v2.1.2.1<(v2.1.1.length:Int)) (Ld v2.1.1 v2.1.2.1 λv5=>v4 ((v2.1,()),decide (v5=v2.2.1),())) (v4 ((v2.1,()),false,())))
def F174(n:Nat):Fb 174:=fb n [] [] [] [] Tryz.func174 Tryz.results174 Tryz.ntmps174 (sn_ (.seq (.seq (rs_ ⟨[(6,.box o3,mo_)],[.val 27 y4],[0]⟩ []) .nop) .nop)) [(.box o3,mo_),(y5,.ro)] A20 [0] A6 (o5 n)
def NJ(v1:Nat)(v2:Unit):T35:=if(0:Int)<=(0:Int)then(match([0,0,0,0]:List Int)[(0:Int).toNat]? with|some v3=>if(0:Int)<=(1:Int)then(match(List.set ([0,0,0,0]:List Int) (0:Int).toNat (18446744073709551615:Int))[(1:Int).toNat]? with|some v4=>if(0:Int)<=(2:Int)then(match(List.set (List.set ([0,0,0,0]:List Int) (0:Int).toNat (18446744073709551615:Int)) (1:Int).toNat (18446744073709551615:Int))[(2:Int).toNat]? with|some v5=>if(0:Int)<=(3:Int)then(match(List.set (List.set (List.set ([0,0,0,0]:List Int) (0:Int).toNat (18446744073709551615:Int)) (1:Int).toNat (18446744073709551615:Int)) (2:Int).toNat (18446744073709551615:Int))[(3:Int).toNat]? with|some v6=>some ((List.set (List.set (List.set (List.set ([0,0,0,0]:List Int) (0:Int).toNat (18446744073709551615:Int)) (1:Int).toNat (18446744073709551615:Int)) (2:Int).toNat (18446744073709551615:Int)) (3:Int).toNat (18446744073709551615:Int),()),())|none=>none)else none|none=>none)else none|none=>none)else none|none=>none)else none
def F248(n:Nat):Fb 248:=fb n [] [] [] [] Tryz.func248 Tryz.results248 Tryz.ntmps248 (sn_ (.seq (rn_ [0]) .nop)) [] A15 [] [] (NJ n)
def C9(v1:Nat)(v2:T1):T15:=aq (λ(v3:T5)=>bif v3.2.1 then some ((Wi (IntKind.wrap .u8 (v2.1-48)),()),())else aq (λ(v4:T5)=>bif v4.2.1 then some ((Wi ((Wi (IntKind.wrap .u8 (v2.1-97)))+10),()),())else some ((-1,()),())) (λv5=>Bd (97<=v2.1) (v5 ((),decide (v2.1<=102),())) (v5 ((),false,())))) (λv6=>Bd (48<=v2.1) (v6 ((),decide (v2.1<=57),())) (v6 ((),false,())))
def F262(n:Nat):Fb 262:=fb n [] [] [] [] Tryz.func262 Tryz.results262 Tryz.ntmps262 (sn_ (.seq (.block none (.seq (rs_ ⟨[],[.val 3 y4],[0]⟩ []) (.cond none .nop (.seq (rs_ ⟨[],[.val 13 y4],[0]⟩ []) .nop)))) .nop)) [(y5,.ro)] A21 [] [] (C9 n)
def NK(v1:Nat)(v2:T6):T44:=Bd (v2.1=([]:List Int)) (some ((0,0,false,()),())) (if(0:Int)<=(0:Int)then(match v2.1[(0:Int).toNat]? with|some v3=>bif !(decide (v3=92))then if(0:Int)<=(0:Int)then(match v2.1[(0:Int).toNat]? with|some v4=>some ((v4,1,true,()),())|none=>none)else none else Bd ((v2.1.length:Int)<2) (some ((0,0,false,()),())) (if(0:Int)<=(1:Int)then(match v2.1[(1:Int).toNat]? with|some v5=>aq (λ(v6:T2)=>some ((0,0,false,()),())) (λv7=>Bd (v5=110) (some ((10,2,true,()),())) (Bd (v5=116) (some ((9,2,true,()),())) (Bd (v5=114) (some ((13,2,true,()),())) (Bd (v5=120) (aq (λ(v8:T5)=>bif v8.2.1 then if(0:Int)<=(2:Int)then(match v2.1[(2:Int).toNat]? with|some v9=>ah (C9 v1 (v9,())) (λ(v10:T7)=>if(4:Int)<0 then none else if(0:Int)<=(3:Int)then(match v2.1[(3:Int).toNat]? with|some v11=>ah (C9 v1 (v11,())) (λ(v12:T7)=>some ((IntKind.wrap .u8 (dL .or .i64 (Wi (v10.1.1*2 ^ (Nat.min (Int.toNat (4:Int)) (IntKind.bits .i64)))) v12.1.1),4,true,()),()))|none=>none)else none)|none=>none)else none else v7 ((),())) (λv13=>Bd (4<=(v2.1.length:Int)) (if(0:Int)<=(2:Int)then(match v2.1[(2:Int).toNat]? with|some v14=>ah (C9 v1 (v14,())) (λ(v15:T7)=>Bd (0<=v15.1.1) (if(0:Int)<=(3:Int)then(match v2.1[(3:Int).toNat]? with|some v16=>ah (C9 v1 (v16,())) (λ(v17:T7)=>v13 ((),decide (0<=v17.1.1),()))|none=>none)else none) (v13 ((),false,())))|none=>none)else none) (v13 ((),false,())))) (Bd (v5=0) (v7 ((),())) (aq (λ(v18:T5)=>bif v18.2.1 then some ((0,0,false,()),())else some ((v5,2,true,()),())) (λv19=>Bd (48<=v5) (Bd (v5<=57) (v19 ((),true,())) (Bd (97<=v5) (Bd (v5<=122) (v19 ((),true,())) (Bd (65<=v5) (Bd (v5<=90) (v19 ((),true,())) (Bd (v5<32) (v19 ((),true,())) (v19 ((),decide (126<v5),())))) (Bd (v5<32) (v19 ((),true,())) (v19 ((),decide (126<v5),()))))) (Bd (65<=v5) (Bd (v5<=90) (v19 ((),true,())) (Bd (v5<32) (v19 ((),true,())) (v19 ((),decide (126<v5),())))) (Bd (v5<32) (v19 ((),true,())) (v19 ((),decide (126<v5),())))))) (Bd (97<=v5) (Bd (v5<=122) (v19 ((),true,())) (Bd (65<=v5) (Bd (v5<=90) (v19 ((),true,())) (Bd (v5<32) (v19 ((),true,())) (v19 ((),decide (126<v5),())))) (Bd (v5<32) (v19 ((),true,())) (v19 ((),decide (126<v5),()))))) (Bd (65<=v5) (Bd (v5<=90) (v19 ((),true,())) (Bd (v5<32) (v19 ((),true,())) (v19 ((),decide (126<v5),())))) (Bd (v5<32) (v19 ((),true,())) (v19 ((),decide (126<v5),()))))))))))))|none=>none)else none)|none=>none)else none)
def F256(n:Nat):Fb 256:=fb n [⟨_,F262 n⟩] [] [] [] Tryz.func256 Tryz.results256 Tryz.ntmps256 (sn_ (sn_ (sn_ (.seq (sn_ (.block none (.seq (.block (some ⟨[],[],[]⟩) (sn_ (.seq (rs_ ⟨[],[.val 46 y4],[0]⟩ []) .nop))) .nop))) (.seq (.seq (rs_ ⟨[],[.val 85 y4],[5]⟩ []) .nop) .nop))))) A22 [(y5,.ro),(y2,.ro),(y4,.ro)] [] [] (NK n)
def Hg(v1:Nat)(v2:T23):Option (U27×U14×Unit):=if 0<=v2.1.2.1/\v2.1.2.1<=(v2.1.1.length:Int)/\(v2.1.1.length:Int)<=(v2.1.1.length:Int)then ah (NK v1 (cn v2.1.1 v2.1.2.1 (v2.1.1.length:Int),())) (λ(v3:T22)=>some ((v3.1.1,v3.1.2.2.1,()),(v2.1.1,Wi (v2.1.2.1+v3.1.2.1),v2.1.2.2),()))else none
def F250(n:Nat):Fb 250:=fb n [⟨_,F256 n⟩] [] [] [] Tryz.func250 Tryz.results250 Tryz.ntmps250 (.nop) A6 [(y5,.ro),(y4,.ro)] [0] A6 (Hg n)
def JW(v1:Nat)(v2:T3):T35:=aC (λ(v3:T61)=>λv4=>Bd (v3.2.1<=(Wi v2.2.1)) (if(64:Int)=0 then none else if 0<=(Wi (Int.tdiv v3.2.1 64))then(match v3.1.2.1[(Wi (Int.tdiv v3.2.1 64)).toNat]? with|some v5=>if(64:Int)=0 then none else if(IntKind.wrap .u64 (Int.tmod v3.2.1 64))<0 then none else if 0<=(Wi (Int.tdiv v3.2.1 64))then(match v3.1.2.1[(Wi (Int.tdiv v3.2.1 64)).toNat]? with|some v6=>if 0<=(Wi (Int.tdiv v3.2.1 64))then(match v3.1.2.1[(Wi (Int.tdiv v3.2.1 64)).toNat]? with|some v7=>v4 ((v3.1.1,List.set v3.1.2.1 (Wi (Int.tdiv v3.2.1 64)).toNat (dL .or .u64 v5 (IntKind.wrap .u64 ((1:Int)*2 ^ (Nat.min (Int.toNat (IntKind.wrap .u64 (Int.tmod v3.2.1 64))) (IntKind.bits .u64))))),()),Wi (v3.2.1+1),())|none=>none)else none|none=>none)else none|none=>none)else none) (some ((v3.1.2.1,()),()))) v1 ((([0,0,0,0]:List Int),([0,0,0,0]:List Int),()),Wi v2.1,())
def F254(n:Nat):Fb 254:=fb n [] [] [] [] Tryz.func254 Tryz.results254 Tryz.ntmps254 (sn_ (sn_ (.seq (sn_ (bk_ ⟨[(32,.box ka,mo_),(40,.box ka,mo_)],[.val 6 y2],[1,4,5]⟩ .nop)) (.seq (.rgf none [5] [4]) .nop)))) [(y5,.ro),(y5,.ro)] A15 [] [] (JW n)
def JX(v1:Nat)(v2:T24):T35:=aC (λ(v3:T61)=>λv4=>Bd (v3.2.1<4) (Ld v3.1.1 v3.2.1 λv5=>Ld v2.2.1 v3.2.1 λv6=>Ld v3.1.1 v3.2.1 λv7=>Ld v3.1.1 v3.2.1 λv8=>v4 ((List.set v3.1.1 (v3.2.1).toNat (dL .or .u64 v5 v6),v3.1.2.1,()),Wi (v3.2.1+1),())) (some ((v3.1.1,()),()))) v1 ((v2.1,([0,0,0,0]:List Int),()),0,())
def F253(n:Nat):Fb 253:=fb n [] [] [] [] Tryz.func253 Tryz.results253 Tryz.ntmps253 (.seq (rn_ [3]) (.seq (sn_ (bk_ ⟨[(16,.box ka,mo_),(32,.box ka,mo_)],[.val 6 y2],[2,3,4]⟩ .nop)) (.seq (.rgf none [2] [4]) .nop))) [(ka,.ro),(ka,.ro)] A15 [] [] (JX n)
def NL(v1:Nat)(v2:T24):T35:=aC (λ(v3:T61)=>λv4=>Bd (v3.2.1<4) (Ld v3.1.1 v3.2.1 λv5=>Ld v2.2.1 v3.2.1 λv6=>Ld v3.1.1 v3.2.1 λv7=>Ld v3.1.1 v3.2.1 λv8=>v4 ((List.set v3.1.1 (v3.2.1).toNat (dL .andNot .u64 v5 v6),v3.1.2.1,()),Wi (v3.2.1+1),())) (some ((v3.1.1,()),()))) v1 ((v2.1,([0,0,0,0]:List Int),()),0,())
def F261(n:Nat):Fb 261:=fb n [] [] [] [] Tryz.func261 Tryz.results261 Tryz.ntmps261 (.seq (rn_ [3]) (.seq (sn_ (bk_ ⟨[(16,.box ka,mo_),(32,.box ka,mo_)],[.val 6 y2],[2,3,4]⟩ .nop)) (.seq (.rgf none [2] [4]) .nop))) [(ka,.ro),(ka,.ro)] A15 [] [] (NL n)
def NM(v1:Nat)(v2:T6):T35:=ah (NJ v1 ()) (λ(v3:T16)=>ah (NL v1 (v3.1.1,v2.1,())) (λ(v4:T16)=>some ((v4.1.1,()),())))
def F255(n:Nat):Fb 255:=fb n [⟨_,F248 n⟩,⟨_,F261 n⟩] [] [] [] Tryz.func255 Tryz.results255 Tryz.ntmps255 (.seq (rn_ [1]) (.seq (rn_ [2]) .nop)) A15 A15 [] [] (NM n)
theorem Qi:xZ Tryz.prog 213:=⟨by kernel_rfl,by kernel_rfl,by kernel_rfl⟩
def tq(v1:Nat)(v2:T6):T17:=some ((decide (v2.1=([0,0,0,0]:List Int)),()),())
def F177(n:Nat):Fb 177:=fb n [] [] [] [⟨_,Qi⟩] Tryz.func177 Tryz.results177 Tryz.ntmps177 (.seq (rn_ [1]) .nop) A15 A20 [] [] (tq n)
def NN(v1:Nat)(v2:T23):T94:=ah (o5 v1 (v2.1,94,())) (λ(v3:T64)=>aC (λ(v4:T72)=>λv5=>ah (AM v1 (v4.1.1,([93]:List Int),())) (λ(v6:T64)=>bif !v6.1.1 then ah (AM v1 (v6.2.1,([94,45,47,34]:List Int),())) (λ(v7:T64)=>bif v7.1.1 then some ((([]:List U7),false,()),v7.2.1,())else ah (Hg v1 (v7.2.1,())) (λ(v8:T71)=>bif !v8.1.2.1 then some ((([]:List U7),false,()),v8.2.1,())else ah (o5 v1 (v8.2.1,45,())) (λ(v9:T64)=>aq (λ(v10:((U14×U0×Unit)×Int×Unit))=>ah (JW v1 (v8.1.1,v10.2.1,())) (λ(v11:T16)=>ah (JX v1 (v10.1.2.1,v11.1.1,())) (λ(v12:T16)=>v5 ((v10.1.1,v12.1.1,()),())))) (λv13=>bif v9.1.1 then ah (AM v1 (v9.2.1,([93,94,45,47,34]:List Int),())) (λ(v14:T64)=>bif v14.1.1 then some ((([]:List U7),false,()),v14.2.1,())else ah (Hg v1 (v14.2.1,())) (λ(v15:T71)=>aq (λ(v16:((U14×U0×Unit)×Bool×Unit))=>bif v16.2.1 then some ((([]:List U7),false,()),v16.1.1,())else v13 ((v16.1.1,v16.1.2.1,()),v15.1.1,())) (λv17=>bif !v15.1.2.1 then v17 ((v15.2.1,v4.1.2.1,()),true,())else v17 ((v15.2.1,v4.1.2.1,()),decide (v15.1.1<v8.1.1),()))))else v13 ((v9.2.1,v4.1.2.1,()),v8.1.1,())))))else aq (λ(v18:T72)=>aq (λ(v19:T87)=>some ((v19.2.1,v19.2.2.1,()),v19.1.1,())) (λv20=>ah (o5 v1 (v18.1.1,93,())) (λ(v21:T64)=>bif v21.1.1 then ah (tq v1 (v18.1.2.1,())) (λ(v22:T9)=>v20 ((v21.2.1,()),([(1,v18.1.2.1)]:List U7),!v22.1.1,()))else v20 ((v21.2.1,()),([(1,v18.1.2.1)]:List U7),false,())))) (λv23=>bif v3.1.1 then ah (NM v1 (v4.1.2.1,())) (λ(v24:T16)=>v23 ((v6.2.1,v24.1.1,()),()))else v23 ((v6.2.1,v4.1.2.1,()),())))) v1 ((v3.2.1,([0,0,0,0]:List Int),()),()))
def F249(n:Nat):Fb 249:=fb n [⟨_,F174 n⟩,⟨_,F220 n⟩,⟨_,F250 n⟩,⟨_,F254 n⟩,⟨_,F253 n⟩,⟨_,F255 n⟩,⟨_,F177 n⟩] [] [] [] Tryz.func249 Tryz.results249 Tryz.ntmps249 (sn_ (sn_ (sn_ (.seq (bk_ ⟨NH,[],[0,4,5]⟩ (sn_ (.block none (sn_ (sn_ (sn_ (sn_ (.seq (sn_ (cs_ ⟨NH,[.val 8 y5],[0,4,5,6]⟩ (sn_ (sn_ (.seq (rs_ ⟨NH,[.val 39 y4],[0,4,5,6,8]⟩ []) .nop))) .nop)) .nop)))))))) (.seq (sn_ (cs_ ⟨NH,[],[0,5]⟩ .nop .nop)) (.seq (.rgf (some ⟨[(6,.box o3,mo_)],[.hdr 2 23 nn mo_,.val 3 y4],[0]⟩) [5] []) .nop)))))) A6 A9 [0] A6 (NN n)
def NO(v1:Nat)(v2:T6):T35:=aC (λ(v3:T61)=>λv4=>Bd (v3.2.1<(v2.1.length:Int)) (Ld v2.1 v3.2.1 λv5=>if(64:Int)=0 then none else if 0<=(IntKind.wrap .u8 (Int.tdiv v5 64))then(match v3.1.2.1[(IntKind.wrap .u8 (Int.tdiv v5 64)).toNat]? with|some v6=>if(64:Int)=0 then none else if(Int.tmod v5 64)<0 then none else if 0<=(IntKind.wrap .u8 (Int.tdiv v5 64))then(match v3.1.2.1[(IntKind.wrap .u8 (Int.tdiv v5 64)).toNat]? with|some v7=>if 0<=(IntKind.wrap .u8 (Int.tdiv v5 64))then(match v3.1.2.1[(IntKind.wrap .u8 (Int.tdiv v5 64)).toNat]? with|some v8=>v4 ((v3.1.1,List.set v3.1.2.1 (IntKind.wrap .u8 (Int.tdiv v5 64)).toNat (dL .or .u64 v6 (IntKind.wrap .u64 ((1:Int)*2 ^ (Nat.min (Int.toNat (Int.tmod v5 64)) (IntKind.bits .u64))))),()),Wi (v3.2.1+1),())|none=>none)else none|none=>none)else none|none=>none)else none) (some ((v3.1.2.1,()),()))) v1 ((([0,0,0,0]:List Int),([0,0,0,0]:List Int),()),0,())
def F251(n:Nat):Fb 251:=fb n [] [] [] [] Tryz.func251 Tryz.results251 Tryz.ntmps251 (sn_ (sn_ (.seq (sn_ (bk_ ⟨NG,[.val 8 y2],[2,3,6,7]⟩ .nop)) (.seq (.rgf none [3] [2]) .nop)))) [(wq,.ro)] A15 [] [] (NO n)
def AN(v1:Nat)(v2:T1):T15:=aq (λ(v3:T5)=>bif v3.2.1 then some ((0,()),())else aq (λ(v4:T5)=>bif v4.2.1 then some ((1,()),())else aq (λ(v5:T5)=>bif v5.2.1 then some ((2,()),())else some ((-1,()),())) (λv6=>Bd (v2.1=2) (v6 ((),decide (v2.1=2),())) (v6 ((),decide (v2.1=3),())))) (λv7=>Bd (v2.1=4) (v7 ((),decide (v2.1=4),())) (aq (λ(v8:T5)=>v7 ((),v8.2.1,())) (λv9=>Bd (v2.1=5) (v9 ((),decide (v2.1=5),())) (v9 ((),decide (v2.1=6),())))))) (λv10=>Bd (v2.1=0) (v10 ((),decide (v2.1=0),())) (v10 ((),decide (v2.1=1),())))
def F176(n:Nat):Fb 176:=fb n [] [] [] [] Tryz.func176 Tryz.results176 Tryz.ntmps176 (sn_ (.seq (sn_ (.block none (.seq (sn_ (cs_ ⟨[],[.val 4 y4],[3]⟩ .nop .nop)) (.cond none .nop (.seq (sn_ (cs_ ⟨[],[.val 7 y4],[3]⟩ .nop (sn_ (cs_ ⟨[],[.val 7 y4],[3]⟩ .nop .nop)))) (.cond none .nop (.seq (sn_ (cs_ ⟨[],[.val 11 y4],[]⟩ .nop .nop)) .nop))))))) .nop)) A21 A21 [] [] (AN n)
def uO(v1:Nat)(v2:(Int×(List U15)×Unit)):Option ((U15×Unit)×Unit):=aq (λ(v3:T5)=>bif v3.2.1 then some ((([]:List U7),()),())else aC (λ(v4:(Unit×U15×Int×Unit))=>λv5=>Bd (v4.2.2.1<(v2.2.1.length:Int)) (Ld v2.2.1 v4.2.2.1 λv6=>Ap 40 (List.length v4.2.1+List.length v6) (v5 ((),v4.2.1++v6,Wi (v4.2.2.1+1),()))) (Ap 40 (List.length v4.2.1+List.length ([(v2.1,([0,0,0,0]:List Int))]:List U7)) (some ((v4.2.1++([(v2.1,([0,0,0,0]:List Int))]:List U7),()),())))) v1 ((),([]:List U7),0,())) (λv7=>ah (AN v1 (v2.1,())) (λ(v8:T7)=>bif !(decide (v8.1.1=(v2.2.1.length:Int)))then v7 ((),true,())else v7 ((),decide ((v2.2.1.length:Int)=0),())))
def F175(n:Nat):Fb 175:=fb n [⟨_,F176 n⟩] [] [] [] Tryz.func175 Tryz.results175 Tryz.ntmps175 (sn_ (.seq (.seq (rs_ ⟨[],[.val 17 y4],[0,1]⟩ []) .nop) (sn_ (.seq (sn_ (bk_ ⟨[],[.hdr 5 47 nn mo_,.val 20 y2],[0,18,19]⟩ .nop)) .nop)))) [(y2,.ro),(NC,.ro)] [(nn,.ro)] [] [] (uO n)
abbrev Hh:=Qt A6 A9 A6
abbrev RQ(q:Hh):Callee:=⟨_,_,[0],_,q⟩
theorem JY:Plain Tryz.prog 110:=pl Tryz.func110
abbrev Hi:=Qt A6 A9 A6
abbrev Vb(q:Hi):Callee:=⟨_,_,[0],_,q⟩
theorem NP:Plain Tryz.prog 173:=pl Tryz.func173
abbrev Hj:=Qt A6 A9 A6
abbrev Vc(q:Hj):Callee:=⟨_,_,[0],_,q⟩
theorem NQ:Plain Tryz.prog 219:=pl Tryz.func219
abbrev Hk:=Qt A6 A9 A6
abbrev Vd(q:Hk):Callee:=⟨_,_,[0],_,q⟩
theorem NR:Plain Tryz.prog 241:=pl Tryz.func241
abbrev JZ(nq:Hh)(nr:Hi)(nu:Hj)(nv:Hk):=fL Tryz.prog 110 (RQ nq)/\fL Tryz.prog 173 (Vb nr)/\fL Tryz.prog 219 (Vc nu)/\fL Tryz.prog 241 (Vd nv)
def AO(v1:Nat)(v2 v3 v4 v5:NE)(v6:T23):T94:=ah (v3 (v6.1,())) (λ(v7:T88)=>aC (λ(v8:T87)=>λv9=>aq (λ(v10:T63)=>bif v10.2.1 then ah (v3 (v10.1.1,())) (λ(v11:T88)=>ah (uO v1 (3,([v8.2.1,v11.1.1]:List U15),())) (λ(v12:T56)=>v9 ((v11.2.1,()),v12.1.1,v11.1.2.1,())))else some ((v8.2.1,v8.2.2.1,()),v10.1.1,())) (λv13=>bif v8.2.2.1 then ah (o5 v1 (v8.1.1,124,())) (λ(v14:T64)=>v13 ((v14.2.1,()),v14.1.1,()))else v13 ((v8.1.1,()),false,()))) v1 ((v7.2.1,()),v7.1.1,v7.1.2.1,()))
theorem X6(n:Nat)(nq:Hh)(nr:Hi)(nu:Hj)(nv:Hk)(h:JZ nq nr nu nv):fL Tryz.prog 110 (RQ (AO n nq nr nu nv)):=(fb n [⟨_,F174 n⟩,⟨_,F175 n⟩,⟨_,⟨_,h.1,JY⟩⟩,⟨_,⟨_,h.2.1,NP⟩⟩,⟨_,⟨_,h.2.2.1,NQ⟩⟩,⟨_,⟨_,h.2.2.2,NR⟩⟩] [9,19] [] [] Tryz.func110 Tryz.results110 Tryz.ntmps110 (.seq .nop (.seq .nop (.seq (.block none (.loop ⟨[(6,.box o3,.own .ro)],[.val 4 nn,.val 5 y4],[0]⟩ (.seq (.seq (.reg (some ⟨[(6,.box o3,.own .ro)],[.val 16 y4],[0,4,5]⟩) []) .nop) .nop))) .nop))) A6 A9 [0] A6 (AO n nq nr nu nv)).o
def AP(v1:Nat)(v2 v3 v4 v5:NE)(v6:T23):T94:=ah (v4 (v6.1,())) (λ(v7:T88)=>aC (λ(v8:T87)=>λv9=>aq (λ(v10:T63)=>bif v10.2.1 then ah (v4 (v10.1.1,())) (λ(v11:T88)=>ah (uO v1 (2,([v8.2.1,v11.1.1]:List U15),())) (λ(v12:T56)=>v9 ((v11.2.1,()),v12.1.1,v11.1.2.1,())))else some ((v8.2.1,v8.2.2.1,()),v10.1.1,())) (λv13=>bif v8.2.2.1 then ah (AM v1 (v8.1.1,([124,41]:List Int),())) (λ(v14:T64)=>v13 ((v14.2.1,()),!v14.1.1,()))else v13 ((v8.1.1,()),false,()))) v1 ((v7.2.1,()),v7.1.1,v7.1.2.1,()))
theorem X7(n:Nat)(nq:Hh)(nr:Hi)(nu:Hj)(nv:Hk)(h:JZ nq nr nu nv):fL Tryz.prog 173 (Vb (AP n nq nr nu nv)):=(fb n [⟨_,F220 n⟩,⟨_,F175 n⟩,⟨_,⟨_,h.1,JY⟩⟩,⟨_,⟨_,h.2.1,NP⟩⟩,⟨_,⟨_,h.2.2.1,NQ⟩⟩,⟨_,⟨_,h.2.2.2,NR⟩⟩] [9,20] [] [] Tryz.func173 Tryz.results173 Tryz.ntmps173 (.seq .nop (.seq .nop (.seq (.block none (.loop ⟨[(6,.box o3,.own .ro)],[.val 4 nn,.val 5 y4],[0]⟩ (.seq (.seq (.reg (some ⟨[(6,.box o3,.own .ro)],[.val 17 y4],[0,4,5]⟩) []) .nop) .nop))) .nop))) A6 A9 [0] A6 (AP n nq nr nu nv)).o
def AQ(v1:Nat)(v2 v3 v4 v5:NE)(v6:T23):T94:=ah (v5 (v6.1,())) (λ(v7:T88)=>aC (λ(v8:T82)=>λv9=>bif v7.1.2.1 then ah (o5 v1 (v8.1.1,42,())) (λ(v10:T64)=>aq (λ(v11:T82)=>v9 ((v11.1.1,()),v11.2.1,())) (λv12=>bif v10.1.1 then ah (uO v1 (4,([v8.2.1]:List U15),())) (λ(v13:T56)=>v12 ((v10.2.1,()),v13.1.1,()))else ah (o5 v1 (v10.2.1,43,())) (λ(v14:T64)=>aq (λ(v15:T82)=>v12 ((v15.1.1,()),v15.2.1,())) (λv16=>bif v14.1.1 then ah (uO v1 (5,([v8.2.1]:List U15),())) (λ(v17:T56)=>v16 ((v14.2.1,()),v17.1.1,()))else ah (o5 v1 (v14.2.1,63,())) (λ(v18:T64)=>bif v18.1.1 then ah (uO v1 (6,([v8.2.1]:List U15),())) (λ(v19:T56)=>v16 ((v18.2.1,()),v19.1.1,()))else some ((v8.2.1,true,()),v18.2.1,()))))))else some ((([]:List U7),false,()),v8.1.1,())) v1 ((v7.2.1,()),v7.1.1,()))
theorem X8(n:Nat)(nq:Hh)(nr:Hi)(nu:Hj)(nv:Hk)(h:JZ nq nr nu nv):fL Tryz.prog 219 (Vc (AQ n nq nr nu nv)):=(fb n [⟨_,F174 n⟩,⟨_,F175 n⟩,⟨_,⟨_,h.1,JY⟩⟩,⟨_,⟨_,h.2.1,NP⟩⟩,⟨_,⟨_,h.2.2.1,NQ⟩⟩,⟨_,⟨_,h.2.2.2,NR⟩⟩] [8] [] [] Tryz.func219 Tryz.results219 Tryz.ntmps219 (.seq .nop (.seq .nop (.seq (.block none (.loop ⟨[(6,.box o3,.own .ro)],[.val 4 nn],[0,5]⟩ (.seq .nop (.block none (.block none (.seq .nop (.cond (some ⟨[(6,.box o3,.own .ro)],[.val 4 nn],[0,5]⟩) .nop (.seq .nop (.cond (some ⟨[(6,.box o3,.own .ro)],[.val 4 nn],[0,5]⟩) .nop .nop))))))))) .nop))) A6 A9 [0] A6 (AQ n nq nr nu nv)).o
def AR(v1:Nat)(v2 v3 v4 v5:NE)(v6:T23):T94:=ah (AM v1 (v6.1,([124,41,42,43,63,93,47,34]:List Int),())) (λ(v7:T64)=>bif v7.1.1 then some ((([]:List U7),false,()),v7.2.1,())else ah (o5 v1 (v7.2.1,46,())) (λ(v8:T64)=>bif v8.1.1 then ah (NJ v1 ()) (λ(v9:T16)=>some ((([(1,v9.1.1)]:List U7),true,()),v8.2.1,()))else ah (o5 v1 (v8.2.1,126,())) (λ(v10:T64)=>bif v10.1.1 then some ((([(0,([0,0,0,0]:List Int))]:List U7),true,()),v10.2.1,())else ah (o5 v1 (v10.2.1,40,())) (λ(v11:T64)=>bif v11.1.1 then ah (v2 ((v11.2.1.1,v11.2.1.2.1,IntKind.wrap .i64 (v11.2.1.2.2+1)),())) (λ(v12:T88)=>aq (λ(v13:T87)=>some ((v13.2.1,v13.2.2.1,()),v13.1.1,())) (λv14=>bif v12.1.2.1 then bif decide ((IntKind.wrap .i64 (v12.2.1.2.2-1))<99)then ah (o5 v1 ((v12.2.1.1,v12.2.1.2.1,IntKind.wrap .i64 (v12.2.1.2.2-1)),41,())) (λ(v15:T64)=>v14 ((v15.2.1,()),v12.1.1,v15.1.1,()))else v14 (((v12.2.1.1,v12.2.1.2.1,IntKind.wrap .i64 (v12.2.1.2.2-1)),()),v12.1.1,false,())else v14 (((v12.2.1.1,v12.2.1.2.1,IntKind.wrap .i64 (v12.2.1.2.2-1)),()),v12.1.1,false,())))else ah (o5 v1 (v11.2.1,91,())) (λ(v16:T64)=>bif v16.1.1 then ah (NN v1 (v16.2.1,())) (λ(v17:T88)=>some ((v17.1.1,v17.1.2.1,()),v17.2.1,()))else ah (Hg v1 (v16.2.1,())) (λ(v18:T71)=>ah (NO v1 (([v18.1.1]:List Int),())) (λ(v19:T16)=>some ((([(1,v19.1.1)]:List U7),v18.1.2.1,()),v18.2.1,()))))))))
theorem X9(n:Nat)(nq:Hh)(nr:Hi)(nu:Hj)(nv:Hk)(h:JZ nq nr nu nv):fL Tryz.prog 241 (Vd (AR n nq nr nu nv)):=(fb n [⟨_,F220 n⟩,⟨_,F174 n⟩,⟨_,F248 n⟩,⟨_,F249 n⟩,⟨_,F250 n⟩,⟨_,F251 n⟩,⟨_,⟨_,h.1,JY⟩⟩,⟨_,⟨_,h.2.1,NP⟩⟩,⟨_,⟨_,h.2.2.1,NQ⟩⟩,⟨_,⟨_,h.2.2.2,NR⟩⟩] [34,61] [] [] Tryz.func241 Tryz.results241 Tryz.ntmps241 (.seq .nop (.seq (.block none (.seq .nop (.cond none .nop (.seq .nop (.cond none .nop (.seq .nop (.cond none .nop (.seq .nop (.cond none (.seq .nop (.seq .nop (.seq .nop (.seq (.reg (some ⟨[(6,.box o3,.own .ro)],[.val 2 nn,.val 3 y4],[0]⟩) []) .nop)))) .nop))))))))) .nop)) A6 A9 [0] A6 (AR n nq nr nu nv)).o
def cT(n:Nat):Nat->(T23->T94)×(T23->T94)×(T23->T94)×(T23->T94)
 |0=>(λ_=>none,λ_=>none,λ_=>none,λ_=>none)
 |d+1=>(λx=>AO n (cT n d).1 (cT n d).2.1 (cT n d).2.2.1 (cT n d).2.2.2 x,λx=>AP n (cT n d).1 (cT n d).2.1 (cT n d).2.2.1 (cT n d).2.2.2 x,λx=>AQ n (cT n d).1 (cT n d).2.1 (cT n d).2.2.1 (cT n d).2.2.2 x,λx=>AR n (cT n d).1 (cT n d).2.1 (cT n d).2.2.1 (cT n d).2.2.2 x)
theorem J0(n:Nat):∀ d,JZ (cT n d).1 (cT n d).2.1 (cT n d).2.2.1 (cT n d).2.2.2
 |0=>⟨(λx r h=>by cases h),(λx r h=>by cases h),(λx r h=>by cases h),(λx r h=>by cases h)⟩
 |d+1=>⟨X6 n _ _ _ _ (J0 n d),X7 n _ _ _ _ (J0 n d),X8 n _ _ _ _ (J0 n d),X9 n _ _ _ _ (J0 n d)⟩
def RR(n:Nat)(x:T23):T94:=(cT n n).1 x
def F110(n:Nat):Fb 110:=⟨RQ (RR n),(J0 n n).1,JY⟩
def p60(v1:Nat)(v2:T6):T75:=Bd (1600<(v2.1.length:Int)) (some ((([]:List U7),6,()),())) (ah (RR v1 ((v2.1,0,0),())) (λ(v3:T88)=>aq (λ(v4:T5)=>bif v4.2.1 then some ((([]:List U7),5,()),())else Bd (400<(v3.1.1.length:Int)) (some ((([]:List U7),6,()),())) (some ((v3.1.1,0,()),()))) (λv5=>bif !v3.1.2.1 then v5 ((),true,())else v5 ((),decide (v3.2.1.2.1<(v2.1.length:Int)),()))))
def F60(n:Nat):Fb 60:=fb n [⟨_,F110 n⟩] [15] [] [] Tryz.func60 Tryz.results60 Tryz.ntmps60 (sn_ (sn_ (sn_ (sn_ (.seq (.block none (.seq (rs_ ⟨[],[.val 18 y4],[5]⟩ []) .nop)) .nop))))) A22 A10 [] [] (p60 n)
end
noncomputable section
def NS(v1:Nat)(v2:T30):T15:=bif decide (400<(v2.1.length:Int))then some ((6,()),())else aC (λ(v3:T10)=>λv4=>bif decide (v3.2.2.1<(v2.1.length:Int))then if 0<=v3.2.2.1 then(match v2.1[(v3.2.2.1).toNat]? with|some v5=>ah (AN v1 (v5.1,())) (λ(v6:T7)=>aq (λ(v7:T5)=>bif v7.2.1 then some ((5,()),())else v4 ((),IntKind.wrap .i64 (v3.2.1+(IntKind.wrap .i64 (1-v6.1.1))),IntKind.wrap .i64 (v3.2.2.1+1),())) (λv8=>bif decide (v6.1.1<0)then v8 ((),true,())else bif decide (v3.2.1<v6.1.1)then v8 ((),true,())else ah (tq v1 (v5.2,())) (λ(v9:T9)=>v8 ((),(decide (v5.1=1)) == v9.1.1,()))))|none=>none)else none else bif !(decide (v3.2.1=1))then some ((5,()),())else some ((0,()),())) v1 ((),0,0,())
def F111(n:Nat):Fb 111:=fb n [⟨_,F176 n⟩,⟨_,F177 n⟩] [] [] [] Tryz.func111 Tryz.results111 Tryz.ntmps111 (sn_ (sn_ (sn_ (.seq (sn_ (bk_ ⟨[],[.val 3 y2,.val 12 y2],[10,11]⟩ (sn_ (sn_ (.seq (.block none (.seq (rn_ [5]) (sn_ (.seq (.seq (rs_ ⟨[],[.val 34 y4],[3,6,10,11,12]⟩ []) .nop) .nop)))) .nop))))) .nop)))) [(nn,.ro)] A21 [] [] (NS n)
def J1(v1:Nat)(v2:T80):Option (U25×U3×Unit):=some ((Wi ((Wi (v2.1.1+1))-1),()),(Wi (v2.1.1+1),v2.1.2),())
def F221(n:Nat):Fb 221:=fb n [] [] [] [] Tryz.func221 Tryz.results221 Tryz.ntmps221 (.nop) A0 A21 [0] A0 (J1 n)
def NT(v1:Nat)(v2:T80):Option ((U24×Unit)×U3×Unit):=ah (J1 v1 (v2.1,())) (λ(v3:T90)=>ah (J1 v1 (v3.2.1,())) (λ(v4:T90)=>some (((v3.1.1,v4.1.1),()),v4.2.1,())))
def F178(n:Nat):Fb 178:=fb n [⟨_,F221 n⟩] [] [] [] Tryz.func178 Tryz.results178 Tryz.ntmps178 (sn_ (sn_ (.seq (rn_ [2]) .nop))) A0 [(y57,.ro)] [0] A0 (NT n)
def rS(v1:Nat)(v2:(U3×Int×Int×Unit)):Option (Unit×U3×Unit):=Ap 56 (List.length v2.1.2.1+List.length ([(v2.2.1,v2.2.2.1,([0,0,0,0]:List Int),true)]:List U20)) (some ((),(v2.1.1,v2.1.2.1++([(v2.2.1,v2.2.2.1,([0,0,0,0]:List Int),true)]:List U20),v2.1.2.2),()))
def F179(n:Nat):Fb 179:=fb n [] [] [] [] Tryz.func179 Tryz.results179 Tryz.ntmps179 (.nop) [(.box Hc,.own JU),(y2,.ro),(y2,.ro)] [] [0] A0 (rS n)
def qh(v1:Nat)(v2:(U3×U7×U8×Unit)):Option (U34×U3×Unit):=ah (NT v1 (v2.1,())) (λ(v3:((U24×Unit)×U3×Unit))=>aq (λ(v4:Hd)=>ah (AN v1 (v2.2.1.1,())) (λ(v5:T7)=>if(0:Int)<=(0:Int)/\(0:Int)<=(Wi ((v2.2.2.1.length:Int)-v5.1.1))/\(Wi ((v2.2.2.1.length:Int)-v5.1.1))<=(v4.1.2.1.length:Int)then Ap 16 (List.length (cn v4.1.2.1 (0:Int) (Wi ((v2.2.2.1.length:Int)-v5.1.1)))+List.length ([v3.1.1]:List U24)) (some (((cn v4.1.2.1 (0:Int) (Wi ((v2.2.2.1.length:Int)-v5.1.1)))++([v3.1.1]:List U24),()),v4.1.1,()))else none)) (λv6=>Bd (v2.2.1.1=0) (ah (rS v1 (v3.2.1,v3.1.1.1,v3.1.1.2,())) (λ(v7:T84)=>v6 ((v7.2.1,v2.2.2.1,()),()))) (aq (λ(v8:Hd)=>v6 ((v8.1.1,v8.1.2.1,()),())) (λv9=>Bd (v2.2.1.1=1) (Ap 56 (List.length v3.2.1.2.1+List.length ([(v3.1.1.1,v3.1.1.2,v2.2.1.2,false)]:List U20)) (v9 (((v3.2.1.1,v3.2.1.2.1++([(v3.1.1.1,v3.1.1.2,v2.2.1.2,false)]:List U20),v3.2.1.2.2),v2.2.2.1,()),()))) (aq (λ(v10:Hd)=>v9 ((v10.1.1,v10.1.2.1,()),())) (λv11=>Bd (v2.2.1.1=2) (if 0<=(Wi ((v2.2.2.1.length:Int)-2))then(match v2.2.2.1[(Wi ((v2.2.2.1.length:Int)-2)).toNat]? with|some v12=>if 0<=(Wi ((v2.2.2.1.length:Int)-1))then(match v2.2.2.1[(Wi ((v2.2.2.1.length:Int)-1)).toNat]? with|some v13=>ah (rS v1 (v3.2.1,v3.1.1.1,v12.1,())) (λ(v14:T84)=>ah (rS v1 (v14.2.1,v12.2,v13.1,())) (λ(v15:T84)=>ah (rS v1 (v15.2.1,v13.2,v3.1.1.2,())) (λ(v16:T84)=>v11 ((v16.2.1,v2.2.2.1,()),()))))|none=>none)else none|none=>none)else none) (aq (λ(v17:Hd)=>v11 ((v17.1.1,v17.1.2.1,()),())) (λv18=>Bd (v2.2.1.1=3) (if 0<=(Wi ((v2.2.2.1.length:Int)-2))/\(Wi ((v2.2.2.1.length:Int)-2))<=(v2.2.2.1.length:Int)/\(v2.2.2.1.length:Int)<=(v2.2.2.1.length:Int)then aC (λ(v19:((U3×U8×Unit)×Int×Unit))=>λv20=>Bd (v19.2.1<(sN (Wi ((v2.2.2.1.length:Int)-2)) (v2.2.2.1.length:Int))) (bif zZ v19.2.1 (Wi ((v2.2.2.1.length:Int)-2)) (v2.2.2.1.length:Int)then if 0<=(mG (Wi ((v2.2.2.1.length:Int)-2)) v19.2.1)then(match v19.1.2.1[(mG (Wi ((v2.2.2.1.length:Int)-2)) v19.2.1).toNat]? with|some v21=>ah (rS v1 (v19.1.1,v3.1.1.1,v21.1,())) (λ(v22:T84)=>ah (rS v1 (v22.2.1,v21.2,v3.1.1.2,())) (λ(v23:T84)=>v20 ((v23.2.1,v19.1.2.1,()),Wi (v19.2.1+1),())))|none=>none)else none else none) (v18 ((v19.1.1,v19.1.2.1,()),()))) v1 ((v3.2.1,v2.2.2.1,()),0,())else none) (if 0<=(Wi ((v2.2.2.1.length:Int)-1))then(match v2.2.2.1[(Wi ((v2.2.2.1.length:Int)-1)).toNat]? with|some v24=>ah (rS v1 (v3.2.1,v3.1.1.1,v24.1,())) (λ(v25:T84)=>ah (rS v1 (v25.2.1,v24.2,v3.1.1.2,())) (λ(v26:T84)=>aq (λ(v27:Hd)=>aq (λ(v28:Hd)=>v18 ((v28.1.1,v28.1.2.1,()),())) (λv29=>bif !(decide (v2.2.1.1=5))then ah (rS v1 (v27.1.1,v3.1.1.1,v3.1.1.2,())) (λ(v30:T84)=>v29 ((v30.2.1,v27.1.2.1,()),()))else v29 ((v27.1.1,v27.1.2.1,()),()))) (λv31=>bif !(decide (v2.2.1.1=6))then ah (rS v1 (v26.2.1,v24.2,v24.1,())) (λ(v32:T84)=>v31 ((v32.2.1,v2.2.2.1,()),()))else v31 ((v26.2.1,v2.2.2.1,()),()))))|none=>none)else none)))))))))
def F112(n:Nat):Fb 112:=fb n [⟨_,F178 n⟩,⟨_,F179 n⟩,⟨_,F176 n⟩] [] [118] [] Tryz.func112 Tryz.results112 Tryz.ntmps112 (.seq (rn_ [4]) (sn_ (.seq (rn_ [8]) (.seq (sn_ (.block none (sn_ (cs_ ⟨Q2_,[],[0,2,4,7,8]⟩ .nop (sn_ (cs_ ⟨Q2_,[],[0,2,4,7,8]⟩ .nop (sn_ (cs_ ⟨Q2_,[],[0,2,4,7,8]⟩ (.seq (rn_ [9,10]) .nop) (sn_ (cs_ ⟨Q2_,[],[0,2,4,7,8]⟩ (sn_ (bk_ ⟨Q2_,[.val 120 y2],[0,2,4,7,8,118,119]⟩ (sn_ (sn_ (.seq (.block none (.seq (rn_ [12]) .nop)) .nop))))) (.seq (rn_ [13]) (sn_ (sn_ (.seq (sn_ (cs_ ⟨Q2_,[],[0,2,4,7,8]⟩ .nop .nop)) (sn_ (cs_ ⟨Q2_,[],[0,2,4,7,8]⟩ .nop .nop)))))))))))))))) .nop)))) [(.box Hc,.own JU),(G9,.ro),(pA,mo_)] [(pA,mo_)] [0] A0 (qh n)
def p61(v1:Nat)(v2:T30):Option ((U3×Int×Unit)×Unit):=ah (NS v1 (v2.1,())) (λ(v3:T7)=>bif !(decide (v3.1.1=0))then some (((0,([]:List U20),0,0),v3.1.1,()),())else aC (λ(v4:((U3×U3×Unit)×U8×Int×Unit))=>λv5=>bif decide (v4.2.2.1<(v2.1.length:Int))then if 0<=v4.2.2.1 then(match v2.1[(v4.2.2.1).toNat]? with|some v6=>ah (qh v1 (v4.1.2.1,v6,v4.2.1,())) (λ(v7:(U34×U3×Unit))=>v5 ((v4.1.1,v7.2.1,()),v7.1.1,IntKind.wrap .i64 (v4.2.2.1+1),()))|none=>none)else none else if(0:Int)<=(0:Int)then(match v4.2.1[(0:Int).toNat]? with|some v8=>if(0:Int)<=(0:Int)then(match v4.2.1[(0:Int).toNat]? with|some v9=>some (((v4.1.2.1.1,v4.1.2.1.2.1,v8.1,v9.2),0,()),())|none=>none)else none|none=>none)else none) v1 (((0,([]:List U20),0,0),(0,([]:List U20),0,0),()),([]:List U24),0,()))
def F61(n:Nat):Fb 61:=fb n [⟨_,F111 n⟩,⟨_,F112 n⟩] [13,15] [] [] Tryz.func61 Tryz.results61 Tryz.ntmps61 (sn_ (sn_ (sn_ (sn_ (.seq (sn_ (bk_ ⟨[(16,.box yn,.own JU),(128,.box Hc,.own JU)],[.hdr 6 55 pA mo_,.val 19 y2],[2,5,17,18]⟩ (sn_ (sn_ (.seq (.block none (.seq (rn_ [8]) .nop)) .nop))))) (sn_ (.seq (.rgf none [5] [2]) .nop))))))) [(nn,.ro)] [(yn,.ro),(y2,.ro)] [] [] (p61 n)
def Hl(v1:Nat)(v2:T80):T17:=aq (λ(v3:T5)=>bif v3.2.1 then some ((false,()),())else aC (λ(v4:T4)=>λv5=>Bd (v4.2.1<(v2.1.2.1.length:Int)) (Ld v2.1.2.1 v4.2.1 λv6=>aq (λ(v7:T5)=>bif v7.2.1 then some ((false,()),())else v5 ((),Wi (v4.2.1+1),())) (λv8=>Bd (v6.1<0) (v8 ((),true,())) (Bd (v2.1.1<=v6.1) (v8 ((),true,())) (Bd (v6.2.1<0) (v8 ((),true,())) (v8 ((),decide (v2.1.1<=v6.2.1),())))))) (some ((true,()),()))) v1 ((),0,())) (λv9=>Bd (v2.1.2.2.1<0) (v9 ((),true,())) (Bd (v2.1.1<=v2.1.2.2.1) (v9 ((),true,())) (Bd (v2.1.2.2.2<0) (v9 ((),true,())) (v9 ((),decide (v2.1.1<=v2.1.2.2.2),())))))
def F113(n:Nat):Fb 113:=fb n [] [] [] [] Tryz.func113 Tryz.results113 Tryz.ntmps113 (.seq (rn_ [1]) (.seq (.seq (rs_ ⟨[],[.val 26 y4],[1]⟩ []) .nop) (.seq (sn_ (bk_ ⟨[],[.val 30 y2],[1,28,29]⟩ (sn_ (sn_ (.seq (.block none (.seq (rn_ [4]) (.seq (rs_ ⟨[],[.val 55 y4],[1,28,29,30]⟩ []) .nop))) .nop))))) .nop))) [(yn,.ro)] A20 [] [] (Hl n)
def NU(v1:Nat)(v2:T80):Option (((List U0)×Unit)×Unit):=aC (λ(v3:(Unit×(List U0)×Int×Unit))=>λv4=>Bd (v3.2.2.1<(v2.1.2.1.length:Int)) (Ld v2.1.2.1 v3.2.2.1 λv5=>aq (λ(v6:(Unit×(List U0)×Unit))=>v4 ((),v6.2.1,Wi (v3.2.2.1+1),())) (λv7=>bif !v5.2.2.2 then Ap 32 (List.length v3.2.1+List.length ([v5.2.2.1]:List U0)) (v7 ((),v3.2.1++([v5.2.2.1]:List U0),()))else v7 ((),v3.2.1,()))) (some ((v3.2.1,()),()))) v1 ((),([]:List U0),0,())
def F115(n:Nat):Fb 115:=fb n [] [] [] [] Tryz.func115 Tryz.results115 Tryz.ntmps115 (.seq (rn_ [1]) (sn_ (.seq (sn_ (bk_ ⟨[],[.hdr 3 31 Ha mo_,.val 9 y2],[7,8]⟩ (sn_ (sn_ (.seq (.block none (.seq (rn_ [5]) (sn_ (cs_ ⟨[],[.hdr 3 31 Ha mo_],[7,8,9]⟩ .nop .nop)))) .nop))))) .nop))) [(yn,.ro)] [(Ha,.ro)] [] [] (NU n)
def Hm(v1:Nat)(v2:T11):T17:=if(64:Int)=0 then none else if 0<=(IntKind.wrap .u8 (Int.tdiv v2.2.1 64))then(match v2.1[(IntKind.wrap .u8 (Int.tdiv v2.2.1 64)).toNat]? with|some v3=>if(64:Int)=0 then none else if(Int.tmod v2.2.1 64)<0 then none else some ((decide ((dL .and .u64 (Int.fdiv v3 (2 ^ (Nat.min (Int.toNat (Int.tmod v2.2.1 64)) (IntKind.bits .u64)))) (1:Int))=1),()),())|none=>none)else none
def F183(n:Nat):Fb 183:=fb n [] [] [] [] Tryz.func183 Tryz.results183 Tryz.ntmps183 (.seq (rn_ [2]) .nop) [(ka,.ro),(y5,.ro)] A20 [] [] (Hm n)
def NV(v1:Nat)(v2:((List U0)×Int×Unit)):T35:=if(8:Int)=0 then none else if 0<=(Wi (Int.tdiv (Wi ((v2.1.length:Int)+7)) 8))/\(Wi (Int.tdiv (Wi ((v2.1.length:Int)+7)) 8))<=(Wi (Int.tdiv (Wi ((v2.1.length:Int)+7)) 8))then if(Wi (Int.tdiv (Wi ((v2.1.length:Int)+7)) 8)).toNat*1<=140737488355328 then aC (λ(v3:T27)=>λv4=>Bd (v3.2.1<(v2.1.length:Int)) (Ld v2.1 v3.2.1 λv5=>ah (Hm v1 (v5,v2.2.1,())) (λ(v6:T9)=>aq (λ(v7:T16)=>v4 ((v7.1.1,()),Wi (v3.2.1+1),())) (λv8=>bif v6.1.1 then if(8:Int)=0 then none else if 0<=(Wi (Int.tdiv v3.2.1 8))then(match v3.1.1[(Wi (Int.tdiv v3.2.1 8)).toNat]? with|some v9=>if(8:Int)=0 then none else if(IntKind.wrap .u64 (Int.tmod v3.2.1 8))<0 then none else if 0<=(Wi (Int.tdiv v3.2.1 8))then(match v3.1.1[(Wi (Int.tdiv v3.2.1 8)).toNat]? with|some v10=>if 0<=(Wi (Int.tdiv v3.2.1 8))then(match v3.1.1[(Wi (Int.tdiv v3.2.1 8)).toNat]? with|some v11=>v8 ((List.set v3.1.1 (Wi (Int.tdiv v3.2.1 8)).toNat (dL .or .u8 v9 (IntKind.wrap .u8 ((1:Int)*2 ^ (Nat.min (Int.toNat (IntKind.wrap .u64 (Int.tmod v3.2.1 8))) (IntKind.bits .u8))))),()),())|none=>none)else none|none=>none)else none|none=>none)else none else v8 ((v3.1.1,()),())))) (some ((v3.1.1,()),()))) v1 ((List.replicate (Wi (Int.tdiv (Wi ((v2.1.length:Int)+7)) 8)).toNat (0:Int),()),0,())else none else none
def F180(n:Nat):Fb 180:=fb n [⟨_,F183 n⟩] [] [] [] Tryz.func180 Tryz.results180 Tryz.ntmps180 (sn_ (sn_ (.seq (sn_ (bk_ ⟨[(96,wq,mo_)],[.val 15 y2],[1,5,13,14]⟩ (sn_ (sn_ (.seq (.block none (.seq (rn_ [7]) (sn_ (cs_ ⟨[(96,wq,mo_)],[],[1,5,13,14,15]⟩ .nop .nop)))) .nop))))) .nop))) [(Ha,.ro),(y5,.ro)] A22 [] [] (NV n)
def NW(v1:Nat)(v2:((List U0)×Unit)):T35:=aC (λ(v3:T86)=>λv4=>Bd (v3.2.1<256) (ah (NV v1 (v2.1,IntKind.wrap .u8 v3.2.1,())) (λ(v5:T16)=>aq (λ(v6:T86)=>Ld v6.1.2.1 v3.2.1 λv7=>Ld v6.1.2.1 v3.2.1 λv8=>v4 ((v6.1.1,List.set v6.1.2.1 (v3.2.1).toNat (IntKind.wrap .u8 v6.2.1),v6.1.2.2.1,()),Wi (v3.2.1+1),())) (λv9=>bif !(eX (λ(v10:T0)=>λ(v11:T0)=>decide (v10=v11)) v5.1.1 v3.1.2.2.1)then bif x8 v3.1.2.2.1 then v9 ((v3.1.1,v3.1.2.1,eY (λ(v12:T0)=>λ(v13:T0)=>decide (v12=v13)) v5.1.1 (CD v3.1.2.2.1) v3.1.2.2.1,()),CD v3.1.2.2.1,())else none else v9 ((v3.1.1,v3.1.2.1,v3.1.2.2.1,()),cR (λ(v14:T0)=>λ(v15:T0)=>decide (v14=v15)) v5.1.1 v3.1.2.2.1,())))) (some ((v3.1.2.1,()),()))) v1 ((List.replicate 256 (0:Int),List.replicate 256 (0:Int),([]:List (U0×Int)),()),0,())
def F114(n:Nat):Fb 114:=fb n [⟨_,F180 n⟩] [] [] [] Tryz.func114 Tryz.results114 Tryz.ntmps114 (sn_ (sn_ (sn_ (.seq (sn_ (bk_ ⟨UZ,[.val 10 y2],[0,2,3,4]⟩ (sn_ (sn_ (.seq (.block none (sn_ (sn_ (sn_ (.seq (sn_ (cs_ ⟨UZ,[.val 7 y2],[0,2,3,4,5,10]⟩ .nop .nop)) .nop))))) .nop))))) (.seq (.rgf none [3] [2]) .nop))))) [(Ha,.ro)] [(y88,.ro)] [] [] (NW n)
def J2(v1:Nat)(v2:(U3×U12×Unit)):T40:=if 0<=v2.1.1/\v2.1.1<=v2.1.1 then if(v2.1.1).toNat*1<=140737488355328 then aC (λ(v3:T36)=>λv4=>bif v3.2.1 then aC (λ(v5:T48)=>λv6=>Bd (v5.2.2.1<(v2.1.2.1.length:Int)) (Ld v2.1.2.1 v5.2.2.1 λv7=>aq (λ(v8:T36)=>aq (λ(v9:T36)=>v6 ((v9.1.1,()),v9.2.1,Wi (v5.2.2.1+1),())) (λv10=>bif v8.2.1 then Ld v8.1.1 v7.2.1 λv11=>Ld v8.1.1 v7.2.1 λv12=>v10 ((List.set v8.1.1 (v7.2.1).toNat true,()),true,())else v10 ((v8.1.1,()),v5.2.1,()))) (λv13=>bif v7.2.2.2 then Ld v5.1.1 v7.1 λv14=>bif v14 then Ld v5.1.1 v7.2.1 λv15=>v13 ((v5.1.1,()),!v15,())else v13 ((v5.1.1,()),false,())else v13 ((v5.1.1,()),false,()))) (v4 ((v5.1.1,()),v5.2.1,()))) v1 ((v3.1.1,()),false,0,())else some ((v3.1.1,()),())) v1 ((cpL (List.replicate (v2.1.1).toNat false) v2.2.1,()),true,())else none else none
def F117(n:Nat):Fb 117:=fb n [] [] [] [] Tryz.func117 Tryz.results117 Tryz.ntmps117 (.seq (rn_ [2]) (sn_ (sn_ (.seq (sn_ (bk_ ⟨[(88,eC,mo_)],[.val 6 y4],[2,5]⟩ (sn_ (.block none (sn_ (sn_ (bk_ ⟨[(88,eC,mo_)],[.val 6 y4,.val 19 y2],[2,5,17,18]⟩ (sn_ (sn_ (.seq (.block none (.seq (rn_ [8]) (.seq (rs_ ⟨[(88,eC,mo_)],[.val 39 y4],[2,5,6,8,17,18,19]⟩ []) (cs_ ⟨[(88,eC,mo_)],[.val 6 y4],[2,5,17,18,19]⟩ .nop .nop)))) .nop)))))))))) .nop)))) [(yn,.ro),(eC,.ro)] A16 [] [] (J2 n)
def NX(v1:Nat)(v2:T8):T35:=if(8:Int)=0 then none else if 0<=(Wi (Int.tdiv (Wi ((v2.1.length:Int)+7)) 8))/\(Wi (Int.tdiv (Wi ((v2.1.length:Int)+7)) 8))<=(Wi (Int.tdiv (Wi ((v2.1.length:Int)+7)) 8))then if(Wi (Int.tdiv (Wi ((v2.1.length:Int)+7)) 8)).toNat*1<=140737488355328 then aC (λ(v3:T27)=>λv4=>Bd (v3.2.1<(v2.1.length:Int)) (Ld v2.1 v3.2.1 λv5=>aq (λ(v6:T16)=>v4 ((v6.1.1,()),Wi (v3.2.1+1),())) (λv7=>bif v5 then if(8:Int)=0 then none else if 0<=(Wi (Int.tdiv v3.2.1 8))then(match v3.1.1[(Wi (Int.tdiv v3.2.1 8)).toNat]? with|some v8=>if(8:Int)=0 then none else if(IntKind.wrap .u64 (Int.tmod v3.2.1 8))<0 then none else if 0<=(Wi (Int.tdiv v3.2.1 8))then(match v3.1.1[(Wi (Int.tdiv v3.2.1 8)).toNat]? with|some v9=>if 0<=(Wi (Int.tdiv v3.2.1 8))then(match v3.1.1[(Wi (Int.tdiv v3.2.1 8)).toNat]? with|some v10=>v7 ((List.set v3.1.1 (Wi (Int.tdiv v3.2.1 8)).toNat (dL .or .u8 v8 (IntKind.wrap .u8 ((1:Int)*2 ^ (Nat.min (Int.toNat (IntKind.wrap .u64 (Int.tmod v3.2.1 8))) (IntKind.bits .u8))))),()),())|none=>none)else none|none=>none)else none|none=>none)else none else v7 ((v3.1.1,()),()))) (some ((v3.1.1,()),()))) v1 ((List.replicate (Wi (Int.tdiv (Wi ((v2.1.length:Int)+7)) 8)).toNat (0:Int),()),0,())else none else none
def F181(n:Nat):Fb 181:=fb n [] [] [] [] Tryz.func181 Tryz.results181 Tryz.ntmps181 (sn_ (sn_ (.seq (sn_ (bk_ ⟨[(80,wq,mo_)],[.val 13 y2],[3,11,12]⟩ (sn_ (sn_ (.seq (.block none (sn_ (sn_ (cs_ ⟨[(80,wq,mo_)],[],[3,11,12,13]⟩ .nop .nop)))) .nop))))) .nop))) A16 A22 [] [] (NX n)
def NY(v1:Nat)(v2:T11):T15:=Bd ((v2.1.length:Int)<=v2.2.1) (some ((-1,()),())) (Ld v2.1 v2.2.1 λv3=>some ((v3,()),()))
def F222(n:Nat):Fb 222:=fb n [] [] [] [] Tryz.func222 Tryz.results222 Tryz.ntmps222 (.nop) [(y53,.ro),(y2,.ro)] A21 [] [] (NY n)
def NZ(v1:Nat)(v2:((Option U6)×U12×Unit)):T15:=aC (λ(v3:T10)=>λv4=>Bd (v3.2.2.1<(v2.2.1.length:Int)) (Ld v2.2.1 v3.2.2.1 λv5=>(match v2.1 with|some v6=>(match v2.1 with|some v7=>ah (NY v1 (v7.2.1,v3.2.2.1,())) (λ(v8:T7)=>aq (λ(v9:T5)=>aq (λ(v10:T4)=>v4 ((),v10.2.1,Wi (v3.2.2.1+1),())) (λv11=>bif v9.2.1 then v11 ((),v8.1.1,())else v11 ((),v3.2.1,()))) (λv12=>bif v5 then Bd (0<=v8.1.1) (Bd (v3.2.1<0) (v12 ((),true,())) (v12 ((),decide (v8.1.1<v3.2.1),()))) (v12 ((),false,()))else v12 ((),false,())))|none=>none)|none=>none)) (some ((v3.2.1,()),()))) v1 ((),-1,0,())
def F182(n:Nat):Fb 182:=fb n [⟨_,F222 n⟩] [] [] [] Tryz.func182 Tryz.results182 Tryz.ntmps182 (sn_ (sn_ (.seq (sn_ (bk_ ⟨[],[.val 5 y2,.val 11 y2],[0,9,10]⟩ (sn_ (sn_ (.seq (.block none (sn_ (sn_ (.seq (rs_ ⟨[],[.val 35 y4],[0,5,8,9,10,11]⟩ []) (cs_ ⟨[],[.val 5 y2],[0,9,10,11]⟩ .nop .nop))))) .nop))))) .nop))) [(UH,.ro),(eC,.ro)] A21 [] [] (NZ n)
def J3(v1:Nat)(v2:(U6×U12×Unit)):Option (U25×U6×Unit):=aC (λ(v3:((U6×Unit)×Bool×Int×Unit))=>λv4=>Bd (v3.2.2.1<(v2.2.1.length:Int)) (Ld v2.2.1 v3.2.2.1 λv5=>aq (λ(v6:((U6×Unit)×Bool×Unit))=>v4 ((v6.1.1,()),v6.2.1,Wi (v3.2.2.1+1),())) (λv7=>bif v3.2.1 then v7 ((v3.1.1,()),true,())else v7 ((v3.1.1,()),v5,()))) (bif !v3.2.1 then some ((-1,()),v3.1.1,())else ah (NX v1 (v2.2.1,())) (λ(v8:T16)=>bif eX (λ(v9:T0)=>λ(v10:T0)=>decide (v9=v10)) v8.1.1 v3.1.1.2.2.2.1 then some ((cR (λ(v11:T0)=>λ(v12:T0)=>decide (v11=v12)) v8.1.1 v3.1.1.2.2.2.1,()),v3.1.1,())else Ap 24 (List.length v3.1.1.2.2.2.2.1+List.length ([v2.2.1]:List U12)) (ah (NZ v1 (some (v3.1.1.1,v3.1.1.2.1,v3.1.1.2.2.1,eY (λ(v13:T0)=>λ(v14:T0)=>decide (v13=v14)) v8.1.1 (v3.1.1.2.2.2.2.1.length:Int) v3.1.1.2.2.2.1,v3.1.1.2.2.2.2.1++([v2.2.1]:List U12),v3.1.1.2.2.2.2.2),v2.2.1,())) (λ(v15:T7)=>Ap 8 (List.length v3.1.1.2.2.2.2.2.2.2+List.length ([v15.1.1]:List Int)) (some ((Wi (((List.length (v3.1.1.2.2.2.2.1++([v2.2.1]:List U12)):Nat):Int)-1),()),(v3.1.1.1,v3.1.1.2.1,v3.1.1.2.2.1,eY (λ(v16:T0)=>λ(v17:T0)=>decide (v16=v17)) v8.1.1 (v3.1.1.2.2.2.2.1.length:Int) v3.1.1.2.2.2.1,v3.1.1.2.2.2.2.1++([v2.2.1]:List U12),v3.1.1.2.2.2.2.2.1,v3.1.1.2.2.2.2.2.2.1,v3.1.1.2.2.2.2.2.2.2++([v15.1.1]:List Int)),()))))))) v1 ((v2.1,()),false,0,())
def F116(n:Nat):Fb 116:=fb n [⟨_,F181 n⟩,⟨_,F182 n⟩] [] [] [] Tryz.func116 Tryz.results116 Tryz.ntmps116 (sn_ (sn_ (.seq (sn_ (bk_ ⟨[(6,.box C5,.own Q3_)],[.val 5 y4,.val 13 y2],[0,1,11,12]⟩ (sn_ (sn_ (.seq (.block none (sn_ (rs_ ⟨[(6,.box C5,.own Q3_)],[.val 5 y4],[0,1,11,12,13]⟩ []))) .nop))))) .nop))) [(.box C5,.own Q3_),(eC,.ro)] A21 [0] [(.box C5,.own Q3_)] (J3 n)
def N2(v1:Nat)(v2:(U3×U12×Int×Unit)):T40:=if 0<=v2.1.1/\v2.1.1<=v2.1.1 then if(v2.1.1).toNat*1<=140737488355328 then aC (λ(v3:T31)=>λv4=>Bd (v3.2.1<(v2.1.2.1.length:Int)) (Ld v2.1.2.1 v3.2.1 λv5=>aq (λ(v6:T36)=>aq (λ(v7:T18)=>v4 ((v7.1.1,()),Wi (v3.2.1+1),())) (λv8=>bif v6.2.1 then Ld v6.1.1 v5.2.1 λv9=>Ld v6.1.1 v5.2.1 λv10=>v8 ((List.set v6.1.1 (v5.2.1).toNat true,()),())else v8 ((v6.1.1,()),()))) (λv11=>bif !v5.2.2.2 then Bd (v5.1<(v2.2.1.length:Int)) (Ld v2.2.1 v5.1 λv12=>bif v12 then ah (Hm v1 (v5.2.2.1,v2.2.2.1,())) (λ(v13:T9)=>v11 ((v3.1.1,()),v13.1.1,()))else v11 ((v3.1.1,()),false,())) (v11 ((v3.1.1,()),false,()))else v11 ((v3.1.1,()),false,()))) (some ((v3.1.1,()),()))) v1 ((List.replicate (v2.1.1).toNat false,()),0,())else none else none
def F118(n:Nat):Fb 118:=fb n [⟨_,F183 n⟩] [] [] [] Tryz.func118 Tryz.results118 Tryz.ntmps118 (.seq (rn_ [3]) (sn_ (.seq (sn_ (bk_ ⟨[(96,eC,mo_)],[.val 16 y2],[1,2,7,14,15]⟩ (sn_ (sn_ (.seq (.block none (.seq (rn_ [9]) (.seq (rs_ ⟨[(96,eC,mo_)],[.val 42 y4],[1,2,7,9,14,15,16]⟩ []) (cs_ ⟨[(96,eC,mo_)],[],[1,2,7,14,15,16]⟩ .nop .nop)))) .nop))))) .nop))) [(yn,.ro),(eC,.ro),(y5,.ro)] A16 [] [] (N2 n)
def p63(v1:Nat)(v2:(U3×U0×Unit)):T89:=ah (Hl v1 (v2.1,())) (λ(v3:T9)=>bif !v3.1.1 then some (((List.replicate 256 (0:Int),([]:List U0),([]:List Int)),1,()),())else ah (NU v1 (v2.1,())) (λ(v4:(((List U0)×Unit)×Unit))=>ah (NW v1 (v4.1.1,())) (λ(v5:T16)=>aC (λ(v6:UT)=>λv7=>Bd (v6.2.1<256) (Ld v6.1.2.1.2.2.2.2.2.1 v6.2.1 λv8=>aq (λ(v9:((U16×U6×Unit)×Unit))=>v7 ((v9.1.1,v9.1.2.1,()),Wi (v6.2.1+1),())) (λv10=>Bd ((Wi v8)=(v6.1.2.1.2.2.1.length:Int)) (Ap 1 (List.length v6.1.2.1.2.2.1+List.length ([(IntKind.wrap .u8 v6.2.1)]:List Int)) (v10 ((v6.1.1,(v6.1.2.1.1,v6.1.2.1.2.1,v6.1.2.1.2.2.1++([(IntKind.wrap .u8 v6.2.1)]:List Int),v6.1.2.1.2.2.2),()),()))) (v10 ((v6.1.1,v6.1.2.1,()),())))) (if 0<=v2.1.1/\v2.1.1<=v2.1.1 then if(v2.1.1).toNat*1<=140737488355328 then if 0<=v2.1.2.2.1 then(match(List.replicate (v2.1.1).toNat false)[(v2.1.2.2.1).toNat]? with|some v11=>if 0<=v2.1.2.2.1 then(match(List.replicate (v2.1.1).toNat false)[(v2.1.2.2.1).toNat]? with|some v12=>ah (J2 v1 (v2.1,List.set (List.replicate (v2.1.1).toNat false) (v2.1.2.2.1).toNat true,())) (λ(v13:T18)=>ah (J3 v1 (v6.1.2.1,v13.1.1,())) (λ(v14:UQ)=>aC (λ(v15:UT)=>λv16=>Bd (v15.2.1<(v15.1.2.1.2.2.2.2.1.length:Int)) (Bd (2000<(v15.1.2.1.2.2.2.2.1.length:Int)) (some (((List.replicate 256 (0:Int),([]:List U0),([]:List Int)),6,()),())) (aC (λ(v17:((U16×U6×Unit)×U0×Int×Unit))=>λv18=>Bd (v17.2.2.1<(v15.1.2.1.2.2.1.length:Int)) (Ld v15.1.2.1.2.2.1 v17.2.2.1 λv19=>Ld v17.1.2.1.2.2.2.2.1 v15.2.1 λv20=>ah (N2 v1 (v2.1,v20,v19,())) (λ(v21:T18)=>ah (J2 v1 (v2.1,v21.1.1,())) (λ(v22:T18)=>ah (J3 v1 (v17.1.2.1,v22.1.1,())) (λ(v23:UQ)=>Ap 8 (List.length v17.2.1+List.length ([v23.1.1]:List Int)) (v18 ((v17.1.1,v23.2.1,()),v17.2.1++([v23.1.1]:List Int),Wi (v17.2.2.1+1),())))))) (Ap 24 (List.length v17.1.2.1.2.2.2.2.2.2.1+List.length ([v17.2.1]:List U0)) (v16 ((v17.1.1,(v17.1.2.1.1,v17.1.2.1.2.1,v17.1.2.1.2.2.1,v17.1.2.1.2.2.2.1,v17.1.2.1.2.2.2.2.1,v17.1.2.1.2.2.2.2.2.1,v17.1.2.1.2.2.2.2.2.2.1++([v17.2.1]:List U0),v17.1.2.1.2.2.2.2.2.2.2),()),Wi (v15.2.1+1),())))) v1 ((v15.1.1,v15.1.2.1,()),([]:List Int),0,()))) (some ((v15.1.2.1.2.2.2.2.2,0,()),()))) v1 ((v6.1.1,v14.2.1,()),0,())))|none=>none)else none|none=>none)else none else none else none)) v1 (((List.replicate 256 (0:Int),([]:List U0),([]:List Int)),(v2.1,v2.2.1,([]:List Int),([]:List (U0×Int)),([]:List U12),v5.1.1,([]:List U0),([]:List Int)),()),0,()))))
def F63(n:Nat):Fb 63:=fb n [⟨_,F113 n⟩,⟨_,F115 n⟩,⟨_,F114 n⟩,⟨_,F117 n⟩,⟨_,F116 n⟩,⟨_,F118 n⟩] [16,20,24,69,85,107,108,109] [] [] Tryz.func63 Tryz.results63 Tryz.ntmps63 (.seq (rn_ [2]) (sn_ (sn_ (sn_ (.seq (sn_ (bk_ ⟨UW,[.val 29 y2],[2,4,6]⟩ (sn_ (sn_ (.seq (.block none (sn_ (sn_ (cs_ ⟨UW,[],[2,4,6,29]⟩ .nop .nop)))) .nop))))) (.seq (.rgp none [] [] [(6,[.deref,.st,.snd,.snd,.fst])]) (sn_ (sn_ (.seq (sn_ (bk_ ⟨UY,[.val 9 y2],[2,4,6]⟩ (sn_ (.seq (.block none (sn_ (sn_ (.seq (sn_ (bk_ ⟨UY,[.hdr 10 87 y53 mo_,.val 91 y2],[2,4,6,9,89,90]⟩ .nop)) (.rgf none [10] []))))) .nop)))) (.seq (.rgf none [6] [4]) .nop)))))))))) [(yn,.ro),(y53,.ro)] A11 [] [] (p63 n)
def J4(v1:Nat)(v2:T80):T89:=ah (Hl v1 (v2.1,())) (λ(v3:T9)=>bif !v3.1.1 then some (((List.replicate 256 (0:Int),([]:List U0),([]:List Int)),1,()),())else if 0<=v2.1.1/\v2.1.1<=v2.1.1 then if(v2.1.1).toNat*8<=140737488355328 then aC (λ(v4:((U16×U0×Unit)×Int×Unit))=>λv5=>Bd (v4.2.1<((List.length (List.replicate (v2.1.1).toNat (0:Int)):Nat):Int)) (Ld v4.1.2.1 v4.2.1 λv6=>Ld v4.1.2.1 v4.2.1 λv7=>v5 ((v4.1.1,List.set v4.1.2.1 (v4.2.1).toNat (-1:Int),()),Wi (v4.2.1+1),())) (Ld v4.1.2.1 v2.1.2.2.2 λv8=>Ld v4.1.2.1 v2.1.2.2.2 λv9=>ah (p63 v1 (v2.1,List.set v4.1.2.1 (v2.1.2.2.2).toNat (0:Int),())) (λ(v10:T83)=>some ((v10.1.1,v10.1.2.1,()),())))) v1 (((List.replicate 256 (0:Int),([]:List U0),([]:List Int)),List.replicate (v2.1.1).toNat (0:Int),()),0,())else none else none)
def F130(n:Nat):Fb 130:=fb n [⟨_,F113 n⟩,⟨_,F63 n⟩] [9] [] [] Tryz.func130 Tryz.results130 Tryz.ntmps130 (.seq (rn_ [1]) (sn_ (sn_ (.seq (sn_ (bk_ ⟨[(16,.box y89,.own (.pr .ro Q0_)),(96,y53,mo_)],[.val 15 y2],[1,2,4,14]⟩ .nop)) (sn_ (.seq (rn_ [2]) .nop)))))) [(yn,.ro)] A11 [] [] (J4 n)
def p68(v1:Nat)(v2:T6):T89:=ah (p60 v1 (v2.1,())) (λ(v3:T67)=>bif !(decide (v3.1.2.1=0))then some (((List.replicate 256 (0:Int),([]:List U0),([]:List Int)),v3.1.2.1,()),())else ah (p61 v1 (v3.1.1,())) (λ(v4:((U3×Int×Unit)×Unit))=>bif !(decide (v4.1.2.1=0))then some (((List.replicate 256 (0:Int),([]:List U0),([]:List Int)),v4.1.2.1,()),())else ah (J4 v1 (v4.1.1,())) (λ(v5:T83)=>some ((v5.1.1,v5.1.2.1,()),()))))
def F68(n:Nat):Fb 68:=fb n [⟨_,F60 n⟩,⟨_,F61 n⟩,⟨_,F130 n⟩] [9,14,18,23,26] [] [] Tryz.func68 Tryz.results68 Tryz.ntmps68 (sn_ (sn_ (sn_ (.seq (rn_ [6]) (sn_ (.seq (rn_ [2]) .nop)))))) A22 A11 [] [] (p68 n)
def Ve(v1:Nat)(v2:(U16×Int×Int×Unit)):T15:=aq (λ(v3:T5)=>bif v3.2.1 then some ((-1,()),())else Ld v2.1.2.1 v2.2.1 λv4=>Ld v2.1.1 v2.2.2.1 λv5=>Ld v4 v5 λv6=>some ((v6,()),())) (λv7=>Bd (v2.2.1<0) (v7 ((),true,())) (Bd ((v2.1.2.1.length:Int)<=v2.2.1) (v7 ((),true,())) (Ld v2.1.1 v2.2.2.1 λv8=>Ld v2.1.2.1 v2.2.1 λv9=>v7 ((),decide ((v9.length:Int)<=(Wi v8)),()))))
def F125(n:Nat):Fb 125:=fb n [] [] [] [] Tryz.func125 Tryz.results125 Tryz.ntmps125 (.seq (rn_ [3]) (.seq (.seq (rs_ ⟨[],[.val 29 y4],[1,2,3]⟩ []) .nop) .nop)) [(y89,.ro),(y2,.ro),(y5,.ro)] A21 [] [] (Ve n)
def N3(v1:Nat)(v2:(U16×Int×U0×Unit)):T15:=aC (λ(v3:T10)=>λv4=>aq (λ(v5:T5)=>bif v5.2.1 then Ld v2.2.2.1 v3.2.2.1 λv6=>ah (Ve v1 (v2.1,v3.2.1,v6,())) (λ(v7:T7)=>v4 ((),v7.1.1,Wi (v3.2.2.1+1),()))else some ((v3.2.1,()),())) (λv8=>Bd (v3.2.2.1<(v2.2.2.1.length:Int)) (v8 ((),!(decide (v3.2.1=(-1))),())) (v8 ((),false,())))) v1 ((),v2.2.1,0,())
def F191(n:Nat):Fb 191:=fb n [⟨_,F125 n⟩] [] [] [] Tryz.func191 Tryz.results191 Tryz.ntmps191 (.seq (rn_ [3]) (.seq (sn_ (bk_ ⟨[],[.val 1 y2,.val 7 y2],[2,3]⟩ (.seq (.seq (rs_ ⟨[],[.val 15 y4],[1,2,3,7]⟩ []) .nop) .nop))) .nop)) [(y89,.ro),(y2,.ro),(y9,.ro)] A21 [] [] (N3 n)
def N4(v1:Nat)(v2:(U16×Int×Unit)):T15:=aq (λ(v3:T5)=>bif v3.2.1 then some ((-1,()),())else Ld v2.1.2.2 v2.2.1 λv4=>some ((v4,()),())) (λv5=>Bd (v2.2.1<0) (v5 ((),true,())) (v5 ((),decide ((v2.1.2.2.length:Int)<=v2.2.1),())))
def F124(n:Nat):Fb 124:=fb n [] [] [] [] Tryz.func124 Tryz.results124 Tryz.ntmps124 (.seq (rn_ [2]) (.seq (.seq (rs_ ⟨[],[.val 13 y4],[1,2]⟩ []) .nop) .nop)) A11 A21 [] [] (N4 n)
def N5(v1:Nat)(v2:(U16×U0×Unit)):T15:=ah (N3 v1 (v2.1,0,v2.2.1,())) (λ(v3:T7)=>ah (N4 v1 (v2.1,v3.1.1,())) (λ(v4:T7)=>some ((v4.1.1,()),())))
def F128(n:Nat):Fb 128:=fb n [⟨_,F191 n⟩,⟨_,F124 n⟩] [] [] [] Tryz.func128 Tryz.results128 Tryz.ntmps128 (.seq (rn_ [2]) .nop) [(y89,.ro),(y9,.ro)] A21 [] [] (N5 n)
end
end Go.Proofs.YtphipehmbefejaaGreat.Rf
