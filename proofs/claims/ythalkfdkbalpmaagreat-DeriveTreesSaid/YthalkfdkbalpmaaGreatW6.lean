/- A part of a proof that deriveTrees_holds: the given statement DeriveTreesSaid is true of the program, with no condition ahead of it. Printed by wip/dev/pack2.py out of the texts in wip. -/
import Derived.Test.YthalkfdkbalpmaaGreatW5
set_option linter.unusedVariables false
set_option linter.unusedSimpArgs false
namespace Go.Proofs.YthalkfdkbalpmaaGreat.Rf.Rk
open Go Go.Proofs.YthalkfdkbalpmaaGreat.Rf
noncomputable section
def tf(P:Prop):Bool:=@decide P (Classical.propDecidable P)
theorem o7{P:Prop}(h:P):tf P=true:=by unfold tf;exact @decide_eq_true P (Classical.propDecidable P) h
theorem o8{P:Prop}(h:¬P):tf P=false:=by unfold tf;exact @decide_eq_false P (Classical.propDecidable P) h
theorem J3{P:Prop}:tf P=true↔P:=by
 constructor
 ·intro h;exact @of_decide_eq_true P (Classical.propDecidable P) h
 ·exact o7
theorem gr{P Q:Prop}(h:P↔Q):tf P=tf Q:=by
 by_cases hp:P
 ·rw[o7 hp,o7 (h.1 hp)]
 ·rw[o8 hp,o8 (λq=>hp (h.2 q))]
def EN(next:List (List Int))(j k:Nat):Prop:=∃ row,next[j]?=some row/\(k:Int)∈row
def InR(next:List (List Int)):Prop:=∀ row∈next,∀ x∈row,0<=x/\x<(next.length:Int)
structure nh(next:List (List Int))(bV:Nat)(seen:List Bool)(opn:List Int):Prop where
 len:seen.length=next.length
 inr:∀ x∈opn,0<=x/\x<(next.length:Int)
 way:∀ x∈opn,Way (EN next) bV x.toNat
 no:bit seen bV=false
 start:∀ k,EN next bV k->bit seen k=true\/(k:Int)∈opn
 cl:∀ j k,bit seen j=true->EN next j k->bit seen k=true\/(k:Int)∈opn
theorem MD{next:List (List Int)}(hr:InR next){bV:Nat}{row:List Int}(hf:next[bV]?=some row):nh next bV (List.replicate next.length false) row:=by
 refine⟨by simp,λx hx=>hr _ (List.mem_of_getElem? hf) x hx,λx hx=>?_,yr _ _,λk hk=>?_,λj k hj=>?_⟩
 ·have:=hr _ (List.mem_of_getElem? hf) x hx
  exact .one ⟨row,hf,by rw[Int.toNat_of_nonneg this.1];exact hx⟩
 ·obtain⟨r,h1,h2⟩:=hk
  rw[hf]at h1;cases h1;exact .inr h2
 ·rw[yr]at hj;cases hj
theorem nh.done{next:List (List Int)}{bV:Nat}{seen:List Bool}(h:nh next bV seen []):¬Way (EN next) bV bV:=by
 have key:∀ i k,Way (EN next) i k->(i=bV\/bit seen i=true)->bit seen k=true:=by
  intro i k hw
  induction hw with
  |one he=>
   rintro(rfl|hb)
   ·rcases h.start _ he with h1|h1
    ·exact h1
    ·cases h1
   ·rcases h.cl _ _ hb he with h1|h1
    ·exact h1
    ·cases h1
  |more he hw ih=>
   rintro(rfl|hb)
   ·rcases h.start _ he with h1|h1
    ·exact ih (.inr h1)
    ·cases h1
   ·rcases h.cl _ _ hb he with h1|h1
    ·exact ih (.inr h1)
    ·cases h1
 intro hw
 have:=key _ _ hw (.inl rfl)
 rw[h.no]at this;cases this
theorem nh.hit{next:List (List Int)}{bV:Nat}{seen:List Bool}{x:Int}{opn:List Int}(h:nh next bV seen (x::opn))(e:x=(bV:Int)):Way (EN next) bV bV:=by
 have:=h.way x (by simp)
 subst e
 simpa using this
theorem nh.skip{next:List (List Int)}{bV:Nat}{seen:List Bool}{x:Int}{opn:List Int}(h:nh next bV seen (x::opn))(hb:bit seen x.toNat=true):nh next bV seen opn:=by
 have hx:=h.inr x (by simp)
 have cut:∀ k:Nat,bit seen k=true\/(k:Int)∈x::opn->bit seen k=true\/(k:Int)∈opn:=by
  intro k hk
  rcases hk with h1|h1
  ·exact .inl h1
  ·rcases List.mem_cons.1 h1 with h2|h2
   ·exact .inl (by
    have:k=x.toNat:=by omega
    rw[this];exact hb)
   ·exact .inr h2
 exact⟨h.len,λy hy=>h.inr y (by simp[hy]),λy hy=>h.way y (by simp[hy]),h.no,λk hk=>cut k (h.start k hk),λj k hj hk=>cut k (h.cl j k hj hk)⟩
theorem nh.push{next:List (List Int)}(hr:InR next){bV:Nat}{seen:List Bool}{x:Int}{opn:List Int}(h:nh next bV seen (x::opn))(hne:x≠(bV:Int)){row:List Int}(bP:next[x.toNat]?=some row):nh next bV (seen.set x.toNat true) (opn++row):=by
 have hx:=h.inr x (by simp)
 have hlt:x.toNat<seen.length:=by rw[h.len];omega
 have up:∀ k:Nat,bit seen k=true->bit (seen.set x.toNat true) k=true:=by
  intro k hk
  rw[nA hlt];split
  ·rfl
  ·exact hk
 have cut:∀ k:Nat,bit seen k=true\/(k:Int)∈x::opn->bit (seen.set x.toNat true) k=true\/(k:Int)∈opn++row:=by
  intro k hk
  rcases hk with h1|h1
  ·exact .inl (up k h1)
  ·rcases List.mem_cons.1 h1 with h2|h2
   ·exact .inl (by rw[nA hlt,if_pos (by omega)])
   ·exact .inr (by simp[h2])
 refine⟨by rw[List.length_set];exact h.len,λy hy=>?_,λy hy=>?_,?_,λk hk=>cut k (h.start k hk),λj k hj hk=>?_⟩
 ·rcases List.mem_append.1 hy with hy|hy
  ·exact h.inr y (by simp[hy])
  ·exact hr _ (List.mem_of_getElem? bP) y hy
 ·rcases List.mem_append.1 hy with hy|hy
  ·exact h.way y (by simp[hy])
  ·have:=hr _ (List.mem_of_getElem? bP) y hy
   exact(h.way x (by simp)).trans (.one ⟨row,bP,by rw[Int.toNat_of_nonneg this.1];exact hy⟩)
 ·rw[nA hlt,if_neg (by omega)];exact h.no
 ·rw[nA hlt]at hj
  by_cases e:j=x.toNat
  ·subst e
   obtain⟨r,h1,h2⟩:=hk
   rw[bP]at h1;cases h1
   exact .inr (by simp[h2])
  ·rw[if_neg e]at hj
   exact cut k (h.cl j k hj hk)
def fN(n:Nat)(R:Nat->Prop):List Bool:=(List.range n).map λk=>tf (R k)
def mat(n:Nat)(W:Nat->Nat->Prop):List (List Bool):=(List.range n).map λi=>fN n (W i)
theorem o9(n:Nat)(R:Nat->Prop):(fN n R).length=n:=by simp[fN]
theorem yu(n:Nat)(W:Nat->Nat->Prop):(mat n W).length=n:=by simp[mat]
theorem gu{n:Nat}{R:Nat->Prop}{k:Nat}(h:k<n):(fN n R)[k]?=some (tf (R k)):=by simp[fN,h]
theorem lA{n:Nat}{W:Nat->Nat->Prop}{i:Nat}(h:i<n):(mat n W)[i]?=some (fN n (W i)):=by simp[mat,h]
theorem uV{n:Nat}{R Q:Nat->Prop}(h:∀ k,k<n->(R k↔Q k)):fN n R=fN n Q:=by
 unfold fN
 refine List.map_congr_left λk hk=>gr (h k (List.mem_range.1 hk))
theorem nB{n:Nat}{W V:Nat->Nat->Prop}(h:∀ i,i<n->∀ k,k<n->(W i k↔V i k)):mat n W=mat n V:=by
 unfold mat
 refine List.map_congr_left λi hi=>uV (h i (List.mem_range.1 hi))
theorem uW{n:Nat}{R:Nat->Prop}{k:Nat}{P:Prop}:(fN n R).set k (tf P)=fN n (λj=>if j=k then P else R j):=by
 refine List.ext_getElem? λj=>?_
 rw[List.getElem?_set,o9]
 rcases Nat.lt_or_ge j n with hj|hj
 ·rw[gu hj,gu hj]
  by_cases e:k=j
  ·subst e;simp[hj]
  ·have e2:¬j=k:=λh=>e h.symm
   simp[e,e2]
 ·have h1:∀ R:Nat->Prop,(fN n R)[j]?=none:=λR=>List.getElem?_eq_none (by rw[o9];exact hj)
  rw[h1,h1]
  by_cases e:k=j
  ·subst e;simp;omega
  ·simp[e]
theorem Hc{n:Nat}{W:Nat->Nat->Prop}{i:Nat}{R:Nat->Prop}:(mat n W).set i (fN n R)=mat n (λa=>if a=i then R else W a):=by
 refine List.ext_getElem? λj=>?_
 rw[List.getElem?_set,yu]
 rcases Nat.lt_or_ge j n with hj|hj
 ·rw[lA hj,lA hj]
  by_cases e:i=j
  ·subst e;simp[hj]
  ·have e2:¬j=i:=λh=>e h.symm
   simp[e,e2]
 ·have h1:∀ W:Nat->Nat->Prop,(mat n W)[j]?=none:=λR=>List.getElem?_eq_none (by rw[yu];exact hj)
  rw[h1,h1]
  by_cases e:i=j
  ·subst e;simp;omega
  ·simp[e]
def first(P:Nat->Prop)(n:Nat):Nat->Int
 |0=>-1
 |k+1=>if tf (P (n-(k+1)))=true then((n-(k+1):Nat):Int)else first P n k
end
noncomputable section
theorem DO(l:List Int)(h:l.length<=10000000):p95 N0 (l,())=some ((l,()),()):=by
 unfold p95
 cases l with
 |nil=>simp[BD,oo]
 |cons x xs=>
  have c1:(xs.length+1)*8<=140737488355328:=by simp only[List.length_cons]at h;omega
  have c2:xs.length+1<=9223372036854775807:=by simp only[List.length_cons]at h;omega
  simp[BD,c1,c2]
theorem AF{α:Type}(x:α)(xs:List α):aY (x::xs) 1 (((x::xs).length:Nat):Int)=xs:=by
 unfold aY
 have e1:((1:Int)).toNat=1:=rfl
 simp only[e1,Int.toNat_natCast,List.drop_succ_cons,List.drop_zero,List.length_cons]
 exact List.take_of_length_le (by omega)
set_option maxHeartbeats 1000000 in
theorem J4(next:List (List Int))(bV:Nat)(hf:bV<next.length)(hr:InR next)(hk:∀ row∈next,row.length<=10000)(hn:next.length<=100):p64 N0 (next,((bV:Int),()))=some ((tf (Way (EN next) bV bV),()),()):=by
 unfold p64
 have z0:(0:Int)<=(next.length:Int)/\(next.length:Int)<=(next.length:Int):=by omega
 have PF:=hk _ (List.getElem_mem hf)
 simp only[z0,and_self,if_true,Int.toNat_natCast,aP,Int.natCast_nonneg,List.getElem?_eq_getElem hf]
 rw[if_pos (by omega),aa (DO _ (by omega))]
 refine au (λm x r=>∃ (seen:List Bool) (opn:List Int),x=((seen,()),(opn,()))/\nh next bV seen opn/\m=mf seen*10001+opn.length/\m<=2000000/\r=some ((tf (Way (EN next) bV bV),()),())) ?_ N0 (mf (List.replicate next.length false)*10001+next[bV].length) _ _ (by
  have:=HM (List.replicate next.length false)
  rw[List.length_replicate]at this
  unfold N0;omega) ⟨_,_,rfl,MD hr (List.getElem?_eq_getElem hf),rfl,by
  have:=HM (List.replicate next.length false)
  rw[List.length_replicate]at this
  omega,rfl⟩
 rintro m x r ⟨seen,opn,rfl,hq,hm,hm2,rfl⟩ k2 hk2
 cases opn with
 |nil=>
  rw[o8 hq.done]
  simp
 |cons a opn=>
  have c1:(0:Int)<(((a::opn).length:Nat):Int):=by simp only[List.length_cons];omega
  have c2:(0:Int)<=1/\(1:Int)<=(((a::opn).length:Nat):Int)/\(((a::opn).length:Nat):Int)<=(((a::opn).length:Nat):Int):=by simp only[List.length_cons];omega
  have e0:(a::opn)[((0:Int)).toNat]?=some a:=rfl
  have c3:(0:Int)<=0:=by omega
  obtain⟨a0,a1⟩:=hq.inr a (by simp)
  have a2:a.toNat<seen.length:=by rw[hq.len];omega
  have a3:a.toNat<next.length:=by omega
  have hb:=J0 a2
  simp only[c1,c2,c3,decide_true,if_true,and_self,e0,AF,kw,decide_eq_true_eq,a0,List.getElem?_eq_getElem a2,List.getElem?_eq_getElem a3]
  by_cases e:a=(bV:Int)
  ·simp only[e,if_true]
   rw[o7 (hq.hit e)]
  ·simp only[e,if_false]
   cases hs:seen[a.toNat]
   case true=>
    simp only[Bool.not_true,Bool.false_eq_true,if_false]
    exact hk2 _ _ _ (by rw[hm];simp only[List.length_cons];exact Nat.lt_succ_self _) ⟨seen,opn,rfl,hq.skip (by rw[hb];exact hs),rfl,by rw[hm]at hm2;simp only[List.length_cons]at hm2;omega,rfl⟩
   case false=>
    have bP:=hk _ (List.getElem_mem a3)
    have hlt:=J1 a2 (by rw[hb];exact hs)
    simp only[List.length_cons]at hm
    simp only[Bool.not_false,if_true]
    rw[if_pos (by omega),if_pos (by omega)]
    exact hk2 (mf (seen.set a.toNat true)*10001+(opn++next[a.toNat]).length) _ _ (by rw[List.length_append];omega) ⟨_,_,rfl,hq.push hr e (List.getElem?_eq_getElem a3),rfl,by rw[List.length_append];omega,rfl⟩
end
noncomputable section
def rest(b:List (Bool×Int))(n:Nat):List (Bool×Int):=b.take n++b.drop (n+1)
def DP(d:List Int)(ns:Nat)(p:Prd)(n j k:Nat):Prop:=p.1=(j:Int)/\j<ns/\k<ns/\∃ s,p.2.2.1[n]?=some s/\s.1=true/\s.2=(k:Int)/\cf d (rest p.2.2.1 n) 0=0
def pc(d:List Int)(ns:Nat)(p:Prd)(m j k:Nat):Prop:=∃ n,n<m/\DP d ns p n j k
def Edge(d:List Int)(ns:Nat)(ps:List Prd)(j k:Nat):Prop:=∃ p∈ps,pc d ns p p.2.2.1.length j k
def eM(d:List Int)(ns:Nat)(ps:List Prd):Int:=first (λi=>Way (Edge d ns ps) i i) ns ns
theorem Way.mono{E F:Nat->Nat->Prop}(h:∀ i k,E i k->F i k){i k:Nat}(hw:Way E i k):Way F i k:=by
 induction hw with
 |one e=>exact .one (h _ _ e)
 |more e _ ih=>exact .more (h _ _ e) ih
theorem uX{P:Nat->Prop}{n j:Nat}(h:j<n):first P n (n-j)=if tf (P j)=true then(j:Int)else first P n (n-(j+1)):=by
 obtain⟨k,hk⟩:∃ k,n-j=k+1:=⟨n-j-1,by omega⟩
 have e1:n-(j+1)=k:=by omega
 have e2:n-(k+1)=j:=by omega
 rw[hk,e1]
 simp only[first,e2]
theorem uY{P Q:Nat->Prop}{n:Nat}(h:∀ i,i<n->(P i↔Q i)):∀ k,k<=n->first P n k=first Q n k:=by
 intro k
 induction k with
 |zero=>intro _;rfl
 |succ k ih=>
  intro hk
  simp only[first]
  rw[gr (h (n-(k+1)) (by omega)),ih (by omega)]
theorem AG{P:Nat->Prop}{n:Nat}:∀ k,k<=n->(first P n k<0↔∀ i,n-k<=i->i<n->¬P i):=by
 intro k
 induction k with
 |zero=>
  intro _;simp only[first];constructor
  ·intro _ i h1 h2;omega
  ·intro _;omega
 |succ k ih=>
  intro hk
  simp only[first]
  by_cases hp:P (n-(k+1))
  ·rw[o7 hp,if_pos rfl]
   constructor
   ·intro h;omega
   ·intro h;exact absurd hp (h _ (Nat.le_refl _) (by omega))
  ·rw[o8 hp]
   simp only[Bool.false_eq_true,if_false]
   rw[ih (by omega)]
   constructor
   ·intro h i h1 h2
    by_cases e:i=n-(k+1)
    ·subst e;exact hp
    ·exact h i (by omega) h2
   ·intro h i h1 h2;exact h i (by omega) h2
structure pF(ns B:Nat)(D:Nat->Nat->Prop)(nx:List (List Int)):Prop where
 len:nx.length=ns
 inr:InR nx
 few:∀ row∈nx,row.length<=B
 oE:∀ j k,EN nx j k↔D j k
theorem pF.DR{ns B C:Nat}{D F:Nat->Nat->Prop}{nx:List (List Int)}(h:pF ns B D nx)(hb:B<=C)(hd:∀ j k,D j k↔F j k):pF ns C F nx:=
 ⟨h.len,h.inr,λr hr=>Nat.le_trans (h.few r hr) hb,λj k=>(h.oE j k).trans (hd j k)⟩
theorem pF.add{ns B:Nat}{D:Nat->Nat->Prop}{nx:List (List Int)}(h:pF ns B D nx){j0 k0:Nat}{row:List Int}(bP:nx[j0]?=some row)(hk:k0<ns):pF ns (B+1) (λj k=>D j k\/(j=j0/\k=k0)) (nx.set j0 (row++[(k0:Int)])):=by
 have hj:j0<nx.length:=by
  rcases Nat.lt_or_ge j0 nx.length with h1|h1
  ·exact h1
  ·rw[List.getElem?_eq_none h1]at bP;cases bP
 refine⟨by rw[List.length_set];exact h.len,λr hr x hx=>?_,λr hr=>?_,λj k=>?_⟩
 ·rw[List.length_set]
  rcases List.mem_or_eq_of_mem_set hr with hr|rfl
  ·exact h.inr r hr x hx
  ·rcases List.mem_append.1 hx with hx|hx
   ·exact h.inr row (List.mem_of_getElem? bP) x hx
   ·rcases List.mem_singleton.1 hx with rfl
    rw[h.len];omega
 ·rcases List.mem_or_eq_of_mem_set hr with hr|rfl
  ·exact Nat.le_succ_of_le (h.few r hr)
  ·rw[List.length_append];have:=h.few row (List.mem_of_getElem? bP);simp only[List.length_cons,List.length_nil];omega
 ·have he:=h.oE j k
  unfold EN at he |-
  rw[List.getElem?_set]
  by_cases e:j0=j
  ·subst e
   simp only[if_true,hj]
   rw[bP]at he
   rw[<-he]
   constructor
   ·rintro⟨r,h1,h2⟩
    cases h1
    rcases List.mem_append.1 h2 with h2|h2
    ·exact .inl ⟨row,rfl,h2⟩
    ·exact .inr ⟨by first|rfl|trivial,by have:=List.mem_singleton.1 h2;omega⟩
   ·rintro(⟨r,h1,h2⟩|⟨_,rfl⟩)
    ·cases h1;exact⟨_,rfl,List.mem_append_left _ h2⟩
    ·exact⟨_,rfl,by simp⟩
  ·rw[if_neg e,he]
   constructor
   ·exact .inl
   ·rintro(h1|⟨h1,_⟩)
    ·exact h1
    ·exact absurd h1.symm e
theorem ie{α:Type}(b:List α)(n:Nat):aY b 0 (n:Int)=b.take n:=by
 unfold aY
 simp
theorem mo{α:Type}(b:List α)(n:Nat):aY b (n:Int) (b.length:Int)=b.drop n:=by
 unfold aY
 simp only[Int.toNat_natCast]
 exact List.take_of_length_le (by rw[List.length_drop];omega)
set_option maxHeartbeats 2000000 in
theorem DS(g:Grm)(hg:GOk g)(hn:g.2.1.length<=100)(hp:g.2.2.1.length<=100)(hb:∀ p∈g.2.2.1,p.2.2.1.length<=20):p32 N0 (g,())=some ((eM (bD g) g.2.1.length g.2.2.1,()),()):=by
 unfold p32
 simp only[aP]
 rw[aa (DM g hg hn)]
 have je:=(eV g).2.cap
 generalize bD g=d at je
 have z0:(0:Int)<=(g.2.1.length:Int)/\(g.2.1.length:Int)<=(g.2.1.length:Int):=by omega
 simp only[z0,and_self,if_true,Int.toNat_natCast]
 rw[if_pos (by omega)]
 have no0:∀ j k,EN (List.replicate g.2.1.length ([]:List Int)) j k↔Edge d g.2.1.length (g.2.2.1.take 0) j k:=by
  intro j k
  constructor
  ·rintro⟨r,h1,h2⟩
   rw[List.getElem?_replicate]at h1
   split at h1
   ·cases h1;cases h2
   ·cases h1
  ·rintro⟨p,h1,_⟩
   simp at h1
 refine au (λmm x r=>∃ (i:Nat) (nx:List (List Int)),x=((nx,()),((i:Int),()))/\mm+i=g.2.2.1.length/\pF g.2.1.length (i*20) (Edge d g.2.1.length (g.2.2.1.take i)) nx/\r=some ((eM d g.2.1.length g.2.2.1,()),())) ?_ N0 g.2.2.1.length _ _ (by unfold N0;omega) ⟨0,_,rfl,rfl,⟨by simp,λr hr=>by rw[(List.mem_replicate.1 hr).2];simp,λr hr=>by rw[(List.mem_replicate.1 hr).2];simp,no0⟩,rfl⟩
 rintro mm x r ⟨i,nx,rfl,hmm,hi,rfl⟩ k hk
 have hlen:=hi.len
 rcases Nat.eq_zero_or_pos mm with rfl|hm0
 ·-- all rows are told:PG leads to MZ
  have c1:¬(i:Int)<(g.2.2.1.length:Int):=by omega
  rw[List.take_of_length_le (by omega)]at hi
  simp only[c1,decide_false,cond_false]
  clear hk
  have Pl:∀ row∈nx,row.length<=10000:=λrow hr=>by have:=hi.few row hr;omega
  refine(cP (λj=>((nx,()),((j:Int),()))) (λj=>some ((first (λi=>Way (Edge d g.2.1.length g.2.2.1) i i) g.2.1.length (g.2.1.length-j),()),())) g.2.1.length (λj hj k hk=>?_) N0 0 (Nat.zero_le _) (by unfold N0;omega)).trans ?_
  ·rcases Nat.lt_or_ge j g.2.1.length with hlt|hge
   ·have hk:=hk hlt
    have c2:(j:Int)<(nx.length:Int):=by omega
    have hw:IntKind.wrap .i64 ((j:Int)+1)=((j+1:Nat):Int):=by rw[aJ (by omega) (by omega)];simp
    have he:tf (Way (EN nx) j j)=tf (Way (Edge d g.2.1.length g.2.2.1) j j):=gr ⟨Way.mono λa b=>(hi.oE a b).1,Way.mono λa b=>(hi.oE a b).2⟩
    simp only[c2,decide_true,cond_true,J4 nx j (by omega) hi.inr Pl (by omega),aK,he,uX hlt,hw]
    cases tf (Way (Edge d g.2.1.length g.2.2.1) j j)
    ·simp only[cond_false,Bool.false_eq_true,if_false];exact hk
    ·simp only[cond_true,if_true]
   ·have c2:¬(j:Int)<(nx.length:Int):=by omega
    have e:j=g.2.1.length:=by omega
    subst e
    simp only[c2,decide_false,cond_false,Nat.sub_self,first]
  ·unfold eM;rfl
 obtain⟨mm,rfl⟩:∃ m',mm=m' + 1:=⟨mm-1,by omega⟩
 have hip:i<g.2.2.1.length:=by omega
 have c1:(i:Int)<(g.2.2.1.length:Int):=by omega
 have hpm:=List.getElem_mem hip
 have hpb:=hb _ hpm
 have htk:g.2.2.1.take (i+1)=g.2.2.1.take i++[g.2.2.1[i]]:=by rw[List.take_add_one,List.getElem?_eq_getElem hip];rfl
 have hw0:IntKind.wrap .i64 ((i:Int)+1)=((i+1:Nat):Int):=by rw[aJ (by omega) (by omega)];simp
 have hk':∀ nx',pF g.2.1.length ((i+1)*20) (Edge d g.2.1.length (g.2.2.1.take (i+1))) nx'->k ((nx',()),(((i+1:Nat):Int),()))=some ((eM d g.2.1.length g.2.2.1,()),()):=λnx' h'=>
  hk mm _ _ (Nat.lt_succ_self _) ⟨i+1,nx',rfl,by omega,h',rfl⟩
 clear hk
 simp only[c1,decide_true,cond_true,Int.toNat_natCast,Int.natCast_nonneg,if_true,List.getElem?_eq_getElem hip,hw0]
 rw[htk]at hk'
 have DT:∀ p j k,Edge d g.2.1.length (g.2.2.1.take i++[p]) j k↔(Edge d g.2.1.length (g.2.2.1.take i) j k\/pc d g.2.1.length p p.2.2.1.length j k):=by
  intro p j k
  constructor
  ·rintro⟨q,hq,he⟩
   rcases List.mem_append.1 hq with hq|hq
   ·exact .inl ⟨q,hq,he⟩
   ·rcases List.mem_singleton.1 hq with rfl
    exact .inr he
  ·rintro(⟨q,hq,he⟩|he)
   ·exact⟨q,List.mem_append_left _ hq,he⟩
   ·exact⟨p,by simp,he⟩
 generalize g.2.2.1[i]=p at hpb hk'
 have skip:(p.1<0\/(g.2.1.length:Int)<=p.1)->k ((nx,()),(((i+1:Nat):Int),()))=some ((eM d g.2.1.length g.2.2.1,()),()):=by
  intro h
  refine hk' nx (hi.DR (by omega) λj k=>?_)
  rw[DT]
  constructor
  ·exact .inl
  ·rintro(h1|⟨n,_,h2,h3,_⟩)
   ·exact h1
   ·omega
 by_cases a1:p.1<0
 ·simp only[a1,decide_true,cond_true]
  exact skip (.inl a1)
 by_cases a2:(nx.length:Int)<=p.1
 ·simp only[a1,a2,decide_true,decide_false,cond_true,cond_false]
  exact skip (.inr (by omega))
 have a0:0<=p.1:=by omega
 have a3:p.1.toNat<g.2.1.length:=by omega
 have a4:p.1=(p.1.toNat:Int):=by omega
 simp only[a1,a2,decide_true,decide_false,cond_true,cond_false]
 refine au (λmq x r=>∃ (n:Nat) (nx:List (List Int)),x=((nx,()),((n:Int),()))/\mq+n=p.2.2.1.length/\pF g.2.1.length (i*20+n) (λj k=>Edge d g.2.1.length (g.2.2.1.take i) j k\/pc d g.2.1.length p n j k) nx/\r=some ((eM d g.2.1.length g.2.2.1,()),())) ?_ N0 p.2.2.1.length _ _ (by unfold N0;omega) ⟨0,nx,rfl,rfl,hi.DR (by omega) λj k=>⟨.inl,λh=>h.elim id λ⟨n,h1,_⟩=>by omega⟩,rfl⟩
 clear skip a2 hi hlen nx
 rintro mq x r ⟨n,nx,rfl,hmq,hi,rfl⟩ k2 hk2
 rcases Nat.eq_zero_or_pos mq with rfl|hm0
 ·have c2:¬(n:Int)<(p.2.2.1.length:Int):=by omega
  have e:n=p.2.2.1.length:=by omega
  subst e
  simp only[c2,decide_false,cond_false]
  exact hk' nx (hi.DR (by omega) λj k=>(DT p j k).symm)
 obtain⟨mq,rfl⟩:∃ m',mq=m' + 1:=⟨mq-1,by omega⟩
 have hn2:n<p.2.2.1.length:=by omega
 have c2:(n:Int)<(p.2.2.1.length:Int):=by omega
 have hw1:IntKind.wrap .i64 ((n:Int)+1)=((n+1:Nat):Int):=by rw[aJ (by omega) (by omega)];simp
 have c3:(0:Int)<=0/\0<=(n:Int)/\(n:Int)<=(p.2.2.1.length:Int):=by omega
 have c4:(0:Int)<=((n+1:Nat):Int)/\((n+1:Nat):Int)<=(p.2.2.1.length:Int)/\(p.2.2.1.length:Int)<=(p.2.2.1.length:Int):=by omega
 have AH:∀ nx',pF g.2.1.length (i*20+n+1) (λj k=>Edge d g.2.1.length (g.2.2.1.take i) j k\/pc d g.2.1.length p (n+1) j k) nx'->k2 ((nx',()),(((n+1:Nat):Int),()))=some ((eM d g.2.1.length g.2.2.1,()),()):=λnx' h'=>
  hk2 mq _ _ (Nat.lt_succ_self _) ⟨n+1,nx',rfl,by omega,h',rfl⟩
 clear hk2
 have hlen:=hi.len
 have hrl:(p.2.2.1.take n).length+(p.2.2.1.drop (n+1)).length<=1000:=by simp only[List.length_take,List.length_drop];omega
 have hrm:(rest p.2.2.1 n).length<=maxLen:=by unfold rest maxLen;rw[List.length_append];omega
 simp only[c2,decide_true,cond_true,Int.toNat_natCast,Int.natCast_nonneg,if_true,List.getElem?_eq_getElem hn2,hw1,c3,c4,and_self,ie,mo]
 rw[aa (J2 _ _ hrl)]
 have hL:p63 N0 (p.2.2.1.take n++p.2.2.1.drop (n+1),(d,()))=some ((cf d (rest p.2.2.1 n) 0,()),()):=DK _ d hrm je
 have hs?:=List.getElem?_eq_getElem hn2
 have stay:(∀ j k,¬DP d g.2.1.length p n j k)->k2 ((nx,()),(((n+1:Nat):Int),()))=some ((eM d g.2.1.length g.2.2.1,()),()):=by
  intro h
  refine AH nx (hi.DR (by omega) λj k=>?_)
  constructor
  ·rintro(h1|⟨m,h1,h2⟩)
   ·exact .inl h1
   ·exact .inr ⟨m,by omega,h2⟩
  ·rintro(h1|⟨m,h1,h2⟩)
   ·exact .inl h1
   ·rcases Nat.lt_or_ge m n with hm|hm
    ·exact .inr ⟨m,hm,h2⟩
    ·have:m=n:=by omega
     subst this;exact absurd h2 (h j k)
 have eI:∀ j k,DP d g.2.1.length p n j k->k<g.2.1.length/\p.2.2.1[n].1=true/\p.2.2.1[n].2=(k:Int)/\cf d (rest p.2.2.1 n) 0=0:=by
  rintro j k ⟨_,_,h1,s,h2,h3,h4,h5⟩
  rw[hs?]at h2;cases h2
  exact⟨h1,h3,h4,h5⟩
 generalize p.2.2.1[n]=s at hs? eI
 cases s1:s.1
 ·simp only[cond_false]
  exact stay λj k h=>by have:=(eI j k h).2.1;rw[s1]at this;cases this
 simp only[cond_true]
 by_cases s2:0<=s.2
 case neg=>
  simp only[s2,decide_false,cond_false]
  exact stay λj k h=>by have:=(eI j k h).2.2.1;omega
 by_cases s3:s.2<(nx.length:Int)
 case neg=>
  simp only[s2,s3,decide_false,decide_true,cond_true,cond_false]
  exact stay λj k h=>by have:=eI j k h;omega
 simp only[s2,s3,decide_true,cond_true]
 rw[aa hL]
 by_cases s4:cf d (rest p.2.2.1 n) 0=0
 case neg=>
  simp only[s4,decide_false,cond_false]
  exact stay λj k h=>s4 (eI j k h).2.2.2
 have a5:p.1.toNat<nx.length:=by omega
 have bP:=List.getElem?_eq_getElem a5
 have PQ:=hi.few _ (List.getElem_mem a5)
 simp only[s4,decide_true,cond_true,a0,if_true,bP,and_self,List.length_cons,List.length_nil]
 rw[if_pos (by omega),if_pos (by omega)]
 have hs2:s.2=(s.2.toNat:Int):=by omega
 have zk:=hi.add bP (k0:=s.2.toNat) (by omega)
 rw[<-hs2]at zk
 refine AH _ (zk.DR (by omega) λj k=>?_)
 constructor
 ·rintro((h1|⟨m,h1,h2⟩)|⟨h1,h2⟩)
  ·exact .inl h1
  ·exact .inr ⟨m,by omega,h2⟩
  ·subst h1;subst h2
   exact .inr ⟨n,by omega,a4,a3,by omega,s,hs?,s1,hs2,s4⟩
 ·rintro(h1|⟨m,h1,h2⟩)
  ·exact .inl (.inl h1)
  ·rcases Nat.lt_or_ge m n with hm|hm
   ·exact .inl (.inr ⟨m,hm,h2⟩)
   ·have:m=n:=by omega
    subst this
    have q:=eI j k h2
    have q1:=h2.1
    exact .inr ⟨by omega,by omega⟩
end
noncomputable section
set_option maxHeartbeats 2000000 in
theorem J5(g:Grm)(hp:g.2.2.1.length<=100)(hb:∀ p∈g.2.2.1,p.2.2.1.length<=20)(d:List Int)(je:Cap d){a b:Nat}(ha:a<g.2.1.length)(hbk:b<g.2.1.length):p40 N0 (g,(d,((a:Int),((b:Int),()))))=some ((tf (Edge d g.2.1.length g.2.2.1 a b),()),()):=by
 unfold p40
 simp only[aP]
 refine au (λmm x r=>∃ (i:Nat),x=((),((i:Int),()))/\mm+i=g.2.2.1.length/\(¬Edge d g.2.1.length (g.2.2.1.take i) a b)/\r=some ((tf (Edge d g.2.1.length g.2.2.1 a b),()),())) ?_ N0 g.2.2.1.length _ _ (by unfold N0;omega) ⟨0,rfl,rfl,λ⟨p,h1,_⟩=>by simp at h1,rfl⟩
 rintro mm x r ⟨i,rfl,hmm,hi,rfl⟩ k hk
 rcases Nat.eq_zero_or_pos mm with rfl|hm0
 ·have c1:¬(i:Int)<(g.2.2.1.length:Int):=by omega
  rw[List.take_of_length_le (by omega)]at hi
  simp only[c1,decide_false,cond_false,o8 hi]
 obtain⟨mm,rfl⟩:∃ m',mm=m' + 1:=⟨mm-1,by omega⟩
 have hip:i<g.2.2.1.length:=by omega
 have c1:(i:Int)<(g.2.2.1.length:Int):=by omega
 have hpm:=List.getElem_mem hip
 have hpb:=hb _ hpm
 have htk:g.2.2.1.take (i+1)=g.2.2.1.take i++[g.2.2.1[i]]:=by rw[List.take_add_one,List.getElem?_eq_getElem hip];rfl
 have hw0:IntKind.wrap .i64 ((i:Int)+1)=((i+1:Nat):Int):=by rw[aJ (by omega) (by omega)];simp
 have hk':¬pc d g.2.1.length g.2.2.1[i] g.2.2.1[i].2.2.1.length a b->k ((),(((i+1:Nat):Int),()))=some ((tf (Edge d g.2.1.length g.2.2.1 a b),()),()):=λh'=>
  hk mm _ _ (Nat.lt_succ_self _) ⟨i+1,rfl,by omega,by
   rw[htk]
   rintro⟨q,hq,he⟩
   rcases List.mem_append.1 hq with hq|hq
   ·exact hi ⟨q,hq,he⟩
   ·rcases List.mem_singleton.1 hq with rfl
    exact h' he,rfl⟩
 clear hk htk hi
 have ME:pc d g.2.1.length g.2.2.1[i] g.2.2.1[i].2.2.1.length a b->Edge d g.2.1.length g.2.2.1 a b:=λh=>⟨_,hpm,h⟩
 simp only[c1,decide_true,cond_true,Int.toNat_natCast,Int.natCast_nonneg,if_true,List.getElem?_eq_getElem hip,hw0]
 generalize g.2.2.1[i]=p at hpb hk' ME
 refine au (λmq x r=>∃ (n:Nat),x=((),((n:Int),()))/\mq+n=p.2.2.1.length/\(¬pc d g.2.1.length p n a b)/\r=some ((tf (Edge d g.2.1.length g.2.2.1 a b),()),())) ?_ N0 p.2.2.1.length _ _ (by unfold N0;omega) ⟨0,rfl,rfl,λ⟨n,h1,_⟩=>by omega,rfl⟩
 rintro mq x r ⟨n,rfl,hmq,hi,rfl⟩ k2 hk2
 rcases Nat.eq_zero_or_pos mq with rfl|hm0
 ·have c2:¬(n:Int)<(p.2.2.1.length:Int):=by omega
  have e:n=p.2.2.1.length:=by omega
  subst e
  simp only[c2,decide_false,cond_false]
  exact hk' hi
 obtain⟨mq,rfl⟩:∃ m',mq=m' + 1:=⟨mq-1,by omega⟩
 have hn2:n<p.2.2.1.length:=by omega
 have c2:(n:Int)<(p.2.2.1.length:Int):=by omega
 have hw1:IntKind.wrap .i64 ((n:Int)+1)=((n+1:Nat):Int):=by rw[aJ (by omega) (by omega)];simp
 simp only[c2,decide_true,cond_true]
 by_cases hf:p.1=(a:Int)
 case neg=>
  simp only[hf,decide_false,cond_false]
  exact hk' λ⟨m,_,h,_⟩=>hf h
 have c3:(0:Int)<=0/\0<=(n:Int)/\(n:Int)<=(p.2.2.1.length:Int):=by omega
 have c4:(0:Int)<=((n+1:Nat):Int)/\((n+1:Nat):Int)<=(p.2.2.1.length:Int)/\(p.2.2.1.length:Int)<=(p.2.2.1.length:Int):=by omega
 have hrm:(rest p.2.2.1 n).length<=maxLen:=by unfold rest maxLen;rw[List.length_append,List.length_take,List.length_drop];omega
 have hL:p71 N0 (g,(p.2.2.1.take n++p.2.2.1.drop (n+1),(d,())))=some ((cf d (rest p.2.2.1 n) 0,()),()):=DL g _ d hrm je
 have l1:(p.2.2.1.take n).length<=20:=by rw[List.length_take];omega
 have l2:(p.2.2.1.drop (n+1)).length<=20:=by rw[List.length_drop];omega
 simp only[hf,decide_true,cond_true,hw1,c3,c4,and_self,if_true,ie,mo,List.nil_append,List.length_nil,Nat.zero_add]
 rw[if_pos (by omega),if_pos (by omega),if_pos (by omega),if_pos (by omega)]
 have hs?:=List.getElem?_eq_getElem hn2
 have AH:¬DP d g.2.1.length p n a b->k2 ((),(((n+1:Nat):Int),()))=some ((tf (Edge d g.2.1.length g.2.2.1 a b),()),()):=λh'=>
  hk2 mq _ _ (Nat.lt_succ_self _) ⟨n+1,rfl,by omega,by
   rintro⟨m,h1,h2⟩
   rcases Nat.lt_or_ge m n with hm|hm
   ·exact hi ⟨m,hm,h2⟩
   ·have:m=n:=by omega
    subst this;exact h' h2,rfl⟩
 clear hk2
 have eI:DP d g.2.1.length p n a b->p.2.2.1[n].1=true/\p.2.2.1[n].2=(b:Int)/\cf d (rest p.2.2.1 n) 0=0:=by
  rintro⟨_,_,h1,s,h2,h3,h4,h5⟩
  rw[hs?]at h2;cases h2
  exact⟨h3,h4,h5⟩
 simp only[Int.toNat_natCast,Int.natCast_nonneg,if_true,hs?]
 generalize p.2.2.1[n]=s at hs? eI
 cases s1:s.1
 ·simp only[cond_false]
  exact AH λh=>by have:=(eI h).1;rw[s1]at this;cases this
 simp only[cond_true]
 by_cases s2:s.2=(b:Int)
 case neg=>
  simp only[s2,decide_false,cond_false]
  exact AH λh=>s2 (eI h).2.1
 simp only[s2,decide_true,cond_true]
 rw[aa hL]
 by_cases s4:cf d (rest p.2.2.1 n) 0=0
 case neg=>
  simp only[s4,decide_false,cond_false]
  exact AH λh=>s4 (eI h).2.2
 simp only[s4,decide_true,cond_true]
 rw[o7 (ME ⟨n,hn2,hf,ha,hbk,s,hs?,s1,s2,s4⟩)]
end
noncomputable section
theorem MF{E:Nat->Nat->Prop}{m i:Nat}:War E (m+1) i m↔War E m i m:=⟨λh=>h.elim id λh=>h.1,.inl⟩
theorem MG{E:Nat->Nat->Prop}{m k:Nat}:War E (m+1) m k↔War E m m k:=⟨λh=>h.elim id λh=>h.2,.inl⟩
theorem AI{n:Nat}{R:Nat->Prop}(h:∀ k,¬R k):List.replicate n false=fN n R:=by
 refine List.ext_getElem? λj=>?_
 rw[List.getElem?_replicate]
 rcases Nat.lt_or_ge j n with hj|hj
 ·rw[gu hj,if_pos hj,o8 (h j)]
 ·rw[if_neg (by omega),List.getElem?_eq_none (by rw[o9];exact hj)]
def Mid(E:Nat->Nat->Prop)(m i k a b:Nat):Prop:=if a<i\/(a=i/\b<k)then War E (m+1) a b else War E m a b
theorem Hd{E:Nat->Nat->Prop}{n m i k:Nat}(hi:i<n)(hk:k<n):(mat n (Mid E m i k)).set i ((fN n (Mid E m i k i)).set k (tf (War E (m+1) i k)))=mat n (Mid E m i (k+1)):=by
 rw[uW,Hc]
 refine nB λa ha b hb=>?_
 unfold Mid
 by_cases e:a=i
 ·subst e
  simp only[if_true,Nat.lt_irrefl,false_or,true_and]
  by_cases e2:b=k
  ·subst e2;simp
  ·simp only[e2,if_false]
   by_cases h:b<k
   ·have:b<k+1:=by omega
    simp[h,this]
   ·have:¬b<k+1:=by omega
    simp[h,this]
 ·simp only[e,if_false,false_and,or_false]
set_option maxHeartbeats 2000000 in
theorem w5(g:Grm)(hg:GOk g)(hn:g.2.1.length<=100)(hp:g.2.2.1.length<=100)(hb:∀ p∈g.2.2.1,p.2.2.1.length<=20):p14 N0 (g,())=some ((eM (bD g) g.2.1.length g.2.2.1,()),()):=by
 unfold p14
 simp only[aP]
 rw[aa (JZ g hg hn)]
 have je:=(eV g).2.cap
 generalize bD g=d at je
 have hal:=λ(a b:Nat) (ha:a<g.2.1.length) (hbk:b<g.2.1.length)=>J5 g hp hb d je ha hbk
 have hE:∀ i k,Edge d g.2.1.length g.2.2.1 i k->k<g.2.1.length:=by
  rintro i k ⟨p,_,m,_,h⟩
  exact h.2.2.1
 have a8:eM d g.2.1.length g.2.2.1=first (λi=>War (Edge d g.2.1.length g.2.2.1) g.2.1.length i i) g.2.1.length g.2.1.length:=
  uY (λi hi=>⟨Hb hE,Ha _ _ _⟩) _ (Nat.le_refl _)
 rw[a8]
 generalize Edge d g.2.1.length g.2.2.1=E at hal
 clear hE a8
 generalize hns:g.2.1.length=n at hn hal
 have z0:(0:Int)<=(n:Int)/\(n:Int)<=(n:Int):=by omega
 have hw:∀ j:Nat,j<n->IntKind.wrap .i64 ((j:Int)+1)=((j+1:Nat):Int):=λj hj=>by rw[aJ (by omega) (by omega)];simp
 refine(cP (λi=>((),((List.range i).map λa=>fN n (E a),((i:Int),())))) (λ_=>some ((first (λi=>War E n i i) n n,()),())) n (λi hi k hk=>?_) N0 0 (Nat.zero_le _) (by unfold N0;omega))
 rcases Nat.lt_or_ge i n with hlt|hge
 ·have hk:=hk hlt
  have c1:(i:Int)<(n:Int):=by omega
  simp only[c1,decide_true,cond_true,z0,and_self,if_true,Int.toNat_natCast]
  rw[if_pos (by omega)]
  refine(cP (λj=>(((List.range i).map λa=>fN n (E a),(fN n (λb=>b<j/\E i b),())),((j:Int),()))) (λ_=>some ((first (λi=>War E n i i) n n,()),())) n (λj hj k2 hk2=>?_) N0 0 (Nat.zero_le _) (by unfold N0;omega) |> (λh=>by rw[AI (n:=n) (R:=λb=>b<0/\E i b) (λk h=>by omega)];exact h))
  rcases Nat.lt_or_ge j n with He|PR
  ·have hk2:=hk2 He
   have c2:(j:Int)<(n:Int):=by omega
   have e1:(λb=>if b=j then E i j else b<j/\E i b)=λb=>b<j+1/\E i b:=by
    funext b
    by_cases e:b=j
    ·subst e;simp
    ·have:(b<j+1)=(b<j):=propext ⟨λ_=>by omega,λ_=>by omega⟩
     simp[e,this]
   simp only[c2,decide_true,cond_true,hal i j hlt He,aK,Int.natCast_nonneg,if_true,Int.toNat_natCast,gu He,uW,hw j He,e1]
   exact hk2
  ·have c2:¬(j:Int)<(n:Int):=by omega
   have e:j=n:=by omega
   subst e
   have e1:fN j (λb=>b<j/\E i b)=fN j (E i):=uV λb hb=>by simp[hb]
   have e2:(List.range i).map (λa=>fN j (E a))++[fN j (E i)]=(List.range (i+1)).map λa=>fN j (E a):=by rw[List.range_succ,List.map_append];rfl
   simp only[c2,decide_false,cond_false,e1,e2,hw i hlt,List.length_map,List.length_range,List.length_cons,List.length_nil]
   rw[if_pos (by omega),if_pos (by omega)]
   exact hk
 have c1:¬(i:Int)<(n:Int):=by omega
 have e:i=n:=by omega
 subst e
 have e0:(List.range i).map (λa=>fN i (E a))=mat i (War E 0):=rfl
 simp only[c1,decide_false,cond_false,e0]
 clear hk hge hi c1 e0
 refine(cP (λm=>((mat i (War E m),()),((m:Int),()))) (λ_=>some ((first (λa=>War E i a a) i i,()),())) i (λm hm k hk=>?_) N0 0 (Nat.zero_le _) (by unfold N0;omega))
 rcases Nat.lt_or_ge m i with hlt|hge
 ·have hk:=hk hlt
  have c1:(m:Int)<(i:Int):=by omega
  simp only[c1,decide_true,cond_true,hw m hlt]
  refine(cP (λa=>((mat i (Mid E m a 0),()),((a:Int),()))) (λ_=>some ((first (λa=>War E i a a) i i,()),())) i (λa ha k2 hk2=>?_) N0 0 (Nat.zero_le _) (by unfold N0;omega) |> (λh=>by rw[nB (W:=War E m) (V:=Mid E m 0 0) λa _ b _=>by unfold Mid;simp];exact h))
  rcases Nat.lt_or_ge a i with halt|PS
  ·have hk2:=hk2 halt
   have c2:(a:Int)<(i:Int):=by omega
   simp only[c2,decide_true,cond_true,hw a halt]
   refine(cP (λb=>((mat i (Mid E m a b),()),((b:Int),()))) (λ_=>some ((first (λa=>War E i a a) i i,()),())) i (λb hb k3 hk3=>?_) N0 0 (Nat.zero_le _) (by unfold N0;omega))
   rcases Nat.lt_or_ge b i with Hf|PT
   ·have hk3:=hk3 Hf
    have c3:(b:Int)<(i:Int):=by omega
    rw[<-Hd halt Hf]at hk3
    have w1:Mid E m a b a b↔War E m a b:=by unfold Mid;simp
    have w2:Mid E m a b a m↔War E m a m:=by unfold Mid;split;exact MF;exact Iff.rfl
    have w3:Mid E m a b m b↔War E m m b:=by unfold Mid;split;exact MG;exact Iff.rfl
    simp only[c3,decide_true,cond_true,Int.natCast_nonneg,if_true,Int.toNat_natCast,lA halt,lA hlt,gu Hf,gu hlt,hw b Hf,gr w1,gr w2,gr w3]
    by_cases h1:War E m a b
    ·have h4:War E (m+1) a b:=.inl h1
     rw[o7 h4]at hk3
     simp only[o7 h1,cond_true]
     exact hk3
    ·by_cases h2:War E m a m
     ·have h4:War E (m+1) a b↔War E m m b:=⟨λh=>h.elim (λh=>absurd h h1) λh=>h.2,λh=>.inr ⟨h2,h⟩⟩
      rw[gr h4]at hk3
      simp only[o8 h1,o7 h2,cond_true,cond_false]
      exact hk3
     ·have h4:¬War E (m+1) a b:=λh=>h.elim h1 λh=>h2 h.1
      rw[o8 h4]at hk3
      simp only[o8 h1,o8 h2,cond_true,cond_false]
      exact hk3
   ·have c3:¬(b:Int)<(i:Int):=by omega
    have e:b=i:=by omega
    subst e
    have e1:mat b (Mid E m a b)=mat b (Mid E m (a+1) 0):=nB λx hx y hy=>by
     unfold Mid
     have:(x<a\/(x=a/\y<b))↔(x<a+1\/(x=a+1/\y<0)):=by omega
     simp only[this]
    simp only[c3,decide_false,cond_false,e1]
    exact hk2
  ·have c2:¬(a:Int)<(i:Int):=by omega
   have e:a=i:=by omega
   subst e
   have e1:mat a (Mid E m a 0)=mat a (War E (m+1)):=nB λx hx y hy=>by unfold Mid;simp[hx]
   simp only[c2,decide_false,cond_false,e1]
   exact hk
 have c1:¬(m:Int)<(i:Int):=by omega
 have e:m=i:=by omega
 subst e
 simp only[c1,decide_false,cond_false]
 clear hk hge hm c1
 refine(cP (λj=>((mat m (War E m),()),((j:Int),()))) (λj=>some ((first (λa=>War E m a a) m (m-j),()),())) m (λj hj k hk=>?_) N0 0 (Nat.zero_le _) (by unfold N0;omega))
 rcases Nat.lt_or_ge j m with hlt|hge
 ·have hk:=hk hlt
  have c2:(j:Int)<(m:Int):=by omega
  simp only[c2,decide_true,cond_true,Int.natCast_nonneg,if_true,Int.toNat_natCast,lA hlt,gu hlt,hw j hlt,uX hlt]
  cases tf (War E m j j)
  ·simp only[cond_false,Bool.false_eq_true,if_false];exact hk
  ·simp only[cond_true,if_true]
 ·have c2:¬(j:Int)<(m:Int):=by omega
  have e:j=m:=by omega
  subst e
  simp only[c2,decide_false,cond_false,Nat.sub_self,first]
end
noncomputable section
def bG(m x y:Nat):Prop:=min x m=min y m
theorem bG.pd{m x:Nat}:bG m x x:=Eq.refl _
theorem bG.symm{m x y:Nat}(h:bG m x y):bG m y x:=Eq.symm h
theorem bG.trans{m x y z:Nat}(h:bG m x y)(k:bG m y z):bG m x z:=Eq.trans h k
theorem bG.add{m a b c d:Nat}(h:bG m a b)(k:bG m c d):bG m (a+c) (b+d):=by unfold bG at *;omega
theorem bG.mul{m a b c d:Nat}(h:bG m a b)(k:bG m c d):bG m (a*c) (b*d):=by
 unfold bG at *
 by_cases hab:a=b
 ·by_cases hcd:c=d
  ·rw[hab,hcd]
  ·subst hab
   have h1:m<=c:=by omega
   have h2:m<=d:=by omega
   by_cases ha:a=0
   ·rw[ha];simp
   ·have e1:m<=a*c:=Nat.le_trans h1 (Nat.le_mul_of_pos_left c (by omega))
    have e2:m<=a*d:=Nat.le_trans h2 (Nat.le_mul_of_pos_left d (by omega))
    omega
 ·have h1:m<=a:=by omega
  have h2:m<=b:=by omega
  by_cases hc:c=0
  ·have:d=0\/m=0:=by omega
   rcases this with h|h
   ·rw[hc,h];simp
   ·rw[h];simp
  ·by_cases hd:d=0
   ·have:m=0:=by omega
    rw[this];simp
   ·have e1:m<=a*c:=Nat.le_trans h1 (Nat.le_mul_of_pos_right a (by omega))
    have e2:m<=b*d:=Nat.le_trans h2 (Nat.le_mul_of_pos_right b (by omega))
    omega
theorem bG.min(m x:Nat):bG m (Nat.min x m) x:=by unfold bG;show Nat.min (Nat.min x m) m=Nat.min x m;simp[Nat.min_def];split <;> omega
theorem bG.le{m n x y:Nat}(h:bG m x y)(hn:n<=m):bG n x y:=by unfold bG at *;omega
def bc(F:Nat->Nat):Nat->Nat
 |0=>0
 |k+1=>bc F k+F k
theorem AJ{m:Nat}{F G:Nat->Nat}:∀ {n:Nat},(∀ k,k<n->bG m (F k) (G k))->bG m (bc F n) (bc G n):=by
 intro n
 induction n with
 |zero=>intro _;exact bG.pd
 |succ n ih=>intro h;exact(ih (λk hk=>h k (by omega))).add (h n (by omega))
theorem kb{F G:Nat->Nat}:∀ {n:Nat},(∀ k,k<n->F k=G k)->bc F n=bc G n:=by
 intro n
 induction n with
 |zero=>intro _;rfl
 |succ n ih=>intro h;rw[bc,bc,ih (λk hk=>h k (by omega)),h n (by omega)]
theorem fS{F:Nat->Nat}{n:Nat}(h:∀ k,k<n->F k=0):bc F n=0:=by
 rw[kb (G:=λ_=>0) h]
 induction n with
 |zero=>rfl
 |succ n ih=>rw[bc,ih (λk hk=>h k (by omega))]
theorem nC{F:Nat->Nat}{n:Nat}(h:bc F n≠0):∃ k,k<n/\F k≠0:=by
 apply Classical.byContradiction
 intro hn
 refine h (fS λk hk=>?_)
 apply Classical.byContradiction
 intro h0
 exact hn ⟨k,hk,h0⟩
theorem M0{F:Nat->Nat}{a b:Nat}(h:a<=b):bc F a<=bc F b:=by
 induction b with
 |zero=>
  have:a=0:=by omega
  subst this;exact Nat.le_refl _
 |succ b ih=>
  by_cases e:a=b+1
  ·subst e;exact Nat.le_refl _
  ·rw[bc];exact Nat.le_trans (ih (by omega)) (Nat.le_add_right _ _)
theorem qw{F:Nat->Nat}{a n:Nat}(h:∀ k,k<a->F k=0)(ha:a<=n):bc F n=bc (λk=>F (a+k)) (n-a):=by
 obtain⟨b,rfl⟩:∃ b,n=a+b:=⟨n-a,by omega⟩
 rw[Nat.add_sub_cancel_left]
 induction b with
 |zero=>rw[Nat.add_zero,fS h];rfl
 |succ b ih=>rw[<-Nat.add_assoc,bc,bc,ih (by omega)]
theorem DU{F:Nat->Nat}{a n:Nat}(ha:a<=n)(h:∀ k,a<=k->k<n->F k=0):bc F n=bc F a:=by
 obtain⟨b,rfl⟩:∃ b,n=a+b:=⟨n-a,by omega⟩
 induction b with
 |zero=>rfl
 |succ b ih=>rw[<-Nat.add_assoc,bc,ih (by omega) (λk h1 h2=>h k h1 (by omega)),h (a+b) (by omega) (by omega),Nat.add_zero]
abbrev Tb:=Nat->Nat->Nat->Nat
def a7(row:List Int)(f:Tb):List fM->Nat->Nat->Nat
 |[],i,j=>if i=j then 1 else 0
 |s::r,i,j=>if s.1=false then(if i<j/\row[i]?=some s.2 then a7 row f r (i+1) j else 0)else bc (λk=>f s.2.toNat i k*a7 row f r (i+k) j) (j+1-i)
theorem Kj{row:List Int}{m:Nat}{f f':Tb}(h:∀ s i k,bG m (f s i k) (f' s i k)):∀ (b:List fM) (i j:Nat),bG m (a7 row f b i j) (a7 row f' b i j):=by
 intro b
 induction b with
 |nil=>intro i j;exact bG.pd
 |cons s r ih=>
  intro i j
  simp only[a7]
  split
  ·split
   ·exact ih _ _
   ·exact bG.pd
  ·exact AJ λk _=>(h _ _ _).mul (ih _ _)
theorem M2{row:List Int}{f:Tb}:∀ (b:List fM) (i j:Nat),j<i->a7 row f b i j=0:=by
 intro b
 induction b with
 |nil=>intro i j h;simp only[a7];rw[if_neg (by omega)]
 |cons s r ih=>
  intro i j h
  simp only[a7]
  split
  ·rw[if_neg (by omega)]
  ·rw[show j+1-i=0 by omega];rfl
def Vb(ns:Nat)(b:List fM):Prop:=∀ s∈b,s.1=true->0<=s.2/\s.2<(ns:Int)
def Sound(d:List Int)(f:Tb):Prop:=∀ s i k,f s i k≠0->0<=at1 d s/\at1 d s<=(k:Int)
def Nul(d:List Int)(b:List fM):Prop:=∀ s∈b,s.1=true/\at1 d s.2.toNat=0
def shA(d:List Int):List fM->Int->Int
 |[],n=>n
 |s::b,n=>if s.1=false then shA d b (n+1)else if at1 d s.2.toNat<0 then -1 else shA d b (n+at1 d s.2.toNat)
theorem yv{row:List Int}{d:List Int}{f:Tb}(hs:Sound d f):∀ (b:List fM) (i j:Nat),a7 row f b i j≠0->i<=j/\∀ n:Int,0<=n->0<=shA d b n/\shA d b n<=n+((j:Int)-i):=by
 intro b
 induction b with
 |nil=>
  intro i j h
  simp only[a7]at h
  have:i=j:=by
   apply Classical.byContradiction
   intro hn;exact h (if_neg hn)
  exact⟨by omega,λn hn=>by simp only[shA];omega⟩
 |cons s r ih=>
  intro i j h
  simp only[a7]at h
  split at h
  ·rename_i ht
   split at h
   ·rename_i hi
    obtain⟨h1,h2⟩:=ih _ _ h
    refine⟨by omega,λn hn=>?_⟩
    simp only[shA]
    rw[if_pos ht]
    have:=h2 (n+1) (by omega)
    omega
   ·exact absurd rfl h
  ·rename_i ht
   obtain⟨k,hk,hm⟩:=nC h
   have h1:=hs _ _ _ (λe=>hm (by rw[e,Nat.zero_mul]))
   obtain⟨h2,h3⟩:=ih _ _ (λe=>hm (by rw[e,Nat.mul_zero]))
   refine⟨by omega,λn hn=>?_⟩
   simp only[shA]
   rw[if_neg ht,if_neg (by omega)]
   have:=h3 (n+at1 d s.2.toNat) (by omega)
   omega
theorem DV{row:List Int}{d:List Int}{f:Tb}(hs:Sound d f)(hd:d.length<=1000):∀ (b:List fM),Vb d.length b->∀ (i j:Nat),a7 row f b i j≠0->∀ n:Int,0<=n->n<=1073741824->0<=cf d b n/\cf d b n<=n+((j:Int)-i):=by
 intro b
 induction b with
 |nil=>
  intro _ i j h
  simp only[a7]at h
  have:i=j:=by
   apply Classical.byContradiction
   intro hn;exact h (if_neg hn)
  intro n hn _
  simp only[cf];omega
 |cons s r ih=>
  intro hv i j h
  have hv':Vb d.length r:=λx hx=>hv x (by simp[hx])
  have hij:=(yv hs _ _ _ h).1
  simp only[a7]at h
  split at h
  ·rename_i ht
   split at h
   ·rename_i hi
    intro n hn hn2
    simp only[cf]
    rw[if_pos ht]
    split
    ·have:=ih hv' _ _ h 1073741824 (by omega) (by omega)
     omega
    ·have:=ih hv' _ _ h (n+1) (by omega) (by omega)
     omega
   ·exact absurd rfl h
  ·rename_i ht
   obtain⟨k,hk,hm⟩:=nC h
   have h1:=hs _ _ _ (λe=>hm (by rw[e,Nat.zero_mul]))
   have h3:a7 row f r (i+k) j≠0:=λe=>hm (by rw[e,Nat.mul_zero])
   intro n hn hn2
   simp only[cf]
   obtain⟨v1,v2⟩:=hv s (by simp) (by simpa using ht)
   have e1:d.getD s.2.toNat (-1)=at1 d s.2.toNat:=rfl
   rw[if_neg ht,e1,if_neg (by omega)]
   split
   ·have:=ih hv' _ _ h3 1073741824 (by omega) (by omega)
    omega
   ·have:=ih hv' _ _ h3 (n+at1 d s.2.toNat) (by omega) (by omega)
    omega
theorem pe{row:List Int}{d:List Int}{f:Tb}(hs:Sound d f):∀ (b:List fM) (j:Nat),a7 row f b j j≠0->Nul d b:=by
 intro b
 induction b with
 |nil=>intro j _ s h;simp at h
 |cons s r ih=>
  intro j h
  simp only[a7]at h
  split at h
  ·rw[if_neg (by omega)]at h;exact absurd rfl h
  ·rename_i ht
   obtain⟨k,hk,hm⟩:=nC h
   have:k=0:=by omega
   subst this
   have h1:=hs _ _ _ (λe=>hm (by rw[e,Nat.zero_mul]))
   have h3:=ih j (λe=>hm (by rw[Nat.add_zero,e,Nat.mul_zero]))
   intro x hx
   rcases List.mem_cons.1 hx with rfl|hx
   ·exact⟨by simpa using ht,by omega⟩
   ·exact h3 x hx
theorem DW{d:List Int}:∀ (b:List fM),Nul d b->Vb d.length b->∀ n:Int,n<=1073741824->cf d b n=n:=by
 intro b
 induction b with
 |nil=>intro _ _ n _;rfl
 |cons s r ih=>
  intro hn hv n h
  obtain⟨h1,h2⟩:=hn s (by simp)
  obtain⟨v1,v2⟩:=hv s (by simp) h1
  simp only[cf]
  have e1:d.getD s.2.toNat (-1)=at1 d s.2.toNat:=rfl
  rw[if_neg (by rw[h1];simp),e1,if_neg (by omega),h2,Int.add_zero,if_neg (by omega)]
  exact ih (λx hx=>hn x (by simp[hx])) (λx hx=>hv x (by simp[hx])) n h
theorem yw{d:List Int}{ps:List Prd}{p:Prd}(hp:p∈ps){s s0:Nat}(hs:p.1=(s:Int))(hsl:s<d.length){pre post:List fM}{x:fM}(hb:p.2.2.1=pre++x::post)(hv:Vb d.length p.2.2.1)(hx:x.1=true)(hx2:x.2.toNat=s0)(h1:Nul d pre)(h2:Nul d post):Edge d d.length ps s s0:=by
 have hxv:=hv x (by rw[hb];simp) hx
 refine⟨p,hp,pre.length,by rw[hb];simp,hs,hsl,by omega,x,by rw[hb];simp,hx,by omega,?_⟩
 have:rest p.2.2.1 pre.length=pre++post:=by
  unfold rest
  rw[hb,List.take_left,List.drop_append]
  simp
 rw[this]
 refine DW _ (λy hy=>?_) (λy hy=>hv y ?_) 0 (by omega)
 ·rcases List.mem_append.1 hy with h|h
  ·exact h1 y h
  ·exact h2 y h
 ·rw[hb]
  rcases List.mem_append.1 hy with h|h
  ·simp[h]
  ·simp[h]
theorem DX{row:List Int}{T T':Tb}{s0 f n:Nat}(hag:∀ s i k,¬(s=s0/\i=f/\k=n)->T s i k=T' s i k):∀ (b:List fM) (i j:Nat),f<i->a7 row T b i j=a7 row T' b i j:=by
 intro b
 induction b with
 |nil=>intro i j _;rfl
 |cons s r ih=>
  intro i j h
  simp only[a7]
  split
  ·split
   ·exact ih _ _ (by omega)
   ·rfl
  ·refine kb λk _=>?_
   rw[ih _ _ (by omega),hag _ _ _ (λe=>by omega)]
theorem Hg{row:List Int}{d:List Int}{T T':Tb}(hs:Sound d T)(hs':Sound d T'){s0 f n:Nat}(hag:∀ s i k,¬(s=s0/\i=f/\k=n)->T s i k=T' s i k){body:List fM}
 (hne:∀ pre x post,body=pre++x::post->x.1=true->x.2.toNat=s0->Nul d pre->Nul d post->False):∀ (r pre:List fM),body=pre++r->Nul d pre->a7 row T r f (f+n)=a7 row T' r f (f+n):=by
 intro r
 induction r with
 |nil=>intro pre _ _;rfl
 |cons s r ih=>
  intro pre hb hn
  simp only[a7]
  split
  ·split
   ·exact DX hag _ _ _ (by omega)
   ·rfl
  ·rename_i ht
   have ht:s.1=true:=by simpa using ht
   refine kb λk hk=>?_
   by_cases e:s.2.toNat=s0/\k=n
   ·obtain⟨e1,rfl⟩:=e
    have z:a7 row T r (f+k) (f+k)=0:=by
     apply Classical.byContradiction
     intro h0
     exact hne pre s r hb ht e1 hn (pe hs _ _ h0)
    have z':a7 row T' r (f+k) (f+k)=0:=by
     apply Classical.byContradiction
     intro h0
     exact hne pre s r hb ht e1 hn (pe hs' _ _ h0)
    rw[z,z',Nat.mul_zero,Nat.mul_zero]
   ·have hT:T s.2.toNat f k=T' s.2.toNat f k:=hag _ _ _ (λh=>e ⟨h.1,h.2.2⟩)
    by_cases hk0:k=0
    ·subst hk0
     by_cases h0:T s.2.toNat f 0=0
     ·rw[<-hT,h0,Nat.zero_mul,Nat.zero_mul]
     ·have:=hs _ _ _ h0
      rw[hT,Nat.add_zero,ih (pre++[s]) (by rw[hb];simp) (λx hx=>by
       rcases List.mem_append.1 hx with hx|hx
       ·exact hn x hx
       ·simp at hx;subst hx;exact⟨ht,by omega⟩)]
    ·rw[hT,DX hag _ _ _ (by omega)]
end
noncomputable section
def dQ(row:List Int)(T:Tb)(ps:List Prd)(s i k:Nat):Nat->Nat:=λj=>match ps[j]? with
 |some p=>if p.1=(s:Int)then a7 row T p.2.2.1 i (i+k)else 0
 |none=>0
def sg(row:List Int)(T:Tb)(ps:List Prd)(s i k:Nat):Nat:=bc (dQ row T ps s i k) ps.length
def jM(T:Tb)(s0 f n v:Nat):Tb:=λs i k=>if s=s0/\i=f/\k=n then v else T s i k
theorem kc(T:Tb)(s0 f n v:Nat):jM T s0 f n v s0 f n=v:=if_pos ⟨rfl,rfl,rfl⟩
theorem ke{T:Tb}{s0 f n v s i k:Nat}(h:¬(s=s0/\i=f/\k=n)):jM T s0 f n v s i k=T s i k:=if_neg h
def rk(E:Nat->Nat->Prop)(ns s:Nat):Nat:=(List.range ns).countP λx=>tf (Way E s x)
theorem DY(E:Nat->Nat->Prop)(ns s:Nat):rk E ns s<=ns:=Nat.le_trans List.countP_le_length (by simp)
theorem HN{E:Nat->Nat->Prop}{ns:Nat}(hno:∀ i,i<ns->¬Way E i i){s s':Nat}(h:E s s')(hs:s' < ns):rk E ns s' < rk E ns s:=by
 unfold rk
 refine lV (i:=s') (λk hk=>?_) (by simpa using hs) (o7 (.one h)) (o8 (hno s' hs))
 rw[J3]at hk
 exact o7 (.more h hk)
structure pg(d:List Int)(ps:List Prd):Prop where
 dl:d.length<=100
 vb:∀ p∈ps,Vb d.length p.2.2.1
 no:∀ i,i<d.length->¬Way (Edge d d.length ps) i i
 cl:Closed ps d.length d
variable {row:List Int} {d:List Int} {ps:List Prd}
def qx(row:List Int)(ps:List Prd)(M:Nat)(T:Tb)(s i k:Nat):Prop:=T s i k=Nat.min (sg row T ps s i k) M
theorem AK{T:Tb}{s i k j:Nat}(h:dQ row T ps s i k j≠0):∃ p∈ps,p.1=(s:Int)/\a7 row T p.2.2.1 i (i+k)≠0:=by
 unfold dQ at h
 cases hp:ps[j]? with
 |none=>rw[hp]at h;exact absurd rfl h
 |some p=>
  rw[hp]at h
  simp only at h
  split at h
  ·exact⟨p,List.mem_of_getElem? hp,by assumption,h⟩
  ·exact absurd rfl h
theorem AL(b:pg d ps){T:Tb}(hs:Sound d T){s i k:Nat}(hsl:s<d.length)(h:sg row T ps s i k≠0):0<=at1 d s/\at1 d s<=(k:Int):=by
 obtain⟨j,_,hj⟩:=nC h
 obtain⟨p,hp,h1,h2⟩:=AK hj
 have hl:=DV hs (by have:=b.dl;omega) _ (b.vb p hp) _ _ h2 0 (by omega) (by omega)
 have hg:=b.cl.no p hp
 unfold gA at hg
 have e:p.1.toNat=s:=by omega
 rw[e]at hg
 omega
theorem AM{T:Tb}(hs:Sound d T){s0 f n v:Nat}(h:v≠0->0<=at1 d s0/\at1 d s0<=(n:Int)):Sound d (jM T s0 f n v):=by
 intro s i k hne
 by_cases e:s=s0/\i=f/\k=n
 ·obtain⟨rfl,rfl,rfl⟩:=e
  rw[kc]at hne
  exact h hne
 ·rw[ke e]at hne
  exact hs s i k hne
theorem pi(b:pg d ps){T:Tb}(hs:Sound d T){s0 f n v:Nat}(hs':Sound d (jM T s0 f n v)){s i k:Nat}(hsl:s<d.length)(hk:k<=n)(hne:k=n->i=f->¬Edge d d.length ps s s0):sg row (jM T s0 f n v) ps s i k=sg row T ps s i k:=by
 unfold sg
 refine kb λj hj=>?_
 unfold dQ
 cases hp:ps[j]? with
 |none=>rfl
 |some p=>
  simp only
  split
  ·rename_i h1
   have hm:=List.mem_of_getElem? hp
   have hag:∀ s i k,¬(s=s0/\i=f/\k=n)->jM T s0 f n v s i k=T s i k:=λ_ _ _ h=>ke h
   by_cases e:k=n/\i=f
   ·obtain⟨rfl,rfl⟩:=e
    exact Hg hs' hs hag (body:=p.2.2.1) (λpre x post e1 e2 e3 e4 e5=>hne rfl rfl (yw hm h1 hsl e1 (b.vb p hm) e2 e3 e4 e5)) p.2.2.1 [] rfl (λx hx=>by simp at hx)
   ·-- a part Mz is too short,or Pm Kk
    have key:∀ (r:List fM) (i':Nat),i<=i'->a7 row (jM T s0 f n v) r i' (i+k)=a7 row T r i' (i+k):=by
     intro r
     induction r with
     |nil=>intro i' _;rfl
     |cons x r ih=>
      intro i' hi'
      simp only[a7]
      split
      ·split
       ·exact ih _ (by omega)
       ·rfl
      ·refine kb λq hq=>?_
       rw[ih _ (by omega),hag _ _ _ (λh=>e ?_)]
       omega
    exact key _ _ (Nat.le_refl _)
  ·rfl
structure ij(row:List Int)(d:List Int)(ps:List Prd)(M N n:Nat)(done:Nat->Nat->Nat)(T:Tb):Prop where
 sd:Sound d T
 lo:∀ s i k,s<d.length->k<n->i+k<=N->qx row ps M T s i k
 hi:∀ s i,s<d.length->i+n<=N->rk (Edge d d.length ps) d.length s<done s i->qx row ps M T s i n
 le:∀ s i k,T s i k<=M
theorem ij.step(b:pg d ps){M N n:Nat}{done qy:Nat->Nat->Nat}{T:Tb}(h:ij row d ps M N n done T){s0 f:Nat}(hs0:s0<d.length)(hf:f+n<=N)
 (hd:∀ s i,¬(s=s0/\i=f)->qy s i=done s i) (hr:qy s0 f=done s0 f+1) (hr2:∀ s,done s f<=done s0 f+1):ij row d ps M N n qy (jM T s0 f n (Nat.min (sg row T ps s0 f n) M)):=by
 have hsd:Sound d (jM T s0 f n (Nat.min (sg row T ps s0 f n) M)):=AM h.sd λhne=>AL b h.sd (i:=f) (row:=row) hs0 (λe=>hne (by rw[e];exact Nat.zero_min M))
 refine⟨hsd,λs i k hs hk hi=>?_,λs i hs hi hrk=>?_,λs i k=>?_⟩
 ·have hne:¬(s=s0/\i=f/\k=n):=λe=>by omega
  unfold qx
  rw[ke hne,pi b h.sd hsd hs (by omega) (λe=>by omega)]
  exact h.lo s i k hs hk hi
 ·by_cases e:s=s0/\i=f
  ·obtain⟨rfl,rfl⟩:=e
   unfold qx
   rw[kc,pi b h.sd hsd hs (Nat.le_refl _) (λ_ _ he=>b.no s hs (.one he))]
  ·rw[hd s i e]at hrk
   have Fs:=h.hi s i hs hi hrk
   have hne:¬(s=s0/\i=f/\n=n):=λh=>e ⟨h.1,h.2.1⟩
   unfold qx
   rw[ke hne]
   by_cases he:i=f/\Edge d d.length ps s s0
   ·obtain⟨rfl,he⟩:=he
    have hlt:=HN b.no he hs0
    have h2:=hr2 s
    have hf0:=h.hi s0 i hs0 hf (by omega)
    have same:jM T s0 i n (Nat.min (sg row T ps s0 i n) M)=T:=by
     funext s1 i1 k1
     by_cases e1:s1=s0/\i1=i/\k1=n
     ·obtain⟨rfl,rfl,rfl⟩:=e1
      rw[kc];exact hf0.symm
     ·exact ke e1
    rw[same]
    exact Fs
   ·rw[pi b h.sd hsd hs (Nat.le_refl _) (λ_ e1 e2=>he ⟨e1,e2⟩)]
    exact Fs
 ·by_cases e:s=s0/\i=f/\k=n
  ·obtain⟨rfl,rfl,rfl⟩:=e
   rw[kc];exact Nat.min_le_right _ _
  ·rw[ke e];exact h.le s i k
theorem ij.next{M N n:Nat}{done:Nat->Nat->Nat}{T:Tb}(h:ij row d ps M N n done T)(hd:∀ s i,s<d.length->i+n<=N->d.length<done s i):ij row d ps M N (n+1) (λ_ _=>0) T where
 sd:=h.sd
 lo:=λs i k hs hk hi=>by
  by_cases e:k=n
  ·subst e
   refine h.hi s i hs hi ?_
   have:=DY (Edge d d.length ps) d.length s
   have:=hd s i hs hi
   omega
  ·exact h.lo s i k hs (by omega) hi
 hi:=λs i _ _ h=>by omega
 le:=h.le
theorem ij.start{M N:Nat}:ij row d ps M N 0 (λ_ _=>0) (λ_ _ _=>0) where
 sd:=λs i k h=>absurd rfl h
 lo:=λs i k _ h=>by omega
 hi:=λs i _ _ h=>by omega
 le:=λ_ _ _=>Nat.zero_le _
theorem ij.congr{M N n:Nat}{done qy:Nat->Nat->Nat}{T:Tb}(h:ij row d ps M N n done T)(hd:∀ s i,s<d.length->i+n<=N->qy s i<=done s i):ij row d ps M N n qy T where
 sd:=h.sd
 lo:=h.lo
 hi:=λs i hs hi hr=>h.hi s i hs hi (Nat.lt_of_lt_of_le hr (hd s i hs hi))
 le:=h.le
end
noncomputable section
def dX(c:Nat->Nat)(n:Nat):List Int:=(List.range (n+1)).map λk=>((c k:Nat):Int)
theorem lB(c:Nat->Nat)(n:Nat):(dX c n).length=n+1:=by simp[dX]
theorem bK(c:Nat->Nat){n k:Nat}(h:k<=n):(dX c n)[k]?=some ((c k:Nat):Int):=by
 unfold dX
 rw[List.getElem?_map,List.getElem?_range (by omega)]
 rfl
def kC(c:Nat->Nat)(b v:Nat):Nat->Nat:=λa=>if a=b then v else c a
theorem lC(c:Nat->Nat){n k:Nat}(h:k<=n)(v:Nat):(dX c n).set k (v:Int)=dX (kC c k v) n:=by
 apply List.ext_getElem?
 intro i
 rw[List.getElem?_set,lB]
 by_cases hi:i<=n
 ·rw[bK _ hi,bK _ hi]
  unfold kC
  by_cases e:k=i
  ·subst e;rw[if_pos rfl,if_pos (by omega),if_pos rfl]
  ·rw[if_neg e,if_neg (λh=>e h.symm)]
 ·rw[List.getElem?_eq_none (by rw[lB];omega),List.getElem?_eq_none (by rw[lB];omega),if_neg (by omega)]
theorem qz(n:Nat):List.replicate (n+1) (0:Int)=dX (λ_=>0) n:=by
 apply List.ext_getElem?
 intro i
 by_cases hi:i<=n
 ·rw[bK _ hi,List.getElem?_replicate,if_pos (by omega)];rfl
 ·rw[List.getElem?_eq_none (by rw[List.length_replicate];omega),List.getElem?_eq_none (by rw[lB];omega)]
def jN(T:Tb)(s N:Nat):List (List Int):=(List.range (N+1)).map λi=>dX (T s i) N
theorem pj(T:Tb)(s N:Nat):(jN T s N).length=N+1:=by simp[jN]
theorem dR(T:Tb){s N i:Nat}(h:i<=N):(jN T s N)[i]?=some (dX (T s i) N):=by
 unfold jN
 rw[List.getElem?_map,List.getElem?_range (by omega)]
 rfl
def tab(T:Tb)(ns N:Nat):List (List (List Int)):=(List.range ns).map λs=>jN T s N
theorem nD(T:Tb)(ns N:Nat):(tab T ns N).length=ns:=by simp[tab]
theorem fg(T:Tb){ns N s:Nat}(h:s<ns):(tab T ns N)[s]?=some (jN T s N):=by
 unfold tab
 rw[List.getElem?_map,List.getElem?_range h]
 rfl
theorem DZ{T:Tb}{s i k v:Nat}:jM T s i k v s i=kC (T s i) k v:=by
 funext a
 unfold jM kC
 simp
theorem D1(T:Tb){s N i k:Nat}(h:i<=N)(v:Nat):(jN T s N).set i (dX (kC (T s i) k v) N)=jN (jM T s i k v) s N:=by
 apply List.ext_getElem?
 intro j
 rw[List.getElem?_set,pj]
 by_cases hj:j<=N
 ·rw[dR _ hj,dR _ hj]
  by_cases e:i=j
  ·subst e;rw[if_pos rfl,if_pos (by omega),DZ]
  ·rw[if_neg e]
   congr 2
   funext a
   unfold jM
   rw[if_neg (λh=>e h.2.1.symm)]
 ·rw[List.getElem?_eq_none (by rw[pj];omega),List.getElem?_eq_none (by rw[pj];omega),if_neg (by omega)]
theorem Hh(T:Tb){ns N s i k:Nat}(h:s<ns)(v:Nat):(tab T ns N).set s (jN (jM T s i k v) s N)=tab (jM T s i k v) ns N:=by
 apply List.ext_getElem?
 intro j
 rw[List.getElem?_set,nD]
 by_cases hj:j<ns
 ·rw[fg _ hj,fg _ hj]
  by_cases e:s=j
  ·subst e;rw[if_pos rfl,if_pos hj]
  ·rw[if_neg e]
   congr 1
   unfold jN
   congr 1
   funext i'
   congr 1
   funext a
   unfold jM
   rw[if_neg (λh=>e h.1.symm)]
 ·rw[List.getElem?_eq_none (by rw[nD];omega),List.getElem?_eq_none (by rw[nD];omega),if_neg (by omega)]
theorem uZ{x:Nat}(h:x<9223372036854775808):IntKind.wrap .i64 (x:Int)=(x:Int):=aJ (by omega) (by omega)
theorem w6{M x:Nat}(h:x<9223372036854775808):(if(M:Int)<IntKind.wrap .i64 (x:Int)then(M:Int)else IntKind.wrap .i64 (x:Int))=((Nat.min x M:Nat):Int):=by
 rw[uZ h]
 show _=((min x M:Nat):Int)
 rw[Nat.min_def]
 split <;> split <;> omega
theorem yx{M:Nat}{c w:Nat->Nat}{b v x:Nat}(hv:bG M v (c b+x)):∀ n,bG M (bc (λa=>kC c b v a*w a) n) (bc (λa=>c a*w a) n+if b<n then x*w b else 0):=by
 intro n
 induction n with
 |zero=>exact bG.pd
 |succ n ih=>
  simp only[bc]
  by_cases e:n=b
  ·subst e
   rw[if_neg (by omega),Nat.add_zero]at ih
   rw[if_pos (by omega)]
   have h1:kC c n v n=v:=if_pos rfl
   rw[h1]
   have h2:=ih.add (hv.mul (bG.pd (m:=M) (x:=w n)))
   rw[Nat.add_mul]at h2
   rw[Nat.add_assoc]
   exact h2
  ·have h1:kC c b v n=c n:=if_neg e
   rw[h1]
   have h2:=ih.add (bG.pd (m:=M) (x:=c n*w n))
   by_cases hb:b<n
   ·rw[if_pos hb]at h2
    rw[if_pos (by omega)]
    rw[Nat.add_right_comm]
    exact h2
   ·rw[if_neg hb]at h2
    rw[if_neg (by omega)]
    exact h2
theorem si{M:Nat}{c:Nat->Nat}(h:∀ a,c a<=M){b v:Nat}(hv:v<=M):∀ a,kC c b v a<=M:=by
 intro a
 unfold kC
 split
 ·exact hv
 ·exact h a
theorem u0{a b M:Nat}(ha:a<=M)(hb:b<=M)(hM:M<=1000):a*b<=1000000:=by
 have:=Nat.mul_le_mul (Nat.le_trans ha hM) (Nat.le_trans hb hM)
 omega
theorem J6{T:Tb}{ns N M:Nat}(hN:N<=1000)(hM:M<=1000)(hM1:1<=M)(hle:∀ s i k,T s i k<=M){body:List fM}(hv:Vb ns body)(hbl:body.length<=1000){row:List Int}(bP:row.length=N){f n:Nat}(hfn:f+n<=N):
 p41 N0 (tab T ns N,(body,(row,((f:Int),((n:Int),((M:Int),()))))))=some ((((Nat.min (a7 row T body f (f+n)) M:Nat):Int),()),()):=by
 have hw1:IntKind.wrap .i64 ((n:Int)+1)=((n+1:Nat):Int):=aO (by omega)
 have h0:(0:Int)<=((n+1:Nat):Int):=by omega
 have z0:((0:Int)).toNat=0:=rfl
 unfold p41
 simp only[hw1,Int.toNat_natCast,qz]
 rw[if_pos ⟨h0,Int.le_refl _⟩,if_pos (by omega),if_pos (Int.le_refl _),z0,bK _ (Nat.zero_le n)]
 simp only
 rw[if_pos (Int.le_refl _)]
 have hs1:(dX (λ_=>0) n).set 0 (1:Int)=dX (kC (λ_=>0) 0 1) n:=lC _ (Nat.zero_le _) 1
 rw[hs1]
 let tot:=a7 row T body f (f+n)
 refine au (λm x q=>∃ (j:Nat) (c:Nat->Nat),x=((),(dX c n,((j:Int),())))/\m+j=body.length/\(∀ a,c a<=M)/\bG M (bc (λa=>c a*a7 row T (body.drop j) (f+a) (f+n)) (n+1)) tot/\q=some ((((Nat.min tot M:Nat):Int),()),())) ?_ N0 body.length _ _ (by unfold N0;omega) ⟨0,_,rfl,rfl,si (λ_=>Nat.zero_le _) hM1,?_,rfl⟩
 ·rintro m x q ⟨j,c,rfl,hm,hc,AN,rfl⟩ k hk
  simp only[Int.toNat_natCast]
  rcases Nat.lt_or_ge j body.length with hj|hj
  ·have hgj:body[j]?=some body[j]:=List.getElem?_eq_getElem hj
   have hdr:body.drop j=body[j]::body.drop (j+1):=List.drop_eq_getElem_cons hj
   have hvs:=hv _ (List.getElem_mem hj)
   generalize body[j]=sy at hgj hdr hvs
   rw[decide_eq_true (show(j:Int)<((body.length:Nat):Int) by omega),cond_true]
   let w:Nat->Nat:=λa=>a7 row T (body.drop j) (f+a) (f+n)
   let w':Nat->Nat:=λa=>a7 row T (body.drop (j+1)) (f+a) (f+n)
   rw[if_pos ⟨h0,Int.le_refl _⟩,if_pos (by omega)]
   refine au (λm x q=>∃ (a:Nat) (c':Nat->Nat),x=((dX c n,(dX c' n,())),((a:Int),()))/\m+a=n+1/\(∀ b,c' b<=M)/\bG M (bc (λb=>c' b*w' b) (n+1)) (bc (λb=>c b*w b) a)/\q=some ((((Nat.min tot M:Nat):Int),()),())) ?_ N0 (n+1) _ _ (by unfold N0;omega) ⟨0,λ_=>0,rfl,rfl,λ_=>Nat.zero_le _,by rw[fS (λb _=>by rw[Nat.zero_mul])];exact bG.pd,rfl⟩
   rintro m2 x q ⟨a,c',rfl,hm2,hc',hs',rfl⟩ k2 hk2
   simp only[Int.toNat_natCast]
   rcases Nat.lt_or_ge n a with ha|ha
   ·rw[decide_eq_false (show ¬(a:Int)<=(n:Int) by omega),cond_false,aO (by omega)]
    have:a=n+1:=by omega
    subst this
    exact hk (m-1) _ _ (by omega) ⟨j+1,c',rfl,by omega,hc',hs'.trans AN,rfl⟩
   ·rw[decide_eq_true (show(a:Int)<=(n:Int) by omega),cond_true]
    have fin:∀ c2:Nat->Nat,(∀ b,c2 b<=M)->bG M (bc (λb=>c2 b*w' b) (n+1)) (bc (λb=>c b*w b) a+c a*w a)->k2 ((dX c n,(dX c2 n,())),(((a+1:Nat):Int),()))=some ((((Nat.min tot M:Nat):Int),()),()):=λc2 h1 h2=>hk2 (m2-1) _ _ (by omega) ⟨a+1,c2,rfl,by omega,h1,h2,rfl⟩
    refine cH (P:=λz=>z=some ((((Nat.min tot M:Nat):Int),()),())) λK hK=>?_
    rw[if_pos (by omega),bK c ha]
    simp only
    have out:∀ c2:Nat->Nat,(∀ b,c2 b<=M)->bG M (bc (λb=>c2 b*w' b) (n+1)) (bc (λb=>c b*w b) a+c a*w a)->K ((dX c n,(dX c2 n,())),())=some ((((Nat.min tot M:Nat):Int),()),()):=λc2 h1 h2=>by
     rw[hK]
     simp only
     rw[aO (by omega)]
     exact fin c2 h1 h2
    by_cases hz:c a=0
    ·rw[decide_eq_true (show((c a:Nat):Int)=0 by omega),cond_true]
     exact out c' hc' (by rw[hz,Nat.zero_mul];exact hs')
    ·rw[decide_eq_false (show ¬((c a:Nat):Int)=0 by omega),cond_false,if_pos (by omega),hgj]
     simp only
     obtain⟨sb,sn⟩:=sy
     cases sb
     ·-- a token
      simp only
      rw[Bool.not_false,cond_true,aO (by omega)]
      have hwa:w a=if f+a<f+n/\row[f+a]?=some sn then w' (a+1)else 0:=by
       show a7 row T (body.drop j) (f+a) (f+n)=_
       rw[hdr]
       simp only[a7]
       rfl
      refine cH (P:=λz=>z=some ((((Nat.min tot M:Nat):Int),()),())) λK3 hK3=>?_
      have go:∀ t:Bool,(t=true↔(f+a<f+n/\row[f+a]?=some sn))->K3 ((dX c n,(dX c' n,())),(t,()))=some ((((Nat.min tot M:Nat):Int),()),()):=by
       intro t ht
       rw[hK3]
       simp only
       refine cH (P:=λz=>z=some ((((Nat.min tot M:Nat):Int),()),())) λK4 hK4=>?_
       cases t
       ·rw[cond_false,hK4]
        simp only
        refine out c' hc' ?_
        rw[hwa,if_neg (λh=>by cases ht.2 h),Nat.mul_zero]
        exact hs'
       ·have h2:=ht.1 rfl
        have han:a+1<=n:=by omega
        rw[cond_true,if_pos (by omega),Int.toNat_natCast,bK c' han]
        simp only
        rw[if_pos (by omega),bK c ha]
        simp only
        have hca:=hc a
        have hcb:=hc' (a+1)
        rw[if_pos (by omega),if_pos (by omega),show((c' (a+1):Nat):Int)+((c a:Nat):Int)=((c' (a+1)+c a:Nat):Int) by omega,w6 (by omega),lC _ han,hK4]
        simp only
        refine out _ (si hc' (Nat.min_le_right _ _)) ?_
        have hp:=yx (c:=c') (b:=a+1) (x:=c a) (w:=w') (bG.min M (c' (a+1)+c a)) (n+1)
        rw[if_pos (by omega)]at hp
        rw[hwa,if_pos h2]
        exact hp.trans (hs'.add bG.pd)
      by_cases han:a<n
      ·rw[decide_eq_true (show(a:Int)<(n:Int) by omega),cond_true]
       have hfa:IntKind.wrap .i64 ((f:Int)+(a:Int))=((f+a:Nat):Int):=by rw[show(f:Int)+(a:Int)=((f+a:Nat):Int) by omega];exact uZ (by omega)
       have hra:row[f+a]?=some (row[f+a]'(by omega)):=List.getElem?_eq_getElem _
       rw[hfa,if_pos (by omega),Int.toNat_natCast,hra]
       simp only
       rw[if_pos (by omega)]
       refine go _ ?_
       rw[decide_eq_true_eq]
       constructor
       ·intro e;exact⟨by omega,by rw[hra,e]⟩
       ·rintro⟨_,e⟩;rw[hra]at e;injection e
      ·rw[decide_eq_false (show ¬(a:Int)<(n:Int) by omega),cond_false]
       exact go false ⟨λh=>(by cases h),λh=>(by omega)⟩
     ·-- a sort
      simp only
      rw[Bool.not_true,cond_false]
      obtain⟨v1,v2⟩:=hvs rfl
      simp only at v1 v2
      obtain⟨s,rfl⟩:∃ s:Nat,sn=(s:Int):=⟨sn.toNat,by omega⟩
      have hs:s<ns:=by omega
      have hwa:w a=bc (λk=>T s (f+a) k*w' (a+k)) (n+1-a):=by
       show a7 row T (body.drop j) (f+a) (f+n)=_
       rw[hdr]
       simp only[a7]
       rw[if_neg (by simp),show f+n+1-(f+a)=n+1-a by omega]
       refine kb λk _=>?_
       show _=T s (f+a) k*a7 row T (body.drop (j+1)) (f+(a+k)) (f+n)
       rw[Int.toNat_natCast,Nat.add_assoc]
      refine au (λm x q=>∃ (e:Nat) (c2:Nat->Nat),x=((dX c n,(dX c2 n,())),(((a+e:Nat):Int),()))/\m+(a+e)=n+1/\(∀ b,c2 b<=M)/\bG M (bc (λb=>c2 b*w' b) (n+1)) (bc (λb=>c b*w b) a+c a*bc (λk=>T s (f+a) k*w' (a+k)) e)/\q=some ((((Nat.min tot M:Nat):Int),()),())) ?_ N0 (n+1-a) _ _ (by unfold N0;omega) ⟨0,c',rfl,by omega,hc',by simp only[bc,Nat.mul_zero,Nat.add_zero];exact hs',rfl⟩
      rintro m3 x q ⟨e,c2,rfl,hm3,hc2,hs2,rfl⟩ k3 hk3
      simp only[Int.toNat_natCast]
      rcases Nat.lt_or_ge n (a+e)with he|he
      ·rw[decide_eq_false (show ¬((a+e:Nat):Int)<=(n:Int) by omega),cond_false]
       refine out c2 hc2 ?_
       rw[hwa,show n+1-a=e by omega]
       exact hs2
      ·have hfa:IntKind.wrap .i64 ((f:Int)+(a:Int))=((f+a:Nat):Int):=by rw[show(f:Int)+(a:Int)=((f+a:Nat):Int) by omega];exact uZ (by omega)
       have hba:IntKind.wrap .i64 (((a+e:Nat):Int)-(a:Int))=((e:Nat):Int):=by rw[show((a+e:Nat):Int)-(a:Int)=((e:Nat):Int) by omega];exact uZ (by omega)
       have hT:=hle s (f+a) e
       have hca:=hc a
       have hcb:=hc2 (a+e)
       have hmul:=u0 hca hT hM
       rw[decide_eq_true (show((a+e:Nat):Int)<=(n:Int) by omega),cond_true,if_pos (by omega),bK c2 he]
       simp only
       rw[if_pos (by omega),bK c ha]
       simp only
       rw[if_pos (by omega)]
       rw[if_pos (by omega),fg T hs]
       simp only
       rw[hfa,if_pos (by omega),Int.toNat_natCast,dR T (show f+a<=N by omega)]
       simp only
       rw[hba,if_pos (by omega),Int.toNat_natCast,bK (T s (f+a)) (show e<=N by omega)]
       simp only
       rw[if_pos (by omega),if_pos (by omega)]
       rw[show((c a:Nat):Int)*((T s (f+a) e:Nat):Int)=((c a*T s (f+a) e:Nat):Int) by rw[Int.natCast_mul],w6 (by omega)]
       have Ir:Nat.min (c a*T s (f+a) e) M<=M:=Nat.min_le_right _ _
       rw[show((c2 (a+e):Nat):Int)+((Nat.min (c a*T s (f+a) e) M:Nat):Int)=((c2 (a+e)+Nat.min (c a*T s (f+a) e) M:Nat):Int) by omega,w6 (by omega),lC _ he]
       rw[show IntKind.wrap .i64 (((a+e:Nat):Int)+1)=((a+(e+1):Nat):Int)from aO (by omega)]
       refine hk3 (m3-1) _ _ (by omega) ⟨e+1,_,rfl,by omega,si hc2 (Nat.min_le_right _ _),?_,rfl⟩
       have hp:=yx (c:=c2) (w:=w') (x:=c a*T s (f+a) e) (b:=a+e) (((bG.min M _).trans (bG.pd.add (bG.min M _)))) (n+1)
       rw[if_pos (by omega)]at hp
       refine hp.trans ?_
       simp only[bc]
       rw[Nat.mul_add,<-Nat.add_assoc,<-Nat.mul_assoc]
       exact hs2.add bG.pd
  ·have:j=body.length:=by omega
   subst this
   rw[decide_eq_false (show ¬((body.length:Nat):Int)<((body.length:Nat):Int) by omega),cond_false,if_pos (by omega),bK c (Nat.le_refl n)]
   simp only
   have HH:bc (λa=>c a*a7 row T (body.drop body.length) (f+a) (f+n)) (n+1)=c n:=by
    rw[List.drop_length]
    simp only[bc,a7]
    rw[fS (λk hk=>by rw[if_neg (by omega),Nat.mul_zero])]
    simp
   rw[HH]at AN
   have hcn:=hc n
   have:c n=Nat.min tot M:=by
    unfold bG at AN
    have e1:Nat.min (c n) M=c n:=Nat.min_eq_left hcn
    have:Nat.min (c n) M=Nat.min tot M:=AN
    omega
   rw[this]
 ·have:bc (λa=>kC (λ_=>0) 0 1 a*a7 row T (body.drop 0) (f+a) (f+n)) (n+1)=tot:=by
   rw[List.drop_zero,qw (a:=0) (λk hk=>by omega) (by omega)]
   have key:∀ m,bc (λa=>kC (λ_=>0) 0 1 a*a7 row T body (f+a) (f+n)) (m+1)=a7 row T body f (f+n):=by
    intro m
    induction m with
    |zero=>simp[bc,kC]
    |succ m ih=>rw[bc,ih];simp[kC]
   simp only[Nat.zero_add,Nat.sub_zero]
   exact key n
  rw[this]
  exact bG.pd
end
noncomputable section
abbrev PU:=Grm
def pk(row:List Int)(d:List Int)(ps:List Prd)(M N:Nat)(z:Option ((List (List (List Int))×Unit)×Unit)):Prop:=
 ∃ R:Tb,z=some ((tab R d.length N,()),())/\ij row d ps M N (N+1) (λ_ _=>0) R
def mU(r f s0:Nat):Nat->Nat->Nat:=λs i=>r+if i<f\/(i=f/\s<s0)then 1 else 0
theorem MH(ns N:Nat):(List.range ns).map (λ_=>(List.range (N+1)).map λ_=>dX (λ_=>0) N)=tab (λ_ _ _=>0) ns N:=rfl
theorem w7{g:Grm}{row:List Int}{d:List Int}{M:Nat}(hM:M<=1000)(hM1:1<=M)(bP:row.length<=40)(hd:d.length=g.2.1.length)(b:pg d g.2.2.1)(hp:g.2.2.1.length<=100)(hb:∀ p∈g.2.2.1,p.2.2.1.length<=20):
 pk row d g.2.2.1 M row.length (p15 N0 (g,(row,((M:Int),())))):=by
 have hdl:=b.dl
 generalize hN:row.length=N at bP |-
 unfold p15
 simp only[hN]
 have hwN:IntKind.wrap .i64 (((N:Nat):Int)+1)=((N+1:Nat):Int):=aO (by omega)
 simp only[hwN,Int.toNat_natCast,qz,<-hd]
 -- the empty table
 refine bC (λm x=>∃ j:Nat,x=((),(tab (λ_ _ _=>0) j N,((j:Int),())))/\m+j=d.length) (pk row d g.2.2.1 M N) ?_ N0 d.length _ (by unfold N0;omega) ⟨0,rfl,rfl⟩
 rintro m x ⟨j,rfl,hm⟩ k hk
 simp only
 rcases Nat.lt_or_ge j d.length with hj|hj
 ·rw[decide_eq_true (show(j:Int)<((d.length:Nat):Int) by omega),cond_true]
  refine bC (λm x=>∃ i:Nat,x=((tab (λ_ _ _=>0) j N,()),((List.range i).map (λ_=>dX (λ_=>0) N),((i:Int),())))/\m+i=N+1) (pk row d g.2.2.1 M N) ?_ N0 (N+1) _ (by unfold N0;omega) ⟨0,rfl,rfl⟩
  rintro m2 x ⟨i,rfl,hm2⟩ k2 hk2
  simp only
  rcases Nat.lt_or_ge N i with hi|hi
  ·have:i=N+1:=by omega
   subst this
   rw[decide_eq_false (show ¬((N+1:Nat):Int)<=(N:Int) by omega),cond_false,nD]
   rw[if_pos (by simp;omega),if_pos (by simp;omega),aO (by omega)]
   refine hk (m-1) _ (by omega) ⟨j+1,?_,by omega⟩
   have:tab (λ_ _ _=>0) (j+1) N=tab (λ_ _ _=>0) j N++[jN (λ_ _ _=>0) j N]:=by
    unfold tab
    rw[List.range_succ,List.map_append]
    rfl
   rw[this]
   rfl
  ·rw[decide_eq_true (show(i:Int)<=(N:Int) by omega),cond_true,if_pos ⟨by omega,Int.le_refl _⟩,if_pos (by omega),List.length_map,List.length_range]
   rw[if_pos (by simp;omega),if_pos (by simp;omega),aO (by omega)]
   refine hk2 (m2-1) _ (by omega) ⟨i+1,?_,by omega⟩
   rw[List.range_succ,List.map_append]
   rfl
 have:j=d.length:=by omega
 subst this
 rw[decide_eq_false (show ¬((d.length:Nat):Int)<((d.length:Nat):Int) by omega),cond_false]
 -- M3
 refine bC (λm x=>∃ (n:Nat) (T:Tb),x=((tab T d.length N,()),((n:Int),()))/\m+n=N+1/\ij row d g.2.2.1 M N n (λ_ _=>0) T) (pk row d g.2.2.1 M N) ?_ N0 (N+1) _ (by unfold N0;omega) ⟨0,_,rfl,rfl,ij.start⟩
 rintro m1 x ⟨n,T,rfl,hm1,hT⟩ k1 hk1
 simp only
 rcases Nat.lt_or_ge N n with hn|hn
 ·have:n=N+1:=by omega
  subst this
  rw[decide_eq_false (show ¬((N+1:Nat):Int)<=(N:Int) by omega),cond_false]
  exact⟨T,rfl,hT⟩
 rw[decide_eq_true (show(n:Int)<=(N:Int) by omega),cond_true]
 -- rounds
 refine bC (λm x=>∃ (r:Nat) (T:Tb),x=((tab T d.length N,()),((r:Int),()))/\m+r=d.length+1/\ij row d g.2.2.1 M N n (λ_ _=>r) T) (pk row d g.2.2.1 M N) ?_ N0 (d.length+1) _ (by unfold N0;omega) ⟨0,T,rfl,rfl,hT⟩
 rintro m2 x ⟨r,T,rfl,hm2,hT⟩ k2 hk2
 simp only
 rcases Nat.lt_or_ge d.length r with hr|hr
 ·rw[decide_eq_false (show ¬(r:Int)<=((d.length:Nat):Int) by omega),cond_false,aO (by omega)]
  exact hk1 (m1-1) _ (by omega) ⟨n+1,T,rfl,by omega,hT.next (λ_ _ _ _=>by omega)⟩
 rw[decide_eq_true (show(r:Int)<=((d.length:Nat):Int) by omega),cond_true]
 -- J7
 refine bC (λm x=>∃ (f:Nat) (T:Tb),x=((tab T d.length N,()),((f:Int),()))/\m+f=N+1/\ij row d g.2.2.1 M N n (mU r f 0) T) (pk row d g.2.2.1 M N) ?_ N0 (N+1) _ (by unfold N0;omega) ⟨0,T,rfl,rfl,hT.congr (λs i _ _=>by unfold mU;rw[if_neg (by omega)];omega)⟩
 rintro m3 x ⟨f,T,rfl,hm3,hT⟩ k3 hk3
 simp only
 have hfn:IntKind.wrap .i64 ((f:Int)+(n:Int))=((f+n:Nat):Int):=by rw[show(f:Int)+(n:Int)=((f+n:Nat):Int) by omega];exact uZ (by omega)
 rw[hfn]
 rcases Nat.lt_or_ge N (f+n)with hf|hf
 ·rw[decide_eq_false (show ¬((f+n:Nat):Int)<=((N:Nat):Int) by omega),cond_false,aO (by omega)]
  exact hk2 (m2-1) _ (by omega) ⟨r+1,T,rfl,by omega,hT.congr (λs i _ hi=>by unfold mU;rw[if_pos (by omega)];omega)⟩
 rw[decide_eq_true (show((f+n:Nat):Int)<=((N:Nat):Int) by omega),cond_true]
 -- PH
 refine bC (λm x=>∃ (s:Nat) (T:Tb),x=((tab T d.length N,()),((s:Int),()))/\m+s=d.length/\ij row d g.2.2.1 M N n (mU r f s) T) (pk row d g.2.2.1 M N) ?_ N0 d.length _ (by unfold N0;omega) ⟨0,T,rfl,rfl,hT⟩
 rintro m4 x ⟨s,T,rfl,hm4,hT⟩ k4 hk4
 simp only
 rcases Nat.lt_or_ge s d.length with hs|hs
 case inr=>
  rw[decide_eq_false (show ¬(s:Int)<((d.length:Nat):Int) by omega),cond_false,aO (by omega)]
  exact hk3 (m3-1) _ (by omega) ⟨f+1,T,rfl,by omega,hT.congr (λs' i h _=>by unfold mU;split <;> split <;> omega)⟩
 rw[decide_eq_true (show(s:Int)<((d.length:Nat):Int) by omega),cond_true]
 -- HO
 refine bC (λm x=>∃ j:Nat,x=((tab T d.length N,()),(((Nat.min (bc (dQ row T g.2.2.1 s f n) j) M:Nat):Int),((j:Int),())))/\m+j=g.2.2.1.length) (pk row d g.2.2.1 M N) ?_ N0 g.2.2.1.length _ (by unfold N0;omega) ⟨0,by simp only[bc];rw[show Nat.min 0 M=0 from Nat.zero_min M];rfl,rfl⟩
 rintro m5 x ⟨j,rfl,hm5⟩ k5 hk5
 simp only[Int.toNat_natCast]
 rcases Nat.lt_or_ge j g.2.2.1.length with hjp|hjp
 ·have hgj:g.2.2.1[j]?=some g.2.2.1[j]:=List.getElem?_eq_getElem hjp
  have hpb:=hb _ (List.getElem_mem hjp)
  have hpv:=b.vb _ (List.getElem_mem hjp)
  have hgv:dQ row T g.2.2.1 s f n j=if g.2.2.1[j].1=(s:Int)then a7 row T g.2.2.1[j].2.2.1 f (f+n)else 0:=by
   unfold dQ;rw[hgj]
  generalize g.2.2.1[j]=p at hgj hpb hpv hgv
  rw[decide_eq_true (show(j:Int)<((g.2.2.1.length:Nat):Int) by omega),cond_true,if_pos (by omega),hgj]
  simp only
  refine cH (P:=pk row d g.2.2.1 M N) λK hK=>?_
  have MI:Nat.min (bc (dQ row T g.2.2.1 s f n) j) M<=M:=Nat.min_le_right _ _
  have go:∀ v:Nat,v=Nat.min (bc (dQ row T g.2.2.1 s f n) (j+1)) M->pk row d g.2.2.1 M N (K ((tab T d.length N,()),(((v:Nat):Int),()))):=by
   intro v hv
   rw[hK]
   simp only
   rw[aO (by omega),hv]
   exact hk5 (m5-1) _ (by omega) ⟨j+1,rfl,by omega⟩
  by_cases e:p.1=(s:Int)
  ·rw[decide_eq_true e,cond_true,if_pos (by omega)]
   rw[aa (J6 (by omega) hM hM1 hT.le hpv (by omega) hN hf)]
   simp only
   have Jo:Nat.min (a7 row T p.2.2.1 f (f+n)) M<=M:=Nat.min_le_right _ _
   rw[show((Nat.min (bc (dQ row T g.2.2.1 s f n) j) M:Nat):Int)+((Nat.min (a7 row T p.2.2.1 f (f+n)) M:Nat):Int)=((Nat.min (bc (dQ row T g.2.2.1 s f n) j) M+Nat.min (a7 row T p.2.2.1 f (f+n)) M:Nat):Int) by omega,w6 (by omega)]
   refine go _ ?_
   simp only[bc]
   rw[hgv,if_pos e]
   exact(bG.min M _).add (bG.min M _)
  ·rw[decide_eq_false e,cond_false]
   refine go _ ?_
   simp only[bc]
   rw[hgv,if_neg e,Nat.add_zero]
 ·have:j=g.2.2.1.length:=by omega
  subst this
  rw[decide_eq_false (show ¬((g.2.2.1.length:Nat):Int)<((g.2.2.1.length:Nat):Int) by omega),cond_false]
  rw[if_pos (by omega),fg T hs]
  simp only
  rw[if_pos (by omega),dR T (show f<=N by omega)]
  simp only
  rw[if_pos (by omega),bK (T s f) (show n<=N by omega)]
  simp only
  simp only[Int.natCast_nonneg,if_true]
  rw[lC _ (show n<=N by omega),D1 T (show f<=N by omega),Hh T hs,aO (by omega)]
  refine hk4 (m4-1) _ (by omega) ⟨s+1,_,rfl,by omega,hT.step b hs hf (λs' i h=>?_) ?_ (λs'=>?_)⟩
  ·unfold mU
   split <;> split <;> omega
  ·unfold mU
   rw[if_pos (by omega),if_neg (by omega)]
  ·unfold mU
   split <;> split <;> omega
end
noncomputable section
abbrev Ky:=Int×(Int×(Int×Int))
abbrev Mm:=List (Ky×Int)
abbrev KB:=Grm×(List Int×(Int×(List Int×Mm)))
def eq4:Ky->Ky->Bool:=λa b=>bif decide (a.1=b.1)then(bif decide (a.2.1=b.2.1)then(bif decide (a.2.2.1=b.2.2.1)then decide (a.2.2.2=b.2.2.2)else false)else false)else false
theorem fh(a b:Ky):eq4 a b=true↔a=b:=by
 obtain⟨a1,a2,a3,a4⟩:=a
 obtain⟨b1,b2,b3,b4⟩:=b
 unfold eq4
 simp only[Prod.mk.injEq]
 by_cases h1:a1=b1 <;> by_cases h2:a2=b2 <;> by_cases h3:a3=b3 <;> by_cases h4:a4=b4 <;> simp[h1,h2,h3,h4]
theorem kf{α:Type}{eq:α->α->Bool}(he:∀ a b,eq a b=true↔a=b)(k k':α)(v:Int):∀ x:List (α×Int),cT eq k (cu eq k' v x)=true↔(k=k'\/cT eq k x=true):=by
 intro x
 induction x with
 |nil=>
  simp only[cu,cT]
  cases h:eq k k'
  ·have:¬k=k':=λe=>by rw[(he _ _).2 e]at h;cases h
   simp[this]
  ·simp[(he _ _).1 h]
 |cons p r ih=>
  simp only[cu]
  cases h:eq k' p.1
  ·simp only[cond_false,cT]
   cases h2:eq k p.1
   ·simp only[cond_false];exact ih
   ·simp
  ·have e:=(he _ _).1 h
   simp only[cond_true,cT]
   cases h2:eq k k'
   ·have hne:¬k=k':=λe=>by rw[(he _ _).2 e]at h2;cases h2
    rw[<-e,h2]
    simp[hne]
   ·simp[(he _ _).1 h2]
theorem fT{α:Type}{eq:α->α->Bool}(he:∀ a b,eq a b=true↔a=b)(k k':α)(v:Int):∀ x:List (α×Int),(k=k'->bB eq k (cu eq k' v x)=v)/\(¬k=k'->bB eq k (cu eq k' v x)=bB eq k x):=by
 intro x
 induction x with
 |nil=>
  simp only[cu,bB]
  refine⟨λe=>by rw[(he _ _).2 e];rfl,λhne=>?_⟩
  have:eq k k'=false:=by
   cases h:eq k k'
   ·rfl
   ·exact absurd ((he _ _).1 h) hne
  rw[this];rfl
 |cons p r ih=>
  simp only[cu]
  cases h:eq k' p.1
  ·simp only[cond_false,bB]
   refine⟨λe=>?_,λhne=>?_⟩
   ·subst e;rw[h,cond_false];exact ih.1 rfl
   ·rw[ih.2 hne]
  ·have e:=(he _ _).1 h
   simp only[cond_true,bB]
   refine⟨λe2=>by rw[(he _ _).2 e2];rfl,λhne=>?_⟩
   have h2:eq k k'=false:=by
    cases h2:eq k k'
    ·rfl
    ·exact absurd ((he _ _).1 h2) hne
   rw[h2,<-e,h2]
   rfl
structure Cx(g:Grm)(row:List Int)(d:List Int)(m M:Nat)(R:Tb):Prop where
 b:pg d g.2.2.1
 N:row.length<=40
 m1:1<=m
 mM:m<=M
 M1:M<=1000
 pl:g.2.2.1.length<=100
 bl:∀ p∈g.2.2.1,p.2.2.1.length<=20
 fl:ij row d g.2.2.1 M row.length (row.length+1) (λ_ _=>0) R
section
variable {g:Grm} {row:List Int} {d:List Int} {m M:Nat} {R:Tb}
def pn(m:Nat)(R:Tb)(s i j:Nat):Nat:=Nat.min (R s i (j-i)) m
def eW(row:List Int)(m:Nat)(R:Tb)(p:Prd)(dd i j:Nat):Nat:=Nat.min (a7 row R (p.2.2.1.drop dd) i j) m
structure dK(g:Grm)(row:List Int)(d:List Int)(m:Nat)(R:Tb)(mm:Mm):Prop where
 s:∀ s i j:Nat,s<d.length->i<=j->j<=row.length->cT eq4 (-1,((s:Int),((i:Int),(j:Int)))) mm=true->bB eq4 (-1,((s:Int),((i:Int),(j:Int)))) mm=(pn m R s i j:Int)
 q:∀ (q dd i j:Nat) (p:Prd),g.2.2.1[q]?=some p->dd<=p.2.2.1.length->i<=j->j<=row.length->cT eq4 ((q:Int),((dd:Int),((i:Int),(j:Int)))) mm=true->bB eq4 ((q:Int),((dd:Int),((i:Int),(j:Int)))) mm=(eW row m R p dd i j:Int)
theorem dK.nil:dK g row d m R []:=⟨λ_ _ _ _ _ _ h=>(by cases h),λ_ _ _ _ _ _ _ _ _ h=>(by cases h)⟩
theorem dK.Pn{mm:Mm}(h:dK g row d m R mm){s i j:Nat}{v:Nat}(hv:v=pn m R s i j):dK g row d m R (cu eq4 (-1,((s:Int),((i:Int),(j:Int)))) (v:Int) mm) where
 s:=λs' i' j' h1 h2 h3 h4=>by
  by_cases e:((-1:Int),((s':Int),((i':Int),(j':Int))))=(-1,((s:Int),((i:Int),(j:Int))))
  ·rw[(fT fh _ _ _ _).1 e,hv]
   simp only[Prod.mk.injEq]at e
   have e1:s'=s:=by omega
   have e2:i'=i:=by omega
   have e3:j'=j:=by omega
   rw[e1,e2,e3]
  ·rw[(fT fh _ _ _ _).2 e]
   exact h.s s' i' j' h1 h2 h3 (((kf fh _ _ _ _).1 h4).resolve_left e)
 q:=λq dd i' j' p h0 h1 h2 h3 h4=>by
  have e:¬((q:Int),((dd:Int),((i':Int),(j':Int))))=(-1,((s:Int),((i:Int),(j:Int)))):=by
   simp only[Prod.mk.injEq];omega
  rw[(fT fh _ _ _ _).2 e]
  exact h.q q dd i' j' p h0 h1 h2 h3 (((kf fh _ _ _ _).1 h4).resolve_left e)
theorem dK.Hi{mm:Mm}(h:dK g row d m R mm){q dd i j:Nat}{p:Prd}(hp:g.2.2.1[q]?=some p){v:Nat}(hv:v=eW row m R p dd i j):dK g row d m R (cu eq4 ((q:Int),((dd:Int),((i:Int),(j:Int)))) (v:Int) mm) where
 s:=λs' i' j' h1 h2 h3 h4=>by
  have e:¬((-1:Int),((s':Int),((i':Int),(j':Int))))=((q:Int),((dd:Int),((i:Int),(j:Int)))):=by
   simp only[Prod.mk.injEq];omega
  rw[(fT fh _ _ _ _).2 e]
  exact h.s s' i' j' h1 h2 h3 (((kf fh _ _ _ _).1 h4).resolve_left e)
 q:=λq' dd' i' j' p' h0 h1 h2 h3 h4=>by
  by_cases e:((q':Int),((dd':Int),((i':Int),(j':Int))))=((q:Int),((dd:Int),((i:Int),(j:Int))))
  ·rw[(fT fh _ _ _ _).1 e,hv]
   simp only[Prod.mk.injEq]at e
   have e0:q'=q:=by omega
   have e1:dd'=dd:=by omega
   have e2:i'=i:=by omega
   have e3:j'=j:=by omega
   rw[e0,hp]at h0
   injection h0 with h0
   rw[e1,e2,e3,h0]
  ·rw[(fT fh _ _ _ _).2 e]
   exact h.q q' dd' i' j' p' h0 h1 h2 h3 (((kf fh _ _ _ _).1 h4).resolve_left e)
def rkD(d:List Int)(ps:List Prd)(s:Nat):Nat:=rk (Edge d d.length ps) d.length s
def muS(d:List Int)(ps:List Prd)(s i j:Nat):Nat:=((j-i)*(d.length+1)+rkD d ps s+1)*40
open Classical in
def muQ(d:List Int)(ps:List Prd)(p:Prd)(dd i j:Nat):Nat:=(if Nul d (p.2.2.1.take dd)then(j-i)*(d.length+1)+rkD d ps p.1.toNat else(j-i)*(d.length+1)+d.length+1)*40+39-dd
theorem J8{ps:List Prd}{p:Prd}{dd i j:Nat}(h:dd<=20):(j-i)*(d.length+1)*40+19<=muQ d ps p dd i j:=by
 unfold muQ
 split <;> omega
theorem J9{ps:List Prd}{p:Prd}{dd i j:Nat}(h:dd<=20):muQ d ps p dd i j<=((j-i)*(d.length+1)+d.length+1)*40+39-dd:=by
 unfold muQ
 have:=DY (Edge d d.length ps) d.length p.1.toNat
 split
 ·unfold rkD;omega
 ·omega
theorem D2{ps:List Prd}{s i j:Nat}:muS d ps s i j<=((j-i)*(d.length+1)+d.length+1)*40:=by
 unfold muS
 have:=DY (Edge d d.length ps) d.length s
 unfold rkD;omega
theorem MJ{ps:List Prd}{p:Prd}{s i j:Nat}(h:p.1=(s:Int)):muQ d ps p 0 i j<muS d ps s i j:=by
 unfold muQ muS
 have hn:Nul d (p.2.2.1.take 0):=λx hx=>by simp at hx
 rw[if_pos hn,show p.1.toNat=s by omega]
 omega
theorem Hj{i j k L:Nat}(h1:i<k)(h2:k<=j):(j-k)*L+L<=(j-i)*L:=by
 rw[<-Nat.succ_mul]
 exact Nat.mul_le_mul_right _ (by omega)
theorem D3{i j k L:Nat}(h1:k<j)(h2:i<=k):(k-i)*L+L<=(j-i)*L:=by
 rw[<-Nat.succ_mul]
 exact Nat.mul_le_mul_right _ (by omega)
theorem HP{ps:List Prd}{p:Prd}{dd i j k:Nat}(hd:dd<20)(hik:i<=k)(hkj:k<=j)(hn:k=i->Nul d (p.2.2.1.take dd)->Nul d (p.2.2.1.take (dd+1)))(hm:k=i->Nul d (p.2.2.1.take (dd+1))->Nul d (p.2.2.1.take dd)):muQ d ps p (dd+1) k j<muQ d ps p dd i j:=by
 by_cases e:k=i
 ·subst e
  unfold muQ
  by_cases h:Nul d (p.2.2.1.take dd)
  ·rw[if_pos h,if_pos (hn rfl h)];omega
  ·rw[if_neg h,if_neg (λh2=>h (hm rfl h2))];omega
 ·have h1:=J9 (d:=d) (ps:=ps) (p:=p) (dd:=dd+1) (i:=k) (j:=j) (by omega)
  have h2:(j-i)*(d.length+1)*40+39-dd<=muQ d ps p dd i j:=by unfold muQ;split <;> omega
  have h3:=Hj (i:=i) (j:=j) (k:=k) (L:=d.length+1) (by omega) hkj
  omega
theorem MK{ps:List Prd}(b:pg d ps){p:Prd}(hp:p∈ps){s0 s dd i j k:Nat}(hs0:p.1=(s0:Int))(Ka:s0<d.length)(hd:dd<20)(hik:i<=k)(hkj:k<=j){sy:fM}(hsy:p.2.2.1[dd]?=some sy)(hst:sy.1=true)(hss:sy.2.toNat=s)(hsl:s<d.length)(hn:k=j->Nul d (p.2.2.1.drop (dd+1))):muS d ps s i k<muQ d ps p dd i j:=by
 have hlo:=J8 (d:=d) (ps:=ps) (p:=p) (dd:=dd) (i:=i) (j:=j) (by omega)
 have hhi:=D2 (d:=d) (ps:=ps) (s:=s) (i:=i) (j:=k)
 by_cases e:k=j
 ·subst e
  by_cases h:Nul d (p.2.2.1.take dd)
  ·have hdd:dd<p.2.2.1.length:=(List.getElem?_eq_some_iff.1 hsy).1
   have hb:p.2.2.1=p.2.2.1.take dd++sy::p.2.2.1.drop (dd+1):=by
    have e1:p.2.2.1[dd]=sy:=by
     rw[List.getElem?_eq_getElem hdd]at hsy
     injection hsy
    conv=>lhs;rw[<-List.take_append_drop dd p.2.2.1]
    rw[List.drop_eq_getElem_cons hdd,e1]
   have he:=yw hp hs0 Ka hb (b.vb p hp) hst hss h (hn rfl)
   have hlt:=HN b.no he hsl
   unfold muS muQ
   rw[if_pos h,show p.1.toNat=s0 by omega]
   unfold rkD
   omega
  ·unfold muQ at *
   rw[if_neg h]
   omega
 ·have h3:=D3 (i:=i) (j:=j) (k:=k) (L:=d.length+1) (by omega) hik
  omega
theorem Kb(hc:Cap d):∀ (b:List fM) (n:Int),-1<=n->-1<=shA d b n/\shA d b n<=n+b.length*1073741824\/shA d b n=-1:=by
 intro b
 induction b with
 |nil=>intro n h;left;simp only[shA,List.length_nil];omega
 |cons s r ih=>
  intro n h
  simp only[shA,List.length_cons]
  split
  ·rcases ih (n+1) (by omega)with h|h
   ·left;omega
   ·exact .inr h
  ·split
   ·exact .inr rfl
   ·have:=nz hc s.2.toNat
    rcases ih (n+at1 d s.2.toNat) (by omega)with h|h
    ·left;omega
    ·exact .inr h
theorem Kc(hc:Cap d)(hdl:d.length<=100){mm:Mm}{b:List fM}(hb:b.length<=20)(hv:Vb d.length b):p96 N0 (some ((g,(row,((m:Int),(d,mm))))),(b,()))=some ((shA d b 0,()),()):=by
 unfold p96
 simp only
 refine au (λmm x q=>∃ (j:Nat) (n:Int),x=((),(n,((j:Int),())))/\mm+j=b.length/\0<=n/\n<=j*1073741824/\q=some ((shA d (b.drop j) n,()),())) ?_ N0 b.length _ _ (by unfold N0;omega) ⟨0,0,rfl,rfl,by omega,by omega,rfl⟩
 rintro mm' x q ⟨j,n,rfl,hm,h0,h1,rfl⟩ k hk
 simp only
 rcases Nat.lt_or_ge j b.length with hj|hj
 ·have hg:b[j]?=some b[j]:=List.getElem?_eq_getElem hj
  have hvj:=hv _ (List.getElem_mem hj)
  rw[List.drop_eq_getElem_cons hj]
  generalize b[j]=sy at hg hvj
  rw[decide_eq_true (show(j:Int)<((b.length:Nat):Int) by omega),cond_true,if_pos (by omega),Int.toNat_natCast,hg]
  simp only[shA]
  have go:∀ v:Int,0<=v->v<=(j+1:Nat)*1073741824->k ((),(v,(((j+1:Nat):Int),())))=some ((shA d (b.drop (j+1)) v,()),()):=λv q1 q2=>hk (mm' - 1) _ _ (by omega) ⟨j+1,v,rfl,by omega,q1,q2,rfl⟩
  refine cH (P:=λz=>z=_) λK hK=>?_
  cases hb1:sy.1
  ·rw[Bool.not_false,cond_true,if_pos rfl,hK]
   simp only
   rw[aO (by omega),aJ (by omega) (by omega)]
   exact go _ (by omega) (by omega)
  ·rw[Bool.not_true,cond_false,if_neg (show ¬(true=false) by simp)]
   obtain⟨v1,v2⟩:=hvj hb1
   have hlt:sy.2.toNat<d.length:=by omega
   have hgd:d[sy.2.toNat]?=some (at1 d sy.2.toNat):=by
    unfold at1
    rw[List.getD_eq_getElem?_getD,List.getElem?_eq_getElem hlt]
    rfl
   have je:=nz hc sy.2.toNat
   simp only[hgd]
   rw[if_pos v1]
   by_cases h:at1 d sy.2.toNat<0
   ·rw[decide_eq_true h,cond_true,if_pos h]
   ·rw[decide_eq_false h,cond_false,if_neg h,if_pos v1,hK]
    simp only
    rw[aO (by omega),aJ (by omega) (by omega)]
    exact go _ (by omega) (by omega)
 ·have:j=b.length:=by omega
  subst this
  rw[decide_eq_false (show ¬((b.length:Nat):Int)<((b.length:Nat):Int) by omega),cond_false,List.drop_length]
  rfl
end
end
noncomputable section
section
variable {g:Grm} {row:List Int} {d:List Int} {m M:Nat} {R:Tb}
abbrev S34:=KB×(Int×(Int×(Int×Unit)))->Option ((Int×Unit)×(KB×Unit))
abbrev S65:=KB×(Int×(Int×(Int×(Int×Unit))))->Option ((Int×Unit)×(KB×Unit))
def eX(g:Grm)(row:List Int)(d:List Int)(m:Nat)(R:Tb)(v:Nat)(z:Option ((Int×Unit)×(KB×Unit))):Prop:=∃ mm,z=some (((v:Int),()),((g,(row,((m:Int),(d,mm)))),()))/\dK g row d m R mm
def OkS(g:Grm)(row:List Int)(d:List Int)(m:Nat)(R:Tb)(q:S34)(s i j:Nat):Prop:=∀ mm,dK g row d m R mm->eX g row d m R (pn m R s i j) (q ((g,(row,((m:Int),(d,mm)))),((s:Int),((i:Int),((j:Int),())))))
def Hk(g:Grm)(row:List Int)(d:List Int)(m:Nat)(R:Tb)(q:S65)(n dd i j:Nat)(p:Prd):Prop:=∀ mm,dK g row d m R mm->eX g row d m R (eW row m R p dd i j) (q ((g,(row,((m:Int),(d,mm)))),((n:Int),((dd:Int),((i:Int),((j:Int),()))))))
theorem yy{x:Nat}(h:x<1000000000):IntKind.wrap .i64 ((x:Int)+1)=((x+1:Nat):Int):=aO (by omega)
theorem D4(c:Cx g row d m M R){s i j:Nat}(hs:s<d.length)(hij:i<=j)(hj:j<=row.length):Nat.min (bc (dQ row R g.2.2.1 s i (j-i)) g.2.2.1.length) m=pn m R s i j:=by
 have h:=c.fl.lo s i (j-i) hs (by omega) (by omega)
 unfold qx at h
 unfold pn
 rw[h]
 have:=(bG.min M (sg row R g.2.2.1 s i (j-i))).symm.le c.mM
 exact this
theorem Po(c:Cx g row d m M R){q34:S34}{q65:S65}{s i j:Nat}(hs:s<d.length)(hij:i<=j)(hj:j<=row.length)
 (hq:∀ (n:Nat) (p:Prd),g.2.2.1[n]?=some p->p.1=(s:Int)->Hk g row d m R q65 n 0 i j p):OkS g row d m R (CR N0 q34 q65) s i j:=by
 intro mm hmm
 have D5:m<=1000:=Nat.le_trans c.mM c.M1
 unfold CR
 rw[show(λ(a:Ky) (b:Ky)=>bif decide (a.1=b.1)then(bif decide (a.2.1=b.2.1)then(bif decide (a.2.2.1=b.2.2.1)then decide (a.2.2.2=b.2.2.2)else false)else false)else false)=eq4 from rfl]
 show eX g row d m R _ (bif cT eq4 (-1,((s:Int),((i:Int),(j:Int)))) mm then _ else _)
 cases hh:cT eq4 (-1,((s:Int),((i:Int),(j:Int)))) mm
 case true=>
  rw[cond_true]
  exact⟨mm,by simp only;rw[hmm.s s i j hs hij hj hh],hmm⟩
 rw[cond_false]
 simp only
 refine bC (λmz x=>∃ (n:Nat) (mm:Mm),x=(((g,(row,((m:Int),(d,mm)))),()),(((Nat.min (bc (dQ row R g.2.2.1 s i (j-i)) n) m:Nat):Int),((n:Int),())))/\mz+n=g.2.2.1.length/\dK g row d m R mm) (eX g row d m R (pn m R s i j)) ?_ N0 g.2.2.1.length _ (by have:=c.pl;unfold N0;omega) ⟨0,mm,by simp only[bc];rw[show Nat.min 0 m=0 from Nat.zero_min m];rfl,rfl,hmm⟩
 rintro mz x ⟨n,mm,rfl,hmz,hmm⟩ k hk
 simp only
 rcases Nat.lt_or_ge n g.2.2.1.length with hn|hn
 ·have hgn:g.2.2.1[n]?=some g.2.2.1[n]:=List.getElem?_eq_getElem hn
  have hgv:dQ row R g.2.2.1 s i (j-i) n=if g.2.2.1[n].1=(s:Int)then a7 row R g.2.2.1[n].2.2.1 i (i+(j-i))else 0:=by
   unfold dQ;rw[hgn]
  generalize g.2.2.1[n]=p at hgn hgv
  have hpl:=c.pl
  rw[decide_eq_true (show(n:Int)<((g.2.2.1.length:Nat):Int) by omega),cond_true,if_pos (by omega),Int.toNat_natCast,hgn]
  simp only
  refine cH (P:=eX g row d m R (pn m R s i j)) λK hK=>?_
  have MI:Nat.min (bc (dQ row R g.2.2.1 s i (j-i)) n) m<=m:=Nat.min_le_right _ _
  have go:∀ (v:Nat) (mm:Mm),dK g row d m R mm->v=Nat.min (bc (dQ row R g.2.2.1 s i (j-i)) (n+1)) m->eX g row d m R (pn m R s i j) (K (((g,(row,((m:Int),(d,mm)))),()),(((v:Nat):Int),()))):=by
   intro v mm h1 hv
   rw[hK]
   simp only
   rw[yy (by omega),hv]
   exact hk (mz-1) _ (by omega) ⟨n+1,mm,rfl,by omega,h1⟩
  by_cases e:p.1=(s:Int)
  ·obtain⟨mm2,e2,AO⟩:=hq n p hgn e mm hmm
   have e0:((0:Nat):Int)=0:=rfl
   rw[e0]at e2
   have Jo:eW row m R p 0 i j<=m:=Nat.min_le_right _ _
   rw[decide_eq_true e,cond_true]
   simp only[e2,aK,oo]
   rw[show((Nat.min (bc (dQ row R g.2.2.1 s i (j-i)) n) m:Nat):Int)+((eW row m R p 0 i j:Nat):Int)=((Nat.min (bc (dQ row R g.2.2.1 s i (j-i)) n) m+eW row m R p 0 i j:Nat):Int) by omega,w6 (by omega)]
   refine go _ mm2 AO ?_
   simp only[bc]
   rw[hgv,if_pos e,show i+(j-i)=j by omega]
   have:=(bG.min m (bc (dQ row R g.2.2.1 s i (j-i)) n)).add (bG.min m (a7 row R (p.2.2.1.drop 0) i j))
   rw[List.drop_zero]at this
   exact this
  ·rw[decide_eq_false e,cond_false]
   refine go _ mm hmm ?_
   simp only[bc]
   rw[hgv,if_neg e,Nat.add_zero]
 ·have:n=g.2.2.1.length:=by omega
  subst this
  rw[decide_eq_false (show ¬((g.2.2.1.length:Nat):Int)<((g.2.2.1.length:Nat):Int) by omega),cond_false,D4 c hs hij hj]
  exact⟨_,rfl,hmm.Pn rfl⟩
theorem Pp(c:Cx g row d m M R){q34:S34}{q65:S65}{n dd i j s0:Nat}{p:Prd}(hp:g.2.2.1[n]?=some p)(hs0:p.1=(s0:Int))(Ka:s0<d.length)(hdd:dd<=p.2.2.1.length)(hij:i<=j)(hj:j<=row.length)
 (hQ:∀ k,i<=k->k<=j->dd<p.2.2.1.length->muQ d g.2.2.1 p (dd+1) k j<muQ d g.2.2.1 p dd i j->Hk g row d m R q65 n (dd+1) k j p)
 (hS:∀ s k,s<d.length->i<=k->k<=j->muS d g.2.2.1 s i k<muQ d g.2.2.1 p dd i j->OkS g row d m R q34 s i k):Hk g row d m R (CS N0 q34 q65) n dd i j p:=by
 intro mm hmm
 have D5:m<=1000:=Nat.le_trans c.mM c.M1
 have hpm:=List.mem_of_getElem? hp
 have hbl:=c.bl p hpm
 have hvb:=c.b.vb p hpm
 have hcl:=c.b.cl
 have hdl:=c.b.dl
 have bP:=c.N
 have hm1:=c.m1
 unfold CS
 rw[show(λ(a:Ky) (b:Ky)=>bif decide (a.1=b.1)then(bif decide (a.2.1=b.2.1)then(bif decide (a.2.2.1=b.2.2.1)then decide (a.2.2.2=b.2.2.2)else false)else false)else false)=eq4 from rfl]
 simp only
 rw[if_pos (by omega),Int.toNat_natCast,hp]
 simp only
 by_cases iO:dd=p.2.2.1.length
 ·rw[decide_eq_true (show(dd:Int)=((p.2.2.1.length:Nat):Int) by omega),cond_true]
  have hv:eW row m R p dd i j=if i=j then 1 else 0:=by
   unfold eW
   rw[iO,List.drop_length]
   simp only[a7]
   split
   ·exact Nat.min_eq_left hm1
   ·exact Nat.zero_min m
  by_cases e:i=j
  ·rw[decide_eq_true (show(i:Int)=(j:Int) by omega),cond_true,hv,if_pos e]
   exact⟨mm,rfl,hmm⟩
  ·rw[decide_eq_false (show ¬(i:Int)=(j:Int) by omega),cond_false,hv,if_neg e]
   exact⟨mm,rfl,hmm⟩
 have D6:dd<p.2.2.1.length:=by omega
 rw[decide_eq_false (show ¬(dd:Int)=((p.2.2.1.length:Nat):Int) by omega),cond_false]
 cases hh:cT eq4 ((n:Int),((dd:Int),((i:Int),(j:Int)))) mm
 case true=>
  rw[cond_true]
  exact⟨mm,by rw[hmm.q n dd i j p hp hdd hij hj hh],hmm⟩
 rw[cond_false]
 have hgd:p.2.2.1[dd]?=some p.2.2.1[dd]:=List.getElem?_eq_getElem D6
 have hdr:p.2.2.1.drop dd=p.2.2.1[dd]::p.2.2.1.drop (dd+1):=List.drop_eq_getElem_cons D6
 have htk:p.2.2.1.take (dd+1)=p.2.2.1.take dd++[p.2.2.1[dd]]:=by rw[List.take_add_one,hgd];rfl
 have hvd:=hvb _ (List.getElem_mem D6)
 generalize p.2.2.1[dd]=sy at hgd hdr htk hvd
 have ML:Nul d (p.2.2.1.take (dd+1))->Nul d (p.2.2.1.take dd):=λh x hx=>h x (by rw[htk];simp[hx])
 rw[if_pos (by omega),Int.toNat_natCast,hgd]
 simp only
 rw[yy (x:=dd) (by omega)]
 cases hsb:sy.1
 ·-- a token
  rw[Bool.not_false,cond_true]
  have hv:eW row m R p dd i j=if i<j/\row[i]?=some sy.2 then eW row m R p (dd+1) (i+1) j else 0:=by
   unfold eW
   rw[hdr]
   simp only[a7]
   rw[if_pos hsb]
   split
   ·rfl
   ·exact Nat.zero_min m
  refine cH (P:=eX g row d m R (eW row m R p dd i j)) λK hK=>?_
  have go:∀ t:Bool,(t=true↔(i<j/\row[i]?=some sy.2))->eX g row d m R (eW row m R p dd i j) (K (((g,(row,((m:Int),(d,mm)))),()),(t,()))):=by
   intro t ht
   rw[hK]
   simp only
   refine cH (P:=eX g row d m R (eW row m R p dd i j)) λK2 hK2=>?_
   cases t
   ·rw[cond_false,hK2]
    have hv0:eW row m R p dd i j=0:=by rw[hv,if_neg (λh=>by cases ht.2 h)]
    refine⟨_,?_,hmm.Hi hp (v:=0) hv0.symm⟩
    rw[hv0];rfl
   ·have h2:=ht.1 rfl
    have hmu:=HP (d:=d) (ps:=g.2.2.1) (p:=p) (dd:=dd) (i:=i) (j:=j) (k:=i+1) (by omega) (by omega) (by omega) (λe=>by omega) (λe=>by omega)
    obtain⟨mm2,e2,AO⟩:=hQ (i+1) (by omega) (by omega) D6 hmu mm hmm
    rw[cond_true,yy (x:=i) (by omega)]
    simp only[e2,aK]
    rw[hK2]
    have hv1:eW row m R p dd i j=eW row m R p (dd+1) (i+1) j:=by rw[hv,if_pos h2]
    refine⟨_,?_,AO.Hi hp hv1.symm⟩
    rw[hv1]
  by_cases hlt:i<j
  ·have hri:row[i]?=some (row[i]'(by omega)):=List.getElem?_eq_getElem _
   rw[decide_eq_true (show(i:Int)<(j:Int) by omega),cond_true,if_pos (by omega),Int.toNat_natCast,hri]
   simp only
   refine go _ ?_
   rw[decide_eq_true_eq]
   constructor
   ·intro e;exact⟨hlt,by rw[hri,e]⟩
   ·rintro⟨_,e⟩;rw[hri]at e;injection e
  ·rw[decide_eq_false (show ¬(i:Int)<(j:Int) by omega),cond_false]
   exact go false ⟨λh=>(by cases h),λh=>(by omega)⟩
 ·-- a sort
  rw[Bool.not_true,cond_false]
  obtain⟨v1,v2⟩:=hvd hsb
  obtain⟨s,hsy⟩:∃ s:Nat,sy.2=(s:Int):=⟨sy.2.toNat,by omega⟩
  have hs:s<d.length:=by omega
  have hds:d[s]?=some (at1 d s):=by
   unfold at1
   rw[List.getD_eq_getElem?_getD,List.getElem?_eq_getElem hs]
   rfl
  have je:=nz hcl.cap s
  have hlo:-1<=at1 d s:=hcl.lo _ (List.mem_of_getElem? hds)
  rw[hsy,if_pos (by omega),Int.toNat_natCast,hds]
  simp only
  have l9:aY p.2.2.1 ((dd+1:Nat):Int) ((p.2.2.1.length:Nat):Int)=p.2.2.1.drop (dd+1):=mo _ _
  rw[if_pos ⟨by omega,by omega,by omega⟩,l9]
  have hvr:Vb d.length (p.2.2.1.drop (dd+1)):=λx hx=>hvb x (List.mem_of_mem_drop hx)
  have h96:=Kc (g:=g) (row:=row) (m:=m) hcl.cap hdl (mm:=mm) (b:=p.2.2.1.drop (dd+1)) (by rw[List.length_drop];omega) hvr
  rw[aa h96]
  simp only
  have PV:=Kb hcl.cap (p.2.2.1.drop (dd+1)) 0 (by omega)
  have hrl:(p.2.2.1.drop (dd+1)).length<=20:=by rw[List.length_drop];omega
  generalize hr:p.2.2.1.drop (dd+1)=r at *
  generalize fw:shA d r 0=oth at *
  have hv:eW row m R p dd i j=Nat.min (bc (λk=>R s i k*a7 row R r (i+k) j) (j+1-i)) m:=by
   unfold eW
   rw[hdr]
   simp only[a7]
   rw[if_neg (by rw[hsb];simp),hsy,Int.toNat_natCast]
  have Kd:=c.fl.sd
  have hR:∀ k,R s i k≠0->0<=at1 d s/\at1 d s<=(k:Int):=λk h=>Kd s i k h
  have hW:∀ k,a7 row R r (i+k) j≠0->i+k<=j/\0<=oth/\oth<=(j:Int)-((i+k:Nat):Int):=λk h=>by
   obtain⟨q1,q2⟩:=yv Kd _ _ _ h
   have:=q2 0 (by omega)
   rw[fw]at this
   omega
  refine bW (P:=eX g row d m R (eW row m R p dd i j)) (((g,(row,((m:Int),(d,mm)))),()),(decide (at1 d s<0\/oth<0),())) (λK=>?_) ?_
  ·by_cases q1:at1 d s<0
   ·rw[decide_eq_true q1,cond_true,decide_eq_true (.inl q1)]
   ·rw[decide_eq_false q1,cond_false]
    have:decide (at1 d s<0\/oth<0)=decide (oth<0):=by rw[decide_eq_decide];exact⟨λh=>h.resolve_left q1,.inr⟩
    rw[this]
  simp only
  by_cases MM:at1 d s<0\/oth<0
  ·rw[decide_eq_true MM,cond_true]
   have hv0:eW row m R p dd i j=0:=by
    rw[hv,fS (λk _=>?_)]
    ·exact Nat.zero_min m
    ·apply Classical.byContradiction
     intro h0
     have h1:=hR k (λe=>h0 (by rw[e,Nat.zero_mul]))
     have h2:=hW k (λe=>h0 (by rw[e,Nat.mul_zero]))
     omega
   exact⟨_,by rw[hv0];rfl,hmm.Hi hp (v:=0) hv0.symm⟩
  rw[decide_eq_false MM,cond_false]
  obtain⟨o,ho⟩:∃ o:Nat,at1 d s=(o:Int):=⟨(at1 d s).toNat,by omega⟩
  obtain⟨t,ht⟩:∃ t:Nat,oth=(t:Int):=⟨oth.toNat,by omega⟩
  have hob:o<=1073741824:=by omega
  have htb:(t:Int)<=20*1073741824:=by omega
  rw[ho,ht]
  have hw1:IntKind.wrap .i64 ((i:Int)+(o:Int))=((i+o:Nat):Int):=by rw[aJ (by omega) (by omega)];omega
  have hw2:IntKind.wrap .i64 ((j:Int)-(t:Int))=(j:Int)-(t:Int):=aJ (by omega) (by omega)
  rw[hw1,hw2]
  -- the whole sum
  have AN:bc (λk=>R s i k*a7 row R r (i+k) j) (j+1-i)=bc (λk=>R s i (o+k)*a7 row R r (i+(o+k)) j) (j+1-(t+i+o)):=by
   have hz:∀ k,k<o->R s i k*a7 row R r (i+k) j=0:=λk hk=>by
    apply Classical.byContradiction
    intro h0
    have h1:=hR k (λe=>h0 (by rw[e,Nat.zero_mul]))
    omega
   have hz2:∀ k,j<i+k+t->R s i k*a7 row R r (i+k) j=0:=λk hk=>by
    apply Classical.byContradiction
    intro h0
    have h2:=hW k (λe=>h0 (by rw[e,Nat.mul_zero]))
    omega
   by_cases hoj:o<=j+1-i
   ·rw[qw hz hoj]
    exact DU (by omega) (λk h1 h2=>hz2 (o+k) (by omega))
   ·rw[fS (λk hk=>hz k (by omega)),show j+1-(t+i+o)=0 by omega]
    rfl
  refine bC (λmz x=>∃ (e:Nat) (mm:Mm),x=(((g,(row,((m:Int),(d,mm)))),()),(((Nat.min (bc (λk=>R s i (o+k)*a7 row R r (i+(o+k)) j) e) m:Nat):Int),(((i+o+e:Nat):Int),())))/\mz+e=j+1-(t+i+o)/\dK g row d m R mm) (eX g row d m R (eW row m R p dd i j)) ?_ N0 (j+1-(t+i+o)) _ (by unfold N0;omega) ⟨0,mm,by simp only[bc];rw[show Nat.min 0 m=0 from Nat.zero_min m];rfl,rfl,hmm⟩
  rintro mz x ⟨e,mm,rfl,hmz,hmm⟩ k hk
  simp only
  rcases Nat.lt_or_ge e (j+1-(t+i+o))with he|he
  case inr=>
   have:e=j+1-(t+i+o):=by omega
   subst this
   rw[decide_eq_false (by omega),cond_false]
   have hvv:eW row m R p dd i j=Nat.min (bc (λk=>R s i (o+k)*a7 row R r (i+(o+k)) j) (j+1-(t+i+o))) m:=by rw[hv,AN]
   exact⟨_,by rw[hvv],hmm.Hi hp hvv.symm⟩
  have qO:i+o+e<=j:=by omega
  rw[decide_eq_true (show((i+o+e:Nat):Int)<=(j:Int)-(t:Int) by omega),cond_true]
  refine cH (P:=eX g row d m R (eW row m R p dd i j)) λK hK=>?_
  have MI:Nat.min (bc (λk=>R s i (o+k)*a7 row R r (i+(o+k)) j) e) m<=m:=Nat.min_le_right _ _
  have go:∀ (v:Nat) (mm:Mm),dK g row d m R mm->v=Nat.min (bc (λk=>R s i (o+k)*a7 row R r (i+(o+k)) j) (e+1)) m->eX g row d m R (eW row m R p dd i j) (K (((g,(row,((m:Int),(d,mm)))),()),(((v:Nat):Int),()))):=by
   intro v mm h1 hv1
   rw[hK]
   simp only
   rw[yy (x:=i+o+e) (by omega),hv1]
   exact hk (mz-1) _ (by omega) ⟨e+1,mm,rfl,by omega,h1⟩
  have hmu:=HP (d:=d) (ps:=g.2.2.1) (p:=p) (dd:=dd) (i:=i) (j:=j) (k:=i+o+e) (by omega) (by omega) qO (λe1 hn x hx=>by
   rw[htk]at hx
   rcases List.mem_append.1 hx with hx|hx
   ·exact hn x hx
   ·simp at hx
    subst hx
    refine⟨hsb,?_⟩
    rw[hsy,Int.toNat_natCast]
    omega) (λ_=>ML)
  obtain⟨mm2,e2,AO⟩:=hQ (i+o+e) (by omega) qO D6 hmu mm hmm
  rw[aa e2]
  simp only
  have hb:eW row m R p (dd+1) (i+o+e) j=Nat.min (a7 row R r (i+(o+e)) j) m:=by unfold eW;rw[hr,Nat.add_assoc]
  have hbm:Nat.min (a7 row R r (i+(o+e)) j) m<=m:=Nat.min_le_right _ _
  rw[hb]
  by_cases hz:Nat.min (a7 row R r (i+(o+e)) j) m=0
  ·rw[hz]
   have hw0:a7 row R r (i+(o+e)) j=0:=by
    have hz:min (a7 row R r (i+(o+e)) j) m=0:=hz
    omega
   rw[show decide (((0:Nat):Int)=0)=true from rfl,cond_true]
   refine go _ mm2 AO ?_
   simp only[bc]
   rw[hw0,Nat.mul_zero,Nat.add_zero]
  ·rw[decide_eq_false (show ¬((Nat.min (a7 row R r (i+(o+e)) j) m:Nat):Int)=0 by omega),cond_false]
   have Pq:=MK c.b hpm hs0 Ka (dd:=dd) (i:=i) (j:=j) (k:=i+o+e) (by omega) (by omega) qO hgd hsb (s:=s) (by omega) hs (λe1=>by
    rw[hr]
    refine pe (row:=row) Kd r j (λh0=>hz ?_)
    rw[<-Nat.add_assoc,e1,h0]
    exact Nat.zero_min m)
   obtain⟨mm3,e3,Pr⟩:=hS s (i+o+e) hs (by omega) qO Pq mm2 AO
   simp only[e3,aK,oo]
   have hvs:pn m R s i (i+o+e)=Nat.min (R s i (o+e)) m:=by unfold pn;rw[show i+o+e-i=o+e by omega]
   rw[hvs]
   have hsm:Nat.min (R s i (o+e)) m<=m:=Nat.min_le_right _ _
   have hmul:=u0 hbm hsm D5
   rw[show((Nat.min (a7 row R r (i+(o+e)) j) m:Nat):Int)*((Nat.min (R s i (o+e)) m:Nat):Int)=((Nat.min (a7 row R r (i+(o+e)) j) m*Nat.min (R s i (o+e)) m:Nat):Int) by rw[Int.natCast_mul],w6 (by omega)]
   have Ir:Nat.min (Nat.min (a7 row R r (i+(o+e)) j) m*Nat.min (R s i (o+e)) m) m<=m:=Nat.min_le_right _ _
   rw[show((Nat.min (bc (λk=>R s i (o+k)*a7 row R r (i+(o+k)) j) e) m:Nat):Int)+((Nat.min (Nat.min (a7 row R r (i+(o+e)) j) m*Nat.min (R s i (o+e)) m) m:Nat):Int)=((Nat.min (bc (λk=>R s i (o+k)*a7 row R r (i+(o+k)) j) e) m+Nat.min (Nat.min (a7 row R r (i+(o+e)) j) m*Nat.min (R s i (o+e)) m) m:Nat):Int) by omega,w6 (by omega)]
   refine go _ mm3 Pr ?_
   simp only[bc]
   have h1:=(bG.min m (Nat.min (a7 row R r (i+(o+e)) j) m*Nat.min (R s i (o+e)) m)).trans ((bG.min m (a7 row R r (i+(o+e)) j)).mul (bG.min m (R s i (o+e))))
   rw[Nat.mul_comm (a7 row R r (i+(o+e)) j)]at h1
   exact(bG.min m _).add h1
theorem Ke(c:Cx g row d m M R)(hps:∀ p∈g.2.2.1,∃ s0:Nat,p.1=(s0:Int)/\s0<d.length):∀ D,(∀ s i j,s<d.length->i<=j->j<=row.length->muS d g.2.2.1 s i j<D->OkS g row d m R (oN N0 D).1 s i j)/\
 (∀ n dd i j p,g.2.2.1[n]?=some p->dd<=p.2.2.1.length->i<=j->j<=row.length->muQ d g.2.2.1 p dd i j<D->Hk g row d m R (oN N0 D).2 n dd i j p):=by
 intro D
 induction D with
 |zero=>exact⟨λs i j _ _ _ h=>by omega,λn dd i j p _ _ _ _ h=>by omega⟩
 |succ D ih=>
  obtain⟨ihS,ihQ⟩:=ih
  refine⟨λs i j hs hij hj hmu=>?_,λn dd i j p hp hdd hij hj hmu=>?_⟩
  ·exact Po (q34:=(oN N0 D).1) c hs hij hj (λn p hp e=>ihQ n 0 i j p hp (Nat.zero_le _) hij hj (by have:=MJ (d:=d) (ps:=g.2.2.1) (i:=i) (j:=j) e;omega))
  ·obtain⟨s0,h1,h2⟩:=hps p (List.mem_of_getElem? hp)
   exact Pp c hp h1 h2 hdd hij hj (λk q1 q2 q3 q4=>ihQ n (dd+1) k j p hp q3 q2 hj (by omega)) (λs k q1 q2 q3 q4=>ihS s i k q1 q2 (by omega) (by omega))
end
end
noncomputable section
theorem u9{α:Type}{E:Nat->α->Int}:∀ {l:List α} {i:Nat},bn E i l=none->∀ k a,l[k]?=some a->E (i+k) a=0:=by
 intro l
 induction l with
 |nil=>intro i _ k a h;simp at h
 |cons x r ih=>
  intro i h k a hk
  simp only[bn]at h
  split at h
  ·rename_i h0
   cases k with
   |zero=>simp at hk;subst hk;exact h0
   |succ k=>simp at hk;rw[show i+(k+1)=i+1+k by omega];exact ih h k a hk
  ·cases h
theorem iR{g:Grm}(h:(dP g).1=0):(∀ p∈g.2.2.1,(∃ s0:Nat,p.1=(s0:Int)/\s0<g.2.1.length)/\Vb g.2.1.length p.2.2.1/\p.2.2.1.length<=12)/\∃ s:Nat,g.2.2.2.2=(s:Int)/\s<g.2.1.length:=by
 unfold dP at h
 split at h
 ·rename_i h1;exact absurd h h1
 unfold uU at h
 split at h
 ·simp at h
 split at h
 ·rename_i p hp;exact absurd h (ig hp)
 unfold uT at h
 split at h
 ·simp at h
 split at h
 ·rename_i p hp;exact absurd h (ig hp)
 rename_i hpr
 unfold qu at h
 split at h
 ·rename_i p hp;exact absurd h (ig hp)
 unfold uS at h
 split at h
 ·simp at h
 rename_i hst
 refine⟨λp hp=>?_,g.2.2.2.2.toNat,by omega,by omega⟩
 obtain⟨i,hi⟩:=List.mem_iff_getElem?.1 hp
 have h0:=u9 hpr i p hi
 unfold ja at h0
 split at h0
 ·cases h0
 rename_i h1
 split at h0
 ·cases h0
 split at h0
 ·cases h0
 rename_i h3
 split at h0
 ·cases h0
 split at h0
 case isFalse=>cases h0
 unfold qq at h0
 split at h0
 case isFalse=>cases h0
 rename_i h4
 refine⟨⟨p.1.toNat,by omega,by omega⟩,λs hs Js=>?_,by omega⟩
 have:=List.all_eq_true.1 h4 s hs
 unfold dF at this
 rw[if_pos Js]at this
 simp at this
 exact this
structure Sz(g:Grm):Prop where
 ok:pE g
 s:g.2.1.length<=100
 p:g.2.2.1.length<=100
 b:∀ p∈g.2.2.1,p.2.2.1.length<=20
 r:∀ r∈g.1,r.2.2.length<=12
theorem Sz.gok{g:Grm}(h:Sz g):GOk g:=⟨le_max h.ok.l0,λl hl=>le_max (h.ok.l1 l hl),le_max h.ok.p0,λp hp=>le_max (h.ok.p2 p hp),le_max h.ok.r0,le_max h.ok.s0⟩
def lpF(g:Grm):Int:=eM (bD g) g.2.1.length g.2.2.1
theorem sj{g:Grm}(z:Sz g)(hc:(dP g).1=0)(hl:lpF g<0):pg (bD g) g.2.2.1:=by
 obtain⟨h1,h2⟩:=eV g
 have hlen:(bD g).length=g.2.1.length:=h2.len
 have hv:=(iR hc).1
 refine⟨by rw[hlen];exact z.s,λp hp=>by rw[hlen];exact(hv p hp).2.1,λi hi=>?_,by rw[hlen];exact h2⟩
 rw[hlen]at hi |-
 unfold lpF eM at hl
 exact(AG _ (Nat.le_refl _)).1 hl i (by omega) hi
def big(row:List Int)(dY:Int):Prop:=40<row.length\/dY<1\/1000<dY
instance (row:List Int) (dY:Int):Decidable (big row dY):=by unfold big;exact inferInstance
theorem sk{g:Grm}{s:Int}{row:List Int}{dY:Int}{z:Option ((Int×(Int×Unit))×Unit)}(h1:big row dY->z=some ((0,(6,())),()))
 (h2:¬big row dY->aj (λv4:(Unit×(Bool×Unit))=>bif v4.2.1 then(some (((0:Int),((1:Int),())),()))else(ae (p33 N0 (g,())) (λ(v5:(((List Int)×Unit)×Unit))=>(ae (p34 N0 ((g,(row,(dY,(v5.1.1,([]:Mm))))),(s,((0:Int),(((row.length:Nat):Int),()))))) (λv6=>some ((v6.1.1,((0:Int),())),())))))) (λv7=>bif decide (s<0)then v7 ((),(true,()))else(bif decide (((g.2.1.length:Nat):Int)<=s)then v7 ((),(true,()))else(ae (p31 N0 (g,())) (λv8=>bif !decide (v8.1.1.1=0)then v7 ((),(true,()))else(ae (p32 N0 (g,())) (λv9=>v7 ((),(decide (0<=v9.1.1),()))))))))=z):p10 N0 (g,(s,(row,(dY,()))))=z:=by
 unfold p10
 simp only
 refine aq ((),(decide (big row dY),())) (λK=>?_) ?_
 ·by_cases q1:40<row.length
  ·rw[decide_eq_true (show(40:Int)<((row.length:Nat):Int) by omega),cond_true,decide_eq_true (show big row dY from .inl q1)]
  rw[decide_eq_false (show ¬(40:Int)<((row.length:Nat):Int) by omega),cond_false]
  by_cases q2:dY<1
  ·rw[decide_eq_true q2,cond_true,decide_eq_true (show big row dY from .inr (.inl q2))]
  rw[decide_eq_false q2,cond_false]
  have:decide (1000<dY)=decide (big row dY):=by
   rw[decide_eq_decide];unfold big;omega
  rw[this]
 ·simp only
  by_cases hb:big row dY
  ·rw[decide_eq_true hb,cond_true,h1 hb]
  ·rw[decide_eq_false hb,cond_false]
   exact h2 hb
theorem yz{g:Grm}{s:Int}{row:List Int}{dY:Int}(h:big row dY):p10 N0 (g,(s,(row,(dY,()))))=some ((0,(6,())),()):=sk (λ_=>rfl) (λh'=>absurd h h')
theorem lD{g:Grm}(z:Sz g){s:Int}{row:List Int}{dY:Int}(hb:¬big row dY)(h:s<0\/(g.2.1.length:Int)<=s\/¬(dP g).1=0\/0<=lpF g):p10 N0 (g,(s,(row,(dY,()))))=some ((0,(1,())),()):=by
 refine sk (λh'=>absurd h' hb) (λ_=>?_)
 refine aq ((),(true,())) (λK=>?_) rfl
 by_cases q1:s<0
 ·rw[decide_eq_true q1,cond_true]
 rw[decide_eq_false q1,cond_false]
 by_cases q2:(g.2.1.length:Int)<=s
 ·rw[decide_eq_true q2,cond_true]
 rw[decide_eq_false q2,cond_false,aa (DJ z.ok z.r)]
 simp only
 by_cases q3:(dP g).1=0
 ·rw[decide_eq_true q3,Bool.not_true,cond_false,aa (DS g z.gok z.s z.p z.b)]
  simp only
  have:(0:Int)<=lpF g:=by
   rcases h with h|h|h|h
   ·exact absurd h q1
   ·exact absurd h q2
   ·exact absurd q3 h
   ·exact h
  rw[decide_eq_true (show(0:Int)<=eM (bD g) g.2.1.length g.2.2.1 from this)]
 ·rw[decide_eq_false q3,Bool.not_false,cond_true]
theorem iS{g:Grm}(z:Sz g)(hc:(dP g).1=0)(hl:lpF g<0){s:Nat}(hs:s<g.2.1.length){row:List Int}(bP:row.length<=40){m M:Nat}(hm1:1<=m)(hmM:m<=M)(hM:M<=1000){R:Tb}(hR:ij row (bD g) g.2.2.1 M row.length (row.length+1) (λ_ _=>0) R):
 p10 N0 (g,((s:Int),(row,((m:Int),()))))=some ((((Nat.min (R s 0 row.length) m:Nat):Int),((0:Int),())),()):=by
 have hb:¬big row (m:Int):=by unfold big;omega
 have tb:=sj z hc hl
 have hlen:(bD g).length=g.2.1.length:=(eV g).2.len
 refine sk (λh'=>absurd h' hb) (λ_=>?_)
 refine aq ((),(false,())) (λK=>?_) ?_
 ·rw[decide_eq_false (by omega),cond_false,decide_eq_false (by omega),cond_false,aa (DJ z.ok z.r)]
  simp only
  rw[decide_eq_true hc,Bool.not_true,cond_false,aa (DS g z.gok z.s z.p z.b)]
  simp only
  rw[decide_eq_false (show ¬(0:Int)<=eM (bD g) g.2.1.length g.2.2.1 from λh=>by have:lpF g=eM (bD g) g.2.1.length g.2.2.1:=rfl;omega)]
 ·simp only
  rw[cond_false,aa (DM g z.gok z.s)]
  simp only
  have c:Cx g row (bD g) m M R:=⟨tb,bP,hm1,hmM,hM,z.p,z.b,hR⟩
  have Ps:=(Ke c (λp hp=>by rw[hlen];exact((iR hc).1 p hp).1) N0).1 s 0 row.length (by rw[hlen];exact hs) (Nat.zero_le _) (Nat.le_refl _) (by
   have h1:=D2 (d:=bD g) (ps:=g.2.2.1) (s:=s) (i:=0) (j:=row.length)
   have h2:(row.length-0)*((bD g).length+1)<=40*101:=Nat.mul_le_mul (by omega) (by have:=tb.dl;omega)
   have h3:=tb.dl
   unfold N0
   omega)
  obtain⟨mm,e,_⟩:=Ps [] dK.nil
  have e2:p34 N0 ((g,(row,((m:Int),(bD g,([]:Mm))))),((s:Int),((0:Int),(((row.length:Nat):Int),()))))=_:=e
  rw[aa e2]
  simp only[pn,Nat.sub_zero]
end
noncomputable section
theorem Pt{R R':Tb}{ns N:Nat}(h:tab R ns N=tab R' ns N){s i k:Nat}(hs:s<ns)(hi:i<=N)(hk:k<=N):R s i k=R' s i k:=by
 have h1:=congrArg (λt=>t[s]?) h
 simp only[fg R hs,fg R' hs,Option.some.injEq]at h1
 have h2:=congrArg (λt=>t[i]?) h1
 simp only[dR R hi,dR R' hi,Option.some.injEq]at h2
 have h3:=congrArg (λt=>t[k]?) h2
 simp only[bK (R s i) hk,bK (R' s i) hk,Option.some.injEq]at h3
 omega
def exG:Grm:=([([88],((0:Int),[120]))],([[69]],([((0:Int),([84,119,111],([(true,0),(true,0)],(false,(-1,[0]))))),(0,([79,110,101],([(false,0)],(false,(-1,[])))))],([],(0:Int)))))
theorem ni:Sz exG:=by
 have hb:∀ l:List Int,(l.all λc=>decide (0<=c/\c<=255))=true->Bytes l:=λl h c hc=>by
  have:=List.all_eq_true.1 h c hc
  simpa using this
 refine⟨⟨by decide,λr hr=>?_,by decide,λs hs=>?_,by decide,λp hp=>?_,λp hp=>?_,λp hp=>?_,by decide,λl hl=>?_⟩,by decide,by decide,λp hp=>?_,λr hr=>?_⟩
 ·simp[exG]at hr
  subst hr
  exact⟨hb _ (by decide),by decide,hb _ (by decide),by decide⟩
 ·simp[exG]at hs
  subst hs
  exact⟨hb _ (by decide),by decide⟩
 ·simp[exG]at hp
  rcases hp with rfl|rfl
  ·exact⟨hb _ (by decide),by decide⟩
  ·exact⟨hb _ (by decide),by decide⟩
 ·simp[exG]at hp;rcases hp with rfl|rfl <;> decide
 ·simp[exG]at hp;rcases hp with rfl|rfl <;> decide
 ·simp[exG]at hl
 ·simp[exG]at hp;rcases hp with rfl|rfl <;> decide
 ·simp[exG]at hr;subst hr;decide
theorem Pu:p13 N0 (exG,())=some ((0,(0,(0,()))),()):=by kernel_rfl
theorem Pv:p14 N0 (exG,())=some ((-1,()),()):=by kernel_rfl
theorem Pw:p15 N0 (exG,([0,0,0],(9,())))=some (([[[0,1,1,2],[0,1,1,0],[0,1,0,0],[0,0,0,0]]],()),()):=by kernel_rfl
theorem MN:p15 N0 (exG,([0,0],(2,())))=some (([[[0,1,1],[0,1,0],[0,0,0]]],()),()):=by kernel_rfl
theorem Px:(dP exG).1=0/\lpF exG<0:=by
 have h1:=wX ni.ok
 rw[Pu]at h1
 have h2:=w5 exG ni.gok ni.s ni.p ni.b
 rw[Pv]at h2
 injection h1 with h1
 injection h2 with h2
 have e1:(0:Int)=(dP exG).1:=congrArg (λx=>x.1.1) h1
 have e2:(-1:Int)=lpF exG:=congrArg (λx=>x.1.1) h2
 omega
theorem Py{g:Grm}(z:Sz g)(hc:(dP g).1=0)(hl:lpF g<0){s:Nat}(hs:s<g.2.1.length){row:List Int}(bP:row.length<=40){m M:Nat}(hm1:1<=m)(hmM:m<=M)(hM:M<=1000){R:Tb}(hR:ij row (bD g) g.2.2.1 M row.length (row.length+1) (λ_ _=>0) R):
 p10 N0 (g,((s:Int),(row,((m:Int),()))))=some ((((Nat.min (R s 0 row.length) m:Nat):Int),((0:Int),())),()):=iS z hc hl hs bP hm1 hmM hM hR
theorem Hl:p7 N0 ()=some ((true,()),()):=by
 obtain⟨hc,hl⟩:=Px
 have hlen:(bD exG).length=exG.2.1.length:=(eV exG).2.len
 have hb:=sj ni hc hl
 obtain⟨R,e,hR⟩:=w7 (g:=exG) (row:=[0,0,0]) (d:=bD exG) (M:=9) (by omega) (by omega) (by decide) hlen hb ni.p ni.b
 obtain⟨R2,e2,hR2⟩:=w7 (g:=exG) (row:=[0,0]) (d:=bD exG) (M:=2) (by omega) (by omega) (by decide) hlen hb ni.p ni.b
 have n9:((9:Nat):Int)=9:=rfl
 have n2:((2:Nat):Int)=2:=rfl
 rw[n9]at e
 rw[n2]at e2
 have e:=Pw.symm.trans e
 have e2:=MN.symm.trans e2
 have e:=Option.some.inj e
 have e2:=Option.some.inj e2
 have t1:([[[0,1,1,2],[0,1,1,0],[0,1,0,0],[0,0,0,0]]]:List (List (List Int)))=tab R 1 3:=by
  have:=congrArg (λx=>x.1.1) e
  simp only at this
  rw[hlen]at this
  exact this
 have t2:([[[0,1,1],[0,1,0],[0,0,0]]]:List (List (List Int)))=tab R2 1 2:=by
  have:=congrArg (λx=>x.1.1) e2
  simp only at this
  rw[hlen]at this
  exact this
 have r1:R 0 0 3=2:=by
  have a1:=congrArg (λt=>t[0]?) t1
  simp only[fg R (show 0<1 by omega)]at a1
  have a2:[[0,1,1,2],[0,1,1,0],[0,1,0,0],[0,0,0,0]]=jN R 0 3:=by simpa using a1
  have a3:=congrArg (λt=>t[0]?) a2
  simp only[dR R (show 0<=3 by omega)]at a3
  have a4:[0,1,1,2]=dX (R 0 0) 3:=by simpa using a3
  have a5:=congrArg (λt=>t[3]?) a4
  simp only[bK (R 0 0) (show 3<=3 by omega)]at a5
  have a6:(2:Int)=((R 0 0 3:Nat):Int):=by simpa using a5
  omega
 have r2:R2 0 0 2=1:=by
  have a1:=congrArg (λt=>t[0]?) t2
  simp only[fg R2 (show 0<1 by omega)]at a1
  have a2:[[0,1,1],[0,1,0],[0,0,0]]=jN R2 0 2:=by simpa using a1
  have a3:=congrArg (λt=>t[0]?) a2
  simp only[dR R2 (show 0<=2 by omega)]at a3
  have a4:[0,1,1]=dX (R2 0 0) 2:=by simpa using a3
  have a5:=congrArg (λt=>t[2]?) a4
  simp only[bK (R2 0 0) (show 2<=2 by omega)]at a5
  have a6:(1:Int)=((R2 0 0 2:Nat):Int):=by simpa using a5
  omega
 have v1:=iS ni hc hl (s:=0) (by decide) (row:=[0,0,0]) (by decide) (m:=9) (M:=9) (by omega) (by omega) (by omega) hR
 have v2:=iS ni hc hl (s:=0) (by decide) (row:=[0,0]) (by decide) (m:=2) (M:=2) (by omega) (by omega) (by omega) hR2
 have w1:p10 N0 (exG,((0:Int),(([0,0,0]:List Int),((9:Int),()))))=some ((2,(0,())),()):=by
  refine v1.trans ?_
  show some (((((Nat.min (R 0 0 3) 9:Nat):Int)),_),())=_
  rw[r1];rfl
 have w2:p10 N0 (exG,((0:Int),(([0,0]:List Int),((2:Int),()))))=some ((1,(0,())),()):=by
  refine v2.trans ?_
  show some (((((Nat.min (R2 0 0 2) 2:Nat):Int)),_),())=_
  rw[r2];rfl
 have u2:p12 N0 (exG,(([0,0]:List Int),()))=some ((true,(0,())),()):=by
  unfold p12
  show ae (p10 N0 (exG,((0:Int),(([0,0]:List Int),((2:Int),()))))) _=_
  rw[aa w2]
  rfl
 unfold p7
 show ae (p10 N0 (exG,((0:Int),(([0,0,0]:List Int),((9:Int),()))))) _=_
 rw[aa w1]
 simp only
 show ae (p12 N0 (exG,(([0,0]:List Int),()))) _=_
 rw[aa u2]
 rfl
theorem MO{g:Grm}(hl:g.1.length<=100000):p9 N0 (g,())=some ((g.1.all (λr=>decide (r.2.2.length<=12)),()),()):=by
 unfold p9
 simp only
 refine(cU g.1 (λr=>decide (r.2.2.length<=12)) (some ((false,()),())) (some ((true,()),())) (λj=>((),((j:Int),()))) (λj h k=>?_) (λk=>?_) N0 (eH hl)).trans ?_
 ·simp only
  rw[decide_eq_true (show(j:Int)<((g.1.length:Nat):Int) by omega),cond_true,if_pos (by omega),Int.toNat_natCast,List.getElem?_eq_getElem h]
  simp only
  by_cases e:g.1[j].2.2.length<=12
  ·rw[decide_eq_true e,if_pos rfl,decide_eq_false (by omega),cond_false,aC h (le_max hl)]
  ·rw[decide_eq_false e,if_neg (by simp),decide_eq_true (by omega),cond_true]
 ·simp only
  rw[decide_eq_false (by omega),cond_false]
 ·cases g.1.all (λr=>decide (r.2.2.length<=12)) <;> rfl
theorem MP{g:Grm}(h:WfT y26 g)(hf:few g=true)(h12:g.1.all (λr=>decide (r.2.2.length<=12))=true):Sz g:=by
 obtain⟨⟨h1,h1'⟩,⟨h2,h2'⟩,⟨h3,h3'⟩,⟨h4,h4'⟩,h5⟩:=h
 unfold few qv at hf
 simp only[Bool.and_eq_true,decide_eq_true_eq,List.all_eq_true]at hf h12
 obtain⟨⟨f1,f2⟩,f3,f4,f5,f6,f7,f8⟩:=hf
 have p7:∀ p∈g.2.2.1,p.2.2.1.length<=20/\p.2.2.2.2.2.length<=20/\p.2.1.length<=100:=λp hp=>by
  have:=f7 p hp
  unfold sc at this
  simpa using this
 refine⟨⟨by omega,λr hr=>?_,by omega,λs hs=>⟨(h2' s hs).2,(h2' s hs).1⟩,by omega,λp hp=>⟨(h3' p hp).2.1.2,(h3' p hp).2.1.1⟩,λp hp=>by have:=(p7 p hp).1;omega,λp hp=>by have:=(p7 p hp).2.1;omega,by omega,λl hl=>by have:=f8 l hl;omega⟩,by omega,by omega,λp hp=>(p7 p hp).1,λr hr=>h12 r hr⟩
 have:=h1' r hr
 exact⟨this.1.2,this.1.1,this.2.2.2,this.2.2.1⟩
end
noncomputable section
theorem w9{g:Grm}{row:List Int}{n e:Int}(h:p10 N0 (g,(g.2.2.2.2,(row,((1:Int),()))))=some ((n,(e,())),())):p11 N0 (g,(row,()))=some ((decide (0<n),(e,())),()):=by
 unfold p11
 simp only
 rw[aa h]
theorem xa{g:Grm}{row:List Int}{n e:Int}(h:p10 N0 (g,(g.2.2.2.2,(row,((2:Int),()))))=some ((n,(e,())),())):p12 N0 (g,(row,()))=some ((decide (n=1),(e,())),()):=by
 unfold p12
 simp only
 rw[aa h]
theorem Hm{g:Grm}{row two:List Int}(h:WfT y26 g)(hrl:row.length<=maxLen)(h2:two.length=2):p3 N0 (g,(row,(two,())))=some ((true,()),()):=by
 obtain⟨s,dY,rfl⟩:∃ s dY,two=[s,dY]:=by
  match two,h2 with
  |[a,b],_=>exact⟨a,b,rfl⟩
 have hgk:=JX h
 unfold p3
 simp only
 rw[aa Hl]
 simp only
 rw[Bool.not_true,cond_false]
 refine aq ((),(decide (few g=false\/12<g.2.2.1.length\/(8<row.length/\row.length<=40)\/g.1.all (λr=>decide (r.2.2.length<=12))=false),())) (λK=>?_) ?_
 ·rw[aa (MC g hgk)]
  simp only
  cases hf:few g
  ·rw[Bool.not_false,cond_true,decide_eq_true (.inl rfl)]
  rw[Bool.not_true,cond_false]
  by_cases q1:12<g.2.2.1.length
  ·rw[decide_eq_true (show(12:Int)<((g.2.2.1.length:Nat):Int) by omega),cond_true,decide_eq_true (.inr (.inl q1))]
  rw[decide_eq_false (show ¬(12:Int)<((g.2.2.1.length:Nat):Int) by omega),cond_false]
  have hrr:g.1.length<=100000:=by
   unfold few qv at hf
   simp only[Bool.and_eq_true,decide_eq_true_eq]at hf
   omega
  have hp9:=MO hrr
  by_cases q2:8<row.length
  ·rw[decide_eq_true (show(8:Int)<((row.length:Nat):Int) by omega),cond_true]
   by_cases q3:row.length<=40
   ·rw[decide_eq_true (show((row.length:Nat):Int)<=40 by omega),cond_true,decide_eq_true (.inr (.inr (.inl ⟨q2,q3⟩)))]
   ·rw[decide_eq_false (show ¬((row.length:Nat):Int)<=40 by omega),cond_false,aa hp9]
    simp only
    cases ha:g.1.all (λr=>decide (r.2.2.length<=12))
    ·rw[decide_eq_true (.inr (.inr (.inr rfl)))];rfl
    ·rw[decide_eq_false (by simp;omega)];rfl
  ·rw[decide_eq_false (show ¬(8:Int)<((row.length:Nat):Int) by omega),cond_false,aa hp9]
   simp only
   cases ha:g.1.all (λr=>decide (r.2.2.length<=12))
   ·rw[decide_eq_true (.inr (.inr (.inr rfl)))];rfl
   ·rw[decide_eq_false (by simp;omega)];rfl
 simp only
 by_cases hg:few g=false\/12<g.2.2.1.length\/(8<row.length/\row.length<=40)\/g.1.all (λr=>decide (r.2.2.length<=12))=false
 ·rw[decide_eq_true hg,cond_true]
 rw[decide_eq_false hg,cond_false]
 have hf:few g=true:=by
  cases hf:few g
  ·exact absurd (.inl hf) hg
  ·rfl
 have h12:g.1.all (λr=>decide (r.2.2.length<=12))=true:=by
  cases ha:g.1.all (λr=>decide (r.2.2.length<=12))
  ·exact absurd (.inr (.inr (.inr ha))) hg
  ·rfl
 have z:=MP h hf h12
 have z0:((0:Int)).toNat=0:=rfl
 have z1:((1:Int)).toNat=1:=rfl
 rw[if_pos (Int.le_refl _),z0]
 simp only[List.getElem?_cons_zero,z1,List.getElem?_cons_succ]
 rw[if_pos (by omega)]
 -- Bk any count dQ
 have MQ:∀ M:Nat,1<=M->M<=1000->row.length<=40->(dP g).1=0->lpF g<0->pk row (bD g) g.2.2.1 M row.length (p15 N0 (g,(row,((M:Int),())))):=λM h1 h2 h3 h4 h5=>
  w7 h2 h1 h3 (eV g).2.len (sj z h4 h5) z.p z.b
 have tot:∀ m:Nat,1<=m->m<=1000->∃ n e,p10 N0 (g,(g.2.2.2.2,(row,((m:Int),()))))=some ((n,(e,())),()):=by
  intro m hm1 hm2
  by_cases hb:big row (m:Int)
  ·exact⟨_,_,yz hb⟩
  by_cases ha:g.2.2.2.2<0\/(g.2.1.length:Int)<=g.2.2.2.2\/¬(dP g).1=0\/0<=lpF g
  ·exact⟨_,_,lD z hb ha⟩
  ·have bP:row.length<=40:=by unfold big at hb;omega
   have hc:(dP g).1=0:=by
    apply Classical.byContradiction
    intro hn
    exact ha (.inr (.inr (.inl hn)))
   have hl:lpF g<0:=by omega
   obtain⟨R,_,hR⟩:=MQ m hm1 hm2 bP hc hl
   obtain⟨st,hst,D7⟩:=(iR hc).2
   rw[hst]
   exact⟨_,_,iS z hc hl D7 bP hm1 (Nat.le_refl _) hm2 hR⟩
 obtain⟨n1,e1,t1⟩:=tot 1 (by omega) (by omega)
 obtain⟨n2,e2,t2⟩:=tot 2 (by omega) (by omega)
 have u1:=w9 t1
 have u2:=xa t2
 by_cases xb:big row dY
 ·rw[aa (yz xb)]
  simp only
  rw[aa u1]
  simp only
  rw[aa u2]
  simp only
  refine aq ((),(true,())) (λK=>?_) ?_
  ·by_cases q1:40<row.length
   ·rw[decide_eq_true (show(40:Int)<((row.length:Nat):Int) by omega),cond_true]
   rw[decide_eq_false (show ¬(40:Int)<((row.length:Nat):Int) by omega),cond_false]
   by_cases q2:dY<1
   ·rw[decide_eq_true q2,cond_true]
   rw[decide_eq_false q2,cond_false,decide_eq_true (by unfold big at xb;omega)]
  ·rfl
 have bP:row.length<=40:=by unfold big at xb;omega
 have hm1:1<=dY:=by unfold big at xb;omega
 have hm2:dY<=1000:=by unfold big at xb;omega
 have Pz:¬big row 1:=by unfold big;omega
 have PA:¬big row 2:=by unfold big;omega
 by_cases D8:¬(dP g).1=0\/0<=lpF g
 ·-- a M4 Mz may not be,or loops
  have w1:=w9 (lD z (s:=g.2.2.2.2) Pz (.inr (.inr D8)))
  have w2:=xa (lD z (s:=g.2.2.2.2) PA (.inr (.inr D8)))
  rw[aa (lD z xb (.inr (.inr D8)))]
  simp only
  rw[aa w1]
  simp only
  rw[aa w2]
  simp only
  refine aq ((),(false,())) (λK=>?_) ?_
  ·rw[decide_eq_false (show ¬(40:Int)<((row.length:Nat):Int) by omega),cond_false,decide_eq_false (by omega),cond_false,decide_eq_false (by omega)]
  ·simp only
   rw[cond_false,aa (wX z.ok)]
   simp only
   refine aq ((),(true,())) (λK=>?_) ?_
   ·by_cases q:(dP g).1=0
    ·rw[decide_eq_true q,Bool.not_true,cond_false,aa (w5 g z.gok z.s z.p z.b)]
     simp only
     have hl:(0:Int)<=eM (bD g) g.2.1.length g.2.2.1:=D8.resolve_left (λh=>h q)
     rw[decide_eq_true hl]
    ·rw[decide_eq_false q,Bool.not_false,cond_true]
   ·rfl
 ·have hc:(dP g).1=0:=by
   apply Classical.byContradiction
   intro hn
   exact D8 (.inl hn)
  have hl:lpF g<0:=by omega
  obtain⟨st,hst,D7⟩:=(iR hc).2
  obtain⟨m,rfl⟩:∃ m:Nat,dY=(m:Int):=⟨dY.toNat,by omega⟩
  have hm1:1<=m:=by omega
  have hm2:m<=1000:=by omega
  have hMM:(if(m:Int)<2 then(2:Int)else(m:Int))=((Nat.max m 2:Nat):Int):=by
   show _=((max m 2:Nat):Int)
   rw[Nat.max_def]
   split <;> split <;> omega
  have hMb:Nat.max m 2<=1000:=Nat.max_le.2 ⟨hm2,by omega⟩
  have hM1:m<=Nat.max m 2:=Nat.le_max_left _ _
  have hM2:2<=Nat.max m 2:=Nat.le_max_right _ _
  obtain⟨R,MR,hR⟩:=MQ (Nat.max m 2) (by omega) hMb bP hc hl
  have v1:=iS z hc hl D7 bP (m:=1) (by omega) (by omega) hMb hR
  have v2:=iS z hc hl D7 bP (m:=2) (by omega) hM2 hMb hR
  rw[<-hst]at v1 v2
  have w1:=w9 v1
  have w2:=xa v2
  have hlen:(bD g).length=g.2.1.length:=(eV g).2.len
  rw[hlen]at MR
  -- how many of the sort asked for
  have hv:∃ n e:Int,p10 N0 (g,(s,(row,((m:Int),()))))=some ((n,(e,())),())/\((s<0\/(g.2.1.length:Int)<=s)->n=0/\e=1)/\(¬(s<0\/(g.2.1.length:Int)<=s)->n=((Nat.min (R s.toNat 0 row.length) m:Nat):Int)/\e=0):=by
   by_cases q:s<0\/(g.2.1.length:Int)<=s
   ·exact⟨0,1,lD z xb (q.elim .inl (λh=>.inr (.inl h))),λ_=>⟨rfl,rfl⟩,λh=>absurd q h⟩
   ·obtain⟨t,rfl⟩:∃ t:Nat,s=(t:Int):=⟨s.toNat,by omega⟩
    exact⟨_,_,iS z hc hl (s:=t) (by omega) bP hm1 hM1 hMb hR,λh=>absurd h q,λ_=>⟨by rw[Int.toNat_natCast],rfl⟩⟩
  obtain⟨n,e,v0,PB,MS⟩:=hv
  rw[aa v0]
  simp only
  rw[aa w1]
  simp only
  rw[aa w2]
  simp only
  refine aq ((),(false,())) (λK=>?_) ?_
  ·rw[decide_eq_false (show ¬(40:Int)<((row.length:Nat):Int) by omega),cond_false,decide_eq_false (by omega),cond_false,decide_eq_false (by omega)]
  simp only
  rw[cond_false,aa (wX z.ok)]
  simp only
  refine aq ((),(false,())) (λK=>?_) ?_
  ·rw[decide_eq_true hc,Bool.not_true,cond_false,aa (w5 g z.gok z.s z.p z.b)]
   simp only
   rw[decide_eq_false (show ¬(0:Int)<=eM (bD g) g.2.1.length g.2.2.1 from λh=>by have:lpF g=eM (bD g) g.2.1.length g.2.2.1:=rfl;omega)]
  simp only
  rw[cond_false,hMM,aa MR]
  simp only
  rw[hst]
  have g1:((0:Int)<=((row.length:Nat):Int)):=by omega
  have gs:(tab R g.2.1.length row.length)[((st:Nat):Int).toNat]?=some (jN R st row.length):=by rw[Int.toNat_natCast];exact fg R D7
  have g0:(jN R st row.length)[0]?=some (dX (R st 0) row.length):=dR R (Nat.zero_le _)
  have gl:(dX (R st 0) row.length)[(((row.length:Nat):Int)).toNat]?=some ((R st 0 row.length:Nat):Int):=by rw[Int.toNat_natCast];exact bK _ (Nat.le_refl _)
  refine aq ((),(false,())) (λK=>?_) ?_
  ·rw[decide_true,Bool.not_true,cond_false,cond_false,if_pos (by omega),gs]
   simp only
   rw[if_pos (Int.le_refl _),g0]
   simp only
   rw[if_pos g1,gl]
   simp only
   have c1:decide ((0:Int)<((Nat.min (R st 0 row.length) 1:Nat):Int))=decide ((0:Int)<((R st 0 row.length:Nat):Int)):=by
    rw[decide_eq_decide]
    show(0:Int)<((min (R st 0 row.length) 1:Nat):Int)↔_
    omega
   have c2:decide (((Nat.min (R st 0 row.length) 2:Nat):Int)=1)=decide (((R st 0 row.length:Nat):Int)=1):=by
    rw[decide_eq_decide]
    show((min (R st 0 row.length) 2:Nat):Int)=1↔_
    omega
   rw[c1,c2,beq_self_eq_true,Bool.not_true,cond_false,beq_self_eq_true,Bool.not_true,if_pos (by omega),if_pos (Int.le_refl _),if_pos g1]
  simp only
  rw[cond_false]
  refine aq ((),(decide (s<0\/(g.2.1.length:Int)<=s),())) (λK=>?_) ?_
  ·by_cases q1:s<0
   ·rw[decide_eq_true q1,cond_true,decide_eq_true (.inl q1)]
   ·rw[decide_eq_false q1,cond_false]
    have:decide (s<0\/(g.2.1.length:Int)<=s)=decide ((g.2.1.length:Int)<=s):=by rw[decide_eq_decide];exact⟨λh=>h.resolve_left q1,.inr⟩
    rw[this]
  simp only
  by_cases q:s<0\/(g.2.1.length:Int)<=s
  ·obtain⟨rfl,rfl⟩:=PB q
   rw[decide_eq_true q,cond_true]
   rfl
  ·obtain⟨rfl,rfl⟩:=MS q
   rw[decide_eq_false q,cond_false]
   obtain⟨t,rfl⟩:∃ t:Nat,s=(t:Int):=⟨s.toNat,by omega⟩
   have hs':(tab R g.2.1.length row.length)[((t:Nat):Int).toNat]?=some (jN R t row.length):=by rw[Int.toNat_natCast];exact fg R (by omega)
   have h0':(jN R t row.length)[0]?=some (dX (R t 0) row.length):=dR R (Nat.zero_le _)
   have hl':(dX (R t 0) row.length)[(((row.length:Nat):Int)).toNat]?=some ((R t 0 row.length:Nat):Int):=by rw[Int.toNat_natCast];exact bK _ (Nat.le_refl _)
   refine aq ((),(true,())) (λK=>?_) rfl
   rw[show decide ((0:Int)=0)=true from rfl,cond_true,if_pos (by omega),hs']
   simp only
   rw[if_pos (Int.le_refl _),h0']
   simp only
   rw[if_pos g1,hl']
   simp only
   have:((Nat.min (R t 0 row.length) m:Nat):Int)=if(m:Int)<((R t 0 row.length:Nat):Int)then(m:Int)else((R t 0 row.length:Nat):Int):=by
    show((min (R t 0 row.length) m:Nat):Int)=_
    rw[Nat.min_def]
    split <;> split <;> omega
   rw[Int.toNat_natCast,decide_eq_true this]
end
end Go.Proofs.YthalkfdkbalpmaaGreat.Rf.Rk
namespace Go.Proofs.YthalkfdkbalpmaaGreat
open Go Go.ChangeShapes Go.WideShapes Go.ChangeAt Go.RowKit Go.Proofs.YthalkfdkbalpmaaGreat.Rf
noncomputable section
theorem nj:ownKnob Tryz.prog.godebug=none:=by kernel_rfl
theorem mC:laidOutB Tryz.prog=true:=by kernel_rfl
set_option maxRecDepth 100000 in
theorem kD(os:Os)(started:os.Started)(H:Type)(enc:TypeId×Value->H):
 ReturnsInHanded {} Tryz.checked os 3 .any (Rows.deriveTreesSpec.pre6 enc Tryz.prog Tryz.f3 Rows.deriveTreesRow.domain false) (Rows.deriveTreesSpec.post enc Tryz.prog Tryz.f3 false true false false):=by
 refine returnsInHanded_of_change (C:=Tryz.checked) nj started (by kernel_rfl) Tryz.func3
  (ChangeSpec.witness6 (enc:=enc) (C:=Tryz.checked) false ⟨#[],#[.agg #[.slice none 0 0,.slice none 0 0,.slice none 0 0,.slice none 0 0,.int .i64 0],.slice none 0 0,.agg #[.int .i64 0,.int .i64 0]],[]⟩ 8 (by kernel_rfl) (by kernel_rfl) (by kernel_rfl) (by kernel_rfl)) ?_
 intro W base args ds gs before MT hW0 PW _
 have hW:DataW.Whole enc Tryz.prog Tryz.f3.params.toList Rows.deriveTreesSpec.vars false W args.toList ds gs before:=hW0
 have Il:∀ (j:Nat) t v,Tryz.f3.params.toList[j]?=some t->args[j]?=some v->Value.okWide Tryz.prog W .any base t v:=λj t v h1 h2=>MT j t v (by simpa using h1) h2
 have hA:∃ p,DataW.TrodAll enc Tryz.prog W 0 (λ_=>true) true Tryz.f3.params.toList args.toList ds p:=by
  obtain⟨p,q,hA0,_⟩:=hW
  exact⟨p,hA0⟩
 obtain⟨p,hA⟩:=hA
 refine(zZ Cs (ok3 N0) (λx hx=>by obtain⟨g,row,two,u⟩:=x;exact Rk.Hm hx.1 hx.2.1.1 hx.2.2.1.1) (n:=12) (ts:=Tryz.f3.params.toList) (by rw[Tryz.params3];rfl) hA Il (λp hp=>by cases hp)).mono λe W' he=>?_
 obtain⟨he,hb⟩:=he
 exact⟨.bool true,he,Cq mC (s:=Rows.deriveTreesSpec) rfl ⟨4,by kernel_rfl,Tryz.underlying4⟩ (λds hd=>by rw[Tryz.params3]at hd;match ds,hd with|[_,_,_],_=>rfl) (by rw[Tryz.params3];kernel_rfl) hW hb⟩
theorem deriveTrees_holds:Rows.DeriveTreesSaid:=
 OpenClaim.holds_of_wide 3 Tryz.f3 rfl rfl rfl rfl rfl rfl rfl ⟨rfl,rfl,rfl,rfl,rfl⟩ rfl rfl rfl rfl rfl (by kernel_rfl) Tryz.func3 (by kernel_rfl)
  (of_decide_eq_true (by kernel_rfl)) (by unfold Func.isWrapper;first|(rw[if_pos (by decide +kernel)];kernel_rfl)|(rw[if_neg (by decide +kernel)];exact⟨rfl,rfl⟩))
  (λos started H enc _=>kD os started H enc)
end
end Go.Proofs.YthalkfdkbalpmaaGreat
