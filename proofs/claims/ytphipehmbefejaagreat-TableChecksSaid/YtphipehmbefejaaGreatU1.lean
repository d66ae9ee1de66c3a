/- A part of a proof that a given statement (the one of this claim: the name of its theorem ends in _holds) is true of the program, with no condition ahead of it. Printed by wip/dev/pack2.py out of the texts in wip. -/
import Derived.Below
import Derived.Calls
import Derived.Orders
import Derived.Laws.IdiomCopy
import Derived.Laws.Cells
import Derived.Laws.Entries
import Derived.Deep.AppendSrc
import Derived.Laws.StructEq
import Derived.Laws.Small
import Derived.Deep.Upon
import Derived.Laws.AppendOwn
import Derived.Laws.Append
import Derived.Conc.LoneSelectN
import Derived.Laws.BytesArg
import Derived.ChangeKeysEq
import Derived.Laws.IdiomStrings
import Derived.Laws.Pointers
import Derived.MapKept
import Derived.Laws.Cover3
import Derived.Lib.SliceRun
import Derived.WalkSpells
import Derived.Conc.LoneSelect
import Derived.Test.YtphipehmbefejaaGreatProg
import Derived.KernelRfl
import Derived.ProofKit
import Derived.OpenShut
import Derived.WalkKit
import Derived.Lib.Hide
import Derived.Lib.AppendZerosOnto
import Derived.Lib.Overlaps
import Derived.Shelf.RegionOpenPlain
import Derived.Laws.Externs
import Derived.Shelf.SlSortCmp.NoneTotal
import Derived.Test.YtphipehmbefejaaGreatRows
set_option linter.unusedVariables false
set_option linter.unusedSimpArgs false
namespace Go.Proofs.YtphipehmbefejaaGreat.Rf
open Go
noncomputable section
abbrev rM:=@Array.getElem?_setIfInBounds_self_of_lt
abbrev rN:=@List.take_succ_eq_append_getElem
abbrev rO:=@Nat.testBit_eq_decide_div_mod_eq
abbrev nU:=@Array.getElem?_setIfInBounds_ne
abbrev fF:=@List.drop_append_of_le_length
abbrev eQ:=@List.take_append_of_le_length
abbrev cX:=@List.eq_nil_of_length_eq_zero
abbrev dM:=@Array.getD_eq_getD_getElem?
abbrev jn:=@List.getElem?_append_right
abbrev ie:=@Array.getElem?_eq_some_iff
abbrev nV:=@Array.getElem?_append_left
abbrev bB:=@List.getElem?_eq_some_iff
abbrev ig:=@List.getElem?_append_left
abbrev dB:=@List.drop_eq_getElem_cons
abbrev jo:=@Option.isSome_iff_exists
abbrev au:=@List.getElem?_eq_getElem
abbrev nW:=@World.cell?_setCells_out
abbrev jq:=@List.getElem?_cons_zero
abbrev jr:=@List.getElem?_cons_succ
abbrev nX:=@List.append_cancel_left
abbrev bN:=@Option.bind_eq_some_iff
abbrev nY:=@Nat.add_sub_cancel_left
abbrev jt:=@List.getElem?_replicate
abbrev ju:=@List.drop_eq_nil_of_le
abbrev nZ:=@Option.map_eq_some_iff
abbrev dC:=@List.take_of_length_le
abbrev fG:=@MapKept.run_getObj_map
abbrev jv:=@List.drop_of_length_le
abbrev n5:=@List.length_pos_of_mem
abbrev n9:=@Nat.testBit_lt_two_pow
abbrev dN:=@List.take_append_drop
abbrev aV:=@Nat.eq_of_beq_eq_true
abbrev fH:=@Nat.le_of_ble_eq_true
abbrev lC:=@Array.getElem?_modify
abbrev eD:=@Array.getElem?_toList
abbrev br:=@List.getElem?_eq_none
abbrev gk:=@List.length_replicate
abbrev jw:=@List.mem_iff_getElem?
abbrev ij:=@Bool.and_eq_false_iff
abbrev gl:=@List.length_singleton
abbrev eR:=@Nat.mul_le_mul_right
abbrev eS:=@Bool.or_eq_false_iff
abbrev gm:=@Array.toArray_toList
abbrev eT:=@List.mem_of_getElem?
abbrev oa:=@List.mem_cons_of_mem
abbrev lD:=@List.mem_of_mem_drop
abbrev oc:=@Nat.pow_le_pow_right
abbrev ik:=@Nat.eq_of_testBit_eq
abbrev aO:=@Array.length_toList
abbrev od:=@Nat.add_le_add_left
abbrev oe:=@Array.toList_append
abbrev gn:=@List.getElem?_range
abbrev cF:=@Int.toNat_of_nonneg
abbrev oh:=@Array.toList_modify
abbrev bc:=@Nat.lt_of_lt_of_le
abbrev al:=@List.length_append
abbrev dD:=@List.getElem?_take
abbrev eU:=@List.getElem?_drop
abbrev aE:=@Bool.false_eq_true
abbrev cM:=@Nat.eq_zero_or_pos
abbrev eV:=@List.mem_singleton
abbrev lE:=@Nat.lt_of_le_of_lt
abbrev oi:=@List.pairwise_cons
abbrev dm:=@Int.natCast_nonneg
abbrev aW:=@Option.some.injEq
abbrev aT:=@List.append_assoc
abbrev aF:=@Result.andThen_ok
abbrev cn:=@List.getElem?_map
abbrev bq:=@Bool.not_eq_true'
abbrev oj:=@Nat.lt_succ_of_lt
abbrev lF:=@Array.size_append
abbrev ol:=@List.size_toArray
abbrev dO:=@List.ext_getElem?
abbrev af:=@Int.toNat_natCast
abbrev om:=@Option.bind_assoc
abbrev il:=@List.take_add_one
abbrev jx:=@List.getElem?_set
abbrev lG:=@List.length_range
abbrev bU:=@List.length_cons
abbrev ag:=@Bool.and_eq_true
abbrev lH:=@Option.bind_none
abbrev eE:=@List.drop_length
abbrev cN:=@List.take_length
abbrev aK:=@List.length_take
abbrev bm:=@List.length_drop
abbrev dP:=@List.cons_append
abbrev fI:=@Option.bind_some
abbrev cG:=@Nat.lt_succ_self
abbrev gp:=@Array.toList_map
abbrev cO:=@List.all_eq_true
abbrev cH:=@Bool.cond_eq_ite
abbrev im:=@Option.getD_some
abbrev oo:=@Nat.min_eq_right
abbrev bO:=@List.getElem_mem
abbrev bP:=@List.not_mem_nil
abbrev fJ:=@List.any_eq_true
abbrev bJ:=@List.nil_append
abbrev oq:=@List.append_inj
abbrev cP:=@Option.some.inj
abbrev eW:=@List.length_set
abbrev cQ:=@List.append_nil
abbrev cY:=@Bool.eq_iff_iff
abbrev aC:=@List.mem_append
abbrev aR:=@Bool.or_eq_true
abbrev eX:=@List.length_nil
abbrev cZ:=@Option.map_some
abbrev bG:=@List.length_map
abbrev fK:=@List.cons.injEq
abbrev dQ:=@List.map_append
abbrev c7:=@Nat.min_eq_left
abbrev ot:=@Nat.min_le_left
abbrev lI:=@List.take_left'
abbrev ou:=@List.mem_filter
abbrev lJ:=@Bool.and_assoc
abbrev dE:=@Bool.false_and
abbrev da:=@List.drop_zero
abbrev jy:=@List.drop_take
abbrev jz:=@List.take_take
abbrev fL:=@List.drop_drop
abbrev jA:=@List.mem_range
abbrev lK:=@List.drop_left
abbrev jB:=@Int.ofNat_tdiv
abbrev lL:=@Int.ofNat_tmod
abbrev aG:=@Bool.not_false
abbrev bV:=@Nat.add_assoc
abbrev eF:=@List.map_cons
abbrev dR:=@Nat.lt_irrefl
abbrev aH:=@List.mem_cons
abbrev iq:=@Bool.or_false
abbrev bK:=@Bool.true_and
abbrev cR:=@Bool.false_or
abbrev az:=@Bool.not_true
abbrev eG:=@Int.lt_irrefl
abbrev av:=@Nat.lt_or_ge
abbrev lM:=@Nat.add_comm
abbrev cq:=@Addr.add_lit
abbrev bn:=@Nat.le_trans
abbrev gq:=@Nat.le_of_eq
abbrev aD:=@Sem.run_bind
abbrev fM:=@Nat.add_zero
abbrev cr:=@Nat.beq_refl
abbrev dF:=@Nat.zero_add
abbrev ir:=@Nat.succ_mul
abbrev aX:=@Sem.run_pure
abbrev iu:=@List.mem_map
abbrev lN:=@Nat.le_of_lt
abbrev jC:=@Bool.true_or
abbrev lO:=@Nat.pow_succ
abbrev eY:=@Nat.add_mul
abbrev ar:=@Nat.le_refl
abbrev gr:=@Nat.mul_one
abbrev bT:=@Nat.zero_le
abbrev lP:=@Nat.sub_mul
abbrev dS:=@Nat.mod_lt
abbrev jD:=@Nat.blt_eq
end
noncomputable section
inductive Ty where
 |int (k:IntKind)
 |bool
 |str
 |unit
 |pair (a b:Ty)
 |st (t:Ty)
 |sl (t:Ty)
 |arr (n:Nat) (t:Ty)
 |box (t:Ty)
 |ptr (t:Ty)
 |iz
 |hol (t:Ty)
 |may (t:Ty)
 |chan
 |fn (f:Nat)
 |map (k v:Ty)
 |nl (t:Ty)
 deriving DecidableEq,Inhabited
inductive Md where
 |ro
 |own (e:Md)
 |pr (a b:Md)
 deriving DecidableEq,Inhabited
def Md.fst:Md->Md
 |.pr a _=>a
 |_=>.ro
def Md.snd:Md->Md
 |.pr _ b=>b
 |_=>.ro
def Md.el:Md->Md
 |.own e=>e
 |_=>.ro
abbrev Ty.T:Ty->Type
 |.int _=>Int
 |.bool=>Bool
 |.str=>List Int
 |.unit=>Unit
 |.pair a b=>a.T×b.T
 |.st t=>t.T
 |.sl t=>List t.T
 |.arr _ t=>List t.T
 |.box t=>t.T
 |.ptr t=>Option t.T
 |.iz=>Unit
 |.hol t=>List t.T×Nat
 |.may t=>Option t.T
 |.chan=>Nat×List Int
 |.fn _=>Unit
 |.map k v=>List (k.T×v.T)
 |.nl t=>List t.T
def Ty.width:Ty->Nat
 |.unit=>0
 |.pair a b=>a.width+b.width
 |.st t=>t.width
 |.arr n t=>n*t.width
 |_=>1
def Ty.flat:Ty->Bool
 |.pair a b=>a.flat&&b.flat
 |.st t=>t.flat
 |.arr _ t=>t.flat
 |.sl _|.box _|.ptr _|.hol _|.may _|.chan|.map _ _|.nl _=>false
 |_=>true
def Ty.agg:Ty->Bool
 |.st _|.arr _ _=>true
 |_=>false
def kLo:IntKind->Int
 |.i8=>-128
 |.i16=>-32768
 |.i32=>-2147483648
 |.i64=>-9223372036854775808
 |_=>0
def kHi:IntKind->Int
 |.i8=>127
 |.i16=>32767
 |.i32=>2147483647
 |.i64=>9223372036854775807
 |.u8=>255
 |.u16=>65535
 |.u32=>4294967295
 |.u64=>18446744073709551615
def inK(k:IntKind)(n:Int):Prop:=kLo k<=n/\n<=kHi k
theorem dU(k:IntKind)(n:Int):inK k (k.wrap n):=by
 cases k <;> simp[inK,kLo,kHi,IntKind.wrap,IntKind.bits,IntKind.signed] <;> (try split) <;> omega
theorem iA{k:IntKind}{n:Int}(h:inK k n):k.wrap n=n:=by
 obtain⟨h1,h2⟩:=h
 cases k <;> simp[kLo,kHi]at h1 h2 <;> simp[IntKind.wrap,IntKind.bits,IntKind.signed] <;> (try split) <;> omega
def bQ(u:ByteArray):List Int:=u.data.toList.map λb=>(b.toNat:Int)
abbrev ae:=Nat->Prop
def ae.none:ae:=λ_=>False
def ae.or(A B:ae):ae:=λk=>A k\/B k
def Dis(A B:ae):Prop:=∀ k,A k->B k->False
def Sub(A B:ae):Prop:=∀ k,A k->B k
theorem Sub.refl(A:ae):Sub A A:=λ_ h=>h
theorem Sub.trans{A B C:ae}(h:Sub A B)(k:Sub B C):Sub A C:=λx hx=>k x (h x hx)
theorem Dis.symm{A B:ae}(h:Dis A B):Dis B A:=λk a b=>h k b a
theorem Dis.mono{A B A' B':ae}(h:Dis A B)(ha:Sub A' A)(hb:Sub B' B):Dis A' B':=λk a b=>h k (ha k a) (hb k b)
theorem Dis.none(A:ae):Dis A ae.none:=λ_ _ h=>h
def At(w:World)(a:Addr)(ds:List Value):Prop:=∀ j v,ds[j]?=some v->w.cell? (a.add j)=some v
def aY{α:Type}(R:α->List Value->ae->Prop):List α->List Value->ae->Prop
 |[],cs,_=>cs=[]
 |y::ys,cs,S=>∃ c1 c2 S1 S2,cs=c1++c2/\R y c1 S1/\aY R ys c2 S2/\Sub S1 S/\Sub S2 S/\Dis S1 S2
structure Mark(n:Nat)(z:Nat:=1)where
 t:TypeId
 a:Nat
 b:Nat
 ok:∀ j,j<n->¬(a<=j/\j<b)
 en:z≠1->¬(a<=n/\n<b)
def Mark.free(n:Nat){z:Nat}(t:TypeId):Mark n z:=⟨t,0,0,λj _ h=>by omega,λ_ h=>by omega⟩
def Mark.to{n m z:Nat}(e:Mark n z)(h:m<=n):Mark m z:=⟨e.t,e.a,e.b,λj hj=>e.ok j (bc hj h),λhz=>(av m n).elim (λhl=>e.ok m hl) (λhg=>by rw[Nat.le_antisymm h hg];exact e.en hz)⟩
def Mark.cast{n z z':Nat}(e:Mark n z)(h:z'=z):Mark n z':=⟨e.t,e.a,e.b,e.ok,λhz=>e.en (λh'=>hz (h.trans h'))⟩
def Mark.any{n z:Nat}(e:Mark n z):Mark n:=⟨e.t,e.a,e.b,e.ok,λh=>absurd rfl h⟩
theorem Mark.frz{w:World}{b z:Nat}{c:Array Value}{e:Mark c.size z}(hb:w.heap[b]?=some (.cells c e.t (e.a,e.b))){a:Addr}(ha:a.block=b)(hj:a.off<c.size):w.frozen? a=false:=by
 have h:=e.ok a.off hj
 simp only[World.frozen?,ha,hb]
 rcases av a.off e.a with h1|h1
 ·have:decide (e.a<=a.off)=false:=decide_eq_false (by omega)
  simp[this]
 ·have:decide (a.off<e.b)=false:=decide_eq_false (λh2=>h ⟨h1,h2⟩)
  simp[this]
def xY(w:World)(sz:Nat){α:Type}(R:α->List Value->ae->Prop)(x:List α)(cs:List Value)(S:ae):Prop:=
 ∃ a cap,cs=[.slice a x.length cap]/\x.length<=cap/\cap<=maxLen/\
  (cap=0\/∃ (b off:Nat) (c:Array Value) (e:Mark c.size sz),a=some ⟨b,off,none⟩/\w.heap[b]?=some (.cells c e.t (e.a,e.b))/\off+cap*sz<=c.size/\S b/\
   ∃ S',aY R x ((c.toList.drop off).take (x.length*sz)) S'/\Sub S' S/\¬S' b)
def wT(F:ae)(w:World){α:Type}(R:α->List Value->ae->Prop)(x:List α)(cs:List Value):Prop:=
 ∃ a cap,cs=[.slice a x.length cap]/\x.length<=cap/\cap<=maxLen/\
  (0<x.length->∃ ad,a=some ad/\F ad.block/\∃ ds,At w ad ds/\aY R x ds ae.none)
def sN(w:World){α:Type}(R:α->List Value->ae->Prop)(x:α)(cs:List Value)(S:ae):Prop:=
 ∃ (b:Nat) (c:Array Value) (e:Mark c.size),cs=[.pointer (some ⟨b,0,none⟩)]/\w.heap[b]?=some (.cells c e.t (e.a,e.b))/\S b/\∃ S',R x c.toList S'/\Sub S' S/\¬S' b
def xZ(F:ae)(w:World){α:Type}(R:α->List Value->ae->Prop)(x:α)(cs:List Value):Prop:=
 ∃ ad,cs=[.pointer (some ad)]/\F ad.block/\∃ ds,At w ad ds/\R x ds ae.none
def iB{α:Type}(x:List α)(j:Nat):List (Option α):=(x.map some).set j none
def Ej{α:Type}(R:α->List Value->ae->Prop):Option α->List Value->ae->Prop
 |some y,c,S=>R y c S/\c.length=1
 |none,c,_=>∃ z:Value,c=[z]/\z.oneCell'=true
def VR(t:Ty)(cs:List Value)(v:Value):Prop:=if t.agg then v=.agg cs.toArray else cs=[v]/\v.oneCell'=true
def dq{α β:Type}(Rk:α->Value->Prop)(Rv:β->Value->Prop):List (α×β)->List MapEntry->Nat->Prop
 |[],es,_=>es=[]
 |x::xs,es,i=>∃ e r,es=e::r/\e.born=i/\Rk x.1 e.key/\Rv x.2 e.val/\dq Rk Rv xs r (i+1)
theorem dq.imp{α β:Type}{Rk Rk':α->Value->Prop}{Rv Rv':β->Value->Prop}(h1:∀ x v,Rk x v->Rk' x v)(h2:∀ x v,Rv x v->Rv' x v):∀ {xs:List (α×β)} {es:List MapEntry} {i:Nat},dq Rk Rv xs es i->dq Rk' Rv' xs es i:=by
 intro xs
 induction xs with
 |nil=>intro es i h;exact h
 |cons x xs ih=>rintro es i ⟨e,r,rfl,hb,hk,hv,hr⟩;exact⟨e,r,rfl,hb,h1 _ _ hk,h2 _ _ hv,ih hr⟩
def RV{t:Ty}(R:t.T->List Value->ae->Prop)(x:t.T)(v:Value):Prop:=∃ c,R x c ae.none/\VR t c v
def HA(w:World){α β:Type}(Rk:α->Value->Prop)(Rv:β->Value->Prop)(x:List (α×β))(cs:List Value)(S:ae):Prop:=
 ∃ (b:Nat) (es:Array MapEntry),cs=[.map (some b)]/\w.heap[b]?=some (.map es es.size)/\S b/\dq Rk Rv x es.toList 0
def pX(F:ae)(w:World){α β:Type}(Rk:α->Value->Prop)(Rv:β->Value->Prop)(x:List (α×β))(cs:List Value):Prop:=
 (cs=[.map none]/\x=[])\/∃ (b:Nat) (es:Array MapEntry),cs=[.map (some b)]/\w.heap[b]?=some (.map es es.size)/\F b/\dq Rk Rv x es.toList 0
def Rep(F:ae)(w:World):(t:Ty)->Md->t.T->List Value->ae->Prop
 |.int k,_,n,cs,_=>cs=[.int k n]/\inK k n
 |.bool,_,b,cs,_=>cs=[.bool b]
 |.str,_,s,cs,_=>∃ u:ByteArray,cs=[.string u]/\s=bQ u/\u.size<=maxLen
 |.unit,_,_,cs,_=>cs=[]
 |.pair a b,m,x,cs,S=>∃ c1 c2 S1 S2,cs=c1++c2/\Rep F w a m.fst x.1 c1 S1/\Rep F w b m.snd x.2 c2 S2/\Sub S1 S/\Sub S2 S/\Dis S1 S2
 |.st t,m,x,cs,S=>Rep F w t m x cs S
 |.sl t,.own m,x,cs,S=>xY w t.width (Rep F w t m) x cs S
 |.sl t,.ro,x,cs,_=>wT F w (Rep F w t .ro) x cs
 |.sl t,.pr _ _,x,cs,_=>wT F w (Rep F w t .ro) x cs
 |.arr n t,m,x,cs,S=>x.length=n/\aY (Rep F w t m.el) x cs S
 |.box t,.own m,x,cs,S=>sN w (Rep F w t m) x cs S
 |.box t,.ro,x,cs,_=>xZ F w (Rep F w t .ro) x cs
 |.box t,.pr _ _,x,cs,_=>xZ F w (Rep F w t .ro) x cs
 |.ptr _,_,none,cs,_=>cs=[.pointer none]
 |.ptr t,.own m,some x,cs,S=>sN w (Rep F w t m) x cs S
 |.ptr t,.ro,some x,cs,_=>xZ F w (Rep F w t .ro) x cs
 |.ptr t,.pr _ _,some x,cs,_=>xZ F w (Rep F w t .ro) x cs
 |.iz,_,_,cs,_=>∃ z:Value,cs=[z]/\z.oneCell'=true
 |.may t,m,x,cs,S=>Ej (Rep F w t m) x cs S
 |.hol t,.own m,x,cs,S=>x.2<x.1.length/\xY w 1 (Ej (Rep F w t m)) (iB x.1 x.2) cs S
 |.hol _,.ro,_,cs,_=>∃ z:Value,cs=[z]/\z.oneCell'=true
 |.hol _,.pr _ _,_,cs,_=>∃ z:Value,cs=[z]/\z.oneCell'=true
 |.chan,.own _,x,cs,S=>∃ (b:Nat) (buf:Array Value) (s r:Nat),cs=[.chan (some b)]/\w.heap[b]?=some (.chan x.1 buf false s r false)/\buf.toList=x.2.map (λn=>.int .i64 n)/\((∀ n∈x.2,inK .i64 n)/\x.2.length<=x.1/\x.1<=maxLen)/\S b
 |.chan,.ro,_,cs,_=>∃ z:Value,cs=[z]/\z.oneCell'=true
 |.chan,.pr _ _,_,cs,_=>∃ z:Value,cs=[z]/\z.oneCell'=true
 |.fn f,_,_,cs,_=>cs=[.func (.func f) #[] #[]]
 |.nl t,_,x,cs,_=>wT F w (Rep F w t .ro) x cs/\(x=[]->cs=[.slice none 0 0])
 |.map k v,.own _,x,cs,S=>HA w (RV (Rep F w k .ro)) (RV (Rep F w v .ro)) x cs S
 |.map k v,.ro,x,cs,_=>pX F w (RV (Rep F w k .ro)) (RV (Rep F w v .ro)) x cs
 |.map k v,.pr _ _,x,cs,_=>pX F w (RV (Rep F w k .ro)) (RV (Rep F w v .ro)) x cs
section
variable {α:Type} {R R':α->List Value->ae->Prop}
theorem aY.mono{x:List α}:∀ {cs:List Value} {S S':ae},aY R x cs S->Sub S S'->aY R x cs S':=by
 induction x with
 |nil=>intro cs S S' h _;exact h
 |cons y ys ih=>
  rintro cs S S' ⟨c1,c2,S1,S2,rfl,h1,h2,s1,s2,d⟩ hs
  exact⟨c1,c2,S1,S2,rfl,h1,h2,s1.trans hs,s2.trans hs,d⟩
theorem aY.imp{x:List α}:∀ {cs:List Value} {S:ae},(∀ y∈x,∀ c T,Sub T S->R y c T->R' y c T)->aY R x cs S->aY R' x cs S:=by
 induction x with
 |nil=>intro cs S _ h;exact h
 |cons y ys ih=>
  rintro cs S hi ⟨c1,c2,S1,S2,rfl,h1,h2,s1,s2,d⟩
  exact⟨c1,c2,S1,S2,rfl,hi y (by simp) _ _ s1 h1,ih (λz hz c T hT hr=>hi z (by simp[hz]) c T (hT.trans s2) hr) h2,s1,s2,d⟩
theorem aY.nil{S:ae}:aY R [] [] S:=rfl
theorem aY.len{sz:Nat}(hw:∀ y c S,R y c S->c.length=sz):∀ {x:List α} {cs:List Value} {S:ae},aY R x cs S->cs.length=x.length*sz:=by
 intro x
 induction x with
 |nil=>intro cs S h;cases h;simp
 |cons y ys ih=>
  rintro cs S ⟨c1,c2,S1,S2,rfl,h1,h2,_,_,_⟩
  rw[al,hw _ _ _ h1,ih h2,bU,eY,Nat.one_mul,lM]
theorem aY.append{x y:List α}:∀ {cs ds:List Value} {S T:ae},aY R x cs S->aY R y ds T->Dis S T->aY R (x++y) (cs++ds) (S.or T):=by
 induction x with
 |nil=>rintro cs ds S T h hy _;cases h;exact hy.mono (λk h=>.inr h)
 |cons z zs ih=>
  rintro cs ds S T ⟨c1,c2,S1,S2,rfl,h1,h2,s1,s2,d⟩ hy hd
  refine⟨c1,c2++ds,S1,S2.or T,by simp,h1,ih h2 hy (hd.mono s2 (Sub.refl _)),λk h=>.inl (s1 k h),λk h=>h.imp (s2 k) id,λk a b=>?_⟩
  exact b.elim (λb=>d k a b) (λb=>hd k (s1 k a) b)
theorem aY.split{x y:List α}:∀ {cs:List Value} {S:ae},aY R (x++y) cs S->∃ c1 c2 S1 S2,cs=c1++c2/\aY R x c1 S1/\aY R y c2 S2/\Sub S1 S/\Sub S2 S/\Dis S1 S2:=by
 induction x with
 |nil=>intro cs S h;exact⟨[],cs,ae.none,S,rfl,rfl,h,λ_ h=>h.elim,Sub.refl _,λ_ h=>h.elim⟩
 |cons z zs ih=>
  rintro cs S ⟨c1,c2,S1,S2,rfl,h1,h2,s1,s2,d⟩
  obtain⟨d1,d2,T1,T2,rfl,k1,k2,t1,t2,e⟩:=ih h2
  refine⟨c1++d1,d2,S1.or T1,T2,by simp,⟨c1,d1,S1,T1,rfl,h1,k1,λk h=>.inl h,λk h=>.inr h,d.mono (Sub.refl _) t1⟩,k2,λk h=>h.elim (s1 k) (λh=>s2 k (t1 k h)),t2.trans s2,λk a b=>?_⟩
  exact a.elim (λa=>d k a (t2 k b)) (λa=>e k a b)
end
theorem aL(F:ae)(w:World):∀ (t:Ty) (m:Md) (x:t.T) (cs:List Value) (S:ae),Rep F w t m x cs S->cs.length=t.width:=by
 intro t
 induction t with
 |int k=>rintro m x cs S ⟨rfl,_⟩;rfl
 |bool=>rintro m x cs S rfl;rfl
 |str=>rintro m x cs S ⟨u,rfl,_⟩;rfl
 |unit=>rintro m x cs S rfl;rfl
 |iz=>rintro m x cs S ⟨z,rfl,_⟩;rfl
 |fn f=>rintro m x cs S rfl;rfl
 |nl t _=>rintro m x cs S ⟨⟨a,cap,rfl,_⟩,_⟩;rfl
 |map k v _ _=>
  intro m x cs S h
  cases m with
  |own m=>obtain⟨b,es,rfl,_⟩:=h;rfl
  |ro=>rcases h with⟨rfl,_⟩|⟨b,es,rfl,_⟩ <;> rfl
  |pr _ _=>rcases h with⟨rfl,_⟩|⟨b,es,rfl,_⟩ <;> rfl
 |chan=>
  intro m x cs S h
  cases m with
  |own m=>obtain⟨b,buf,s,r,rfl,_⟩:=h;rfl
  |ro=>obtain⟨z,rfl,_⟩:=h;rfl
  |pr _ _=>obtain⟨z,rfl,_⟩:=h;rfl
 |hol t ih=>
  intro m x cs S h
  cases m with
  |own m=>obtain⟨_,a,cap,rfl,_⟩:=h;rfl
  |ro=>obtain⟨z,rfl,_⟩:=h;rfl
  |pr _ _=>obtain⟨z,rfl,_⟩:=h;rfl
 |may t ih=>
  intro m x cs S h
  cases x with
  |none=>obtain⟨z,rfl,_⟩:=h;rfl
  |some x=>exact h.2
 |pair a b iha ihb=>rintro m x cs S ⟨c1,c2,S1,S2,rfl,h1,h2,_⟩;simp[Ty.width,iha _ _ _ _ h1,ihb _ _ _ _ h2]
 |st t ih=>intro m x cs S h;exact ih m x cs S h
 |sl t ih=>
  intro m x cs S h
  cases m with
  |own m=>obtain⟨a,cap,rfl,_⟩:=h;rfl
  |ro=>obtain⟨a,cap,rfl,_⟩:=h;rfl
  |pr _ _=>obtain⟨a,cap,rfl,_⟩:=h;rfl
 |arr n t ih=>
  rintro m x cs S ⟨hn,h⟩
  simp only[Ty.width]
  rw[aY.len (λy c S h=>ih m.el y c S h) h,hn]
 |box t ih=>
  intro m x cs S h
  cases m with
  |own m=>obtain⟨b,c,e,rfl,_⟩:=h;rfl
  |ro=>obtain⟨a,rfl,_⟩:=h;rfl
  |pr _ _=>obtain⟨a,rfl,_⟩:=h;rfl
 |ptr t ih=>
  intro m x cs S h
  cases x with
  |none=>simp only[Rep]at h;subst h;rfl
  |some x=>
   cases m with
   |own m=>obtain⟨b,c,e,rfl,_⟩:=h;rfl
   |ro=>obtain⟨a,rfl,_⟩:=h;rfl
   |pr _ _=>obtain⟨a,rfl,_⟩:=h;rfl
theorem pY{w w':World}{a:Addr}(h:w'.heap[a.block]?=w.heap[a.block]?):w'.cell? a=w.cell? a:=by simp[World.cell?,h]
theorem iw(a:Addr)(n:Nat):(a.add n).block=a.block:=by unfold Addr.add;split <;> rfl
theorem At.congr{w w':World}{a:Addr}{ds:List Value}(h:At w a ds)(hb:w'.heap[a.block]?=w.heap[a.block]?):At w' a ds:=by
 intro j v hj
 exact(pY (a:=a.add j) (by rw[iw];exact hb)).trans (h j v hj)
theorem aP{F F':ae}{w w':World}(hF:Sub F F')(hFw:∀ k,F k->w'.heap[k]?=w.heap[k]?):
 ∀ (t:Ty) (m:Md) (x:t.T) (cs:List Value) (S S':ae),Rep F w t m x cs S->Sub S S'->(∀ k,S k->w'.heap[k]?=w.heap[k]?)->Rep F' w' t m x cs S':=by
 intro t
 induction t with
 |int k=>intro m x cs S S' h _ _;exact h
 |bool=>intro m x cs S S' h _ _;exact h
 |str=>intro m x cs S S' h _ _;exact h
 |unit=>intro m x cs S S' h _ _;exact h
 |iz=>intro m x cs S S' h _ _;exact h
 |fn f=>intro m x cs S S' h _ _;exact h
 |nl t ih=>
  rintro m x cs S S' ⟨⟨a,cap,rfl,h1,h2,h3⟩,h4⟩ hs hw
  refine⟨⟨a,cap,rfl,h1,h2,λhp=>?_⟩,h4⟩
  obtain⟨ad,rfl,hf,ds,hat,hr⟩:=h3 hp
  exact⟨ad,rfl,hF _ hf,ds,hat.congr (hFw _ hf),aY.imp (λy _ c T hT hr=>ih .ro y c T T hr (Sub.refl _) (λk hk=>(hT k hk).elim)) hr⟩
 |map k v ihk ihv=>
  intro m x cs S S' h hs hw
  have hk:∀ y u,RV (Rep F w k .ro) y u->RV (Rep F' w' k .ro) y u:=λy u ⟨c,h1,h2⟩=>⟨c,ihk .ro y c _ _ h1 (Sub.refl _) (λ_ h=>h.elim),h2⟩
  have hv:∀ y u,RV (Rep F w v .ro) y u->RV (Rep F' w' v .ro) y u:=λy u ⟨c,h1,h2⟩=>⟨c,ihv .ro y c _ _ h1 (Sub.refl _) (λ_ h=>h.elim),h2⟩
  have ro:pX F w (RV (Rep F w k .ro)) (RV (Rep F w v .ro)) x cs->pX F' w' (RV (Rep F' w' k .ro)) (RV (Rep F' w' v .ro)) x cs:=by
   rintro(h|⟨b,es,rfl,hb,hf,hr⟩)
   ·exact .inl h
   ·exact .inr ⟨b,es,rfl,(hFw b hf).trans hb,hF b hf,hr.imp hk hv⟩
  cases m with
  |ro=>exact ro h
  |pr _ _=>exact ro h
  |own m=>
   obtain⟨b,es,rfl,hb,hS,hr⟩:=h
   exact⟨b,es,rfl,(hw b hS).trans hb,hs _ hS,hr.imp hk hv⟩
 |chan=>
  intro m x cs S S' h hs hw
  cases m with
  |ro=>exact h
  |pr _ _=>exact h
  |own m=>
   obtain⟨b,buf,s,r,rfl,hb,h1,h2,hS⟩:=h
   exact⟨b,buf,s,r,rfl,(hw b hS).trans hb,h1,h2,hs _ hS⟩
 |hol t ih=>
  intro m x cs S S' h hs hw
  cases m with
  |ro=>exact h
  |pr _ _=>exact h
  |own m=>
   obtain⟨hj,a,cap,rfl,h1,h2,h3⟩:=h
   refine⟨hj,a,cap,rfl,h1,h2,h3.imp id ?_⟩
   rintro⟨b,off,c,e,rfl,hb,hc,hS,S1,hr,s1,n1⟩
   exact⟨b,off,c,e,rfl,(hw b hS).trans hb,hc,hs _ hS,S1,aY.imp (λy _ c T hT hr=>by
    cases y with
    |none=>exact hr
    |some y=>exact⟨ih m y c T T hr.1 (Sub.refl _) (λk hk=>hw k (s1 k (hT k hk))),hr.2⟩) hr,s1.trans hs,n1⟩
 |may t ih=>
  intro m x cs S S' h hs hw
  cases x with
  |none=>exact h
  |some x=>exact⟨ih m x cs S S' h.1 hs hw,h.2⟩
 |pair a b iha ihb=>
  rintro m x cs S S' ⟨c1,c2,S1,S2,rfl,h1,h2,s1,s2,d⟩ hs hw
  exact⟨c1,c2,S1,S2,rfl,iha _ _ _ _ _ h1 (Sub.refl _) (λk h=>hw k (s1 k h)),ihb _ _ _ _ _ h2 (Sub.refl _) (λk h=>hw k (s2 k h)),s1.trans hs,s2.trans hs,d⟩
 |st t ih=>intro m x cs S S' h hs hw;exact ih m x cs S S' h hs hw
 |arr n t ih=>
  rintro m x cs S S' ⟨hn,h⟩ hs hw
  exact⟨hn,(aY.imp (λy _ c T hT hr=>ih m.el y c T T hr (Sub.refl _) (λk hk=>hw k (hT k hk))) h).mono hs⟩
 |sl t ih=>
  have ro:∀ (x:List t.T) (cs:List Value),wT F w (Rep F w t .ro) x cs->wT F' w' (Rep F' w' t .ro) x cs:=by
   rintro x cs ⟨a,cap,rfl,h1,h2,h3⟩
   refine⟨a,cap,rfl,h1,h2,λhp=>?_⟩
   obtain⟨ad,rfl,hf,ds,hat,hr⟩:=h3 hp
   exact⟨ad,rfl,hF _ hf,ds,hat.congr (hFw _ hf),aY.imp (λy _ c T hT hr=>ih .ro y c T T hr (Sub.refl _) (λk hk=>(hT k hk).elim)) hr⟩
  intro m x cs S S' h hs hw
  cases m with
  |ro=>exact ro x cs h
  |pr _ _=>exact ro x cs h
  |own m=>
   obtain⟨a,cap,rfl,h1,h2,h3⟩:=h
   refine⟨a,cap,rfl,h1,h2,h3.imp id ?_⟩
   rintro⟨b,off,c,e,rfl,hb,hc,hS,S1,hr,s1,n1⟩
   exact⟨b,off,c,e,rfl,(hw b hS).trans hb,hc,hs _ hS,S1,aY.imp (λy _ c T hT hr=>ih m y c T T hr (Sub.refl _) (λk hk=>hw k (s1 k (hT k hk)))) hr,s1.trans hs,n1⟩
 |box t ih=>
  intro m x cs S S' h hs hw
  cases m with
  |own m=>
   obtain⟨b,c,e,rfl,hb,hS,S1,hr,s1,n1⟩:=h
   exact⟨b,c,e,rfl,(hw b hS).trans hb,hs _ hS,S1,ih m x _ _ _ hr (Sub.refl _) (λk hk=>hw k (s1 k hk)),s1.trans hs,n1⟩
  |ro=>
   obtain⟨ad,rfl,hf,ds,hat,hr⟩:=h
   exact⟨ad,rfl,hF _ hf,ds,hat.congr (hFw _ hf),ih .ro x _ _ _ hr (Sub.refl _) (λk hk=>hk.elim)⟩
  |pr _ _=>
   obtain⟨ad,rfl,hf,ds,hat,hr⟩:=h
   exact⟨ad,rfl,hF _ hf,ds,hat.congr (hFw _ hf),ih .ro x _ _ _ hr (Sub.refl _) (λk hk=>hk.elim)⟩
 |ptr t ih=>
  intro m x cs S S' h hs hw
  cases x with
  |none=>cases m <;> exact h
  |some x=>
  cases m with
  |own m=>
   obtain⟨b,c,e,rfl,hb,hS,S1,hr,s1,n1⟩:=h
   exact⟨b,c,e,rfl,(hw b hS).trans hb,hs _ hS,S1,ih m x _ _ _ hr (Sub.refl _) (λk hk=>hw k (s1 k hk)),s1.trans hs,n1⟩
  |ro=>
   obtain⟨ad,rfl,hf,ds,hat,hr⟩:=h
   exact⟨ad,rfl,hF _ hf,ds,hat.congr (hFw _ hf),ih .ro x _ _ _ hr (Sub.refl _) (λk hk=>hk.elim)⟩
  |pr _ _=>
   obtain⟨ad,rfl,hf,ds,hat,hr⟩:=h
   exact⟨ad,rfl,hF _ hf,ds,hat.congr (hFw _ hf),ih .ro x _ _ _ hr (Sub.refl _) (λk hk=>hk.elim)⟩
theorem pZ{F:ae}{w:World}{t:Ty}{m:Md}{x:t.T}{cs:List Value}{S S':ae}(h:Rep F w t m x cs S)(hs:Sub S S'):Rep F w t m x cs S':=
 aP (Sub.refl F) (λ_ _=>rfl) t m x cs S S' h hs (λ_ _=>rfl)
theorem jE{F F':ae}{w w':World}:∀ (t:Ty),t.flat=true->∀ (m m':Md) (x:t.T) (cs:List Value) (S S':ae),Rep F w t m x cs S->Rep F' w' t m' x cs S':=by
 intro t
 induction t with
 |int k=>intro _ m m' x cs S S' h;exact h
 |bool=>intro _ m m' x cs S S' h;exact h
 |str=>intro _ m m' x cs S S' h;exact h
 |unit=>intro _ m m' x cs S S' h;exact h
 |iz=>intro _ m m' x cs S S' h;exact h
 |fn f=>intro _ m m' x cs S S' h;exact h
 |chan=>intro hf;simp[Ty.flat]at hf
 |map k v _ _=>intro hf;simp[Ty.flat]at hf
 |nl t _=>intro hf;simp[Ty.flat]at hf
 |pair a b iha ihb=>
  rintro hf m m' x cs S S' ⟨c1,c2,S1,S2,rfl,h1,h2,s1,s2,d⟩
  simp[Ty.flat]at hf
  exact⟨c1,c2,ae.none,ae.none,rfl,iha hf.1 _ _ _ _ _ _ h1,ihb hf.2 _ _ _ _ _ _ h2,λ_ h=>h.elim,λ_ h=>h.elim,λ_ h=>h.elim⟩
 |st t ih=>intro hf m m' x cs S S' h;exact ih hf m m' x cs S S' h
 |arr n t ih=>
  rintro hf m m' x cs S S' ⟨hn,h⟩
  refine⟨hn,?_⟩
  clear hn
  induction x generalizing cs S S' with
  |nil=>exact h
  |cons y ys ihx=>
   obtain⟨c1,c2,S1,S2,rfl,h1,h2,s1,s2,d⟩:=h
   exact⟨c1,c2,ae.none,ae.none,rfl,ih hf _ _ _ _ _ _ h1,ihx _ _ _ h2,λ_ h=>h.elim,λ_ h=>h.elim,λ_ h=>h.elim⟩
 |sl t ih=>intro hf;simp[Ty.flat]at hf
 |box t ih=>intro hf;simp[Ty.flat]at hf
 |ptr t ih=>intro hf;simp[Ty.flat]at hf
 |hol t ih=>intro hf;simp[Ty.flat]at hf
 |may t ih=>intro hf;simp[Ty.flat]at hf
theorem iC{F F':ae}{w:World}(hF:Sub F F'):∀ (t:Ty) (m:Md) (x:t.T) (cs:List Value) (S S':ae),Rep F w t m x cs S->Sub S F'->Rep F' w t .ro x cs S':=by
 intro t
 induction t with
 |int k=>intro m x cs S S' h _;exact h
 |bool=>intro m x cs S S' h _;exact h
 |str=>intro m x cs S S' h _;exact h
 |unit=>intro m x cs S S' h _;exact h
 |iz=>intro m x cs S S' h _;exact h
 |fn f=>intro m x cs S S' h _;exact h
 |nl t ih=>
  rintro m x cs S S' ⟨⟨a,cap,rfl,h1,h2,h3⟩,h4⟩ hs
  refine⟨⟨a,cap,rfl,h1,h2,λhp=>?_⟩,h4⟩
  obtain⟨ad,rfl,hf,ds,hat,hr⟩:=h3 hp
  exact⟨ad,rfl,hF _ hf,ds,hat,aY.imp (λy _ c T hT hr=>pZ (ih .ro y c T T hr (λk hk=>(hT k hk).elim)) (Sub.refl _)) hr⟩
 |map k v ihk ihv=>
  intro m x cs S S' h hs
  have hk:∀ y u,RV (Rep F w k .ro) y u->RV (Rep F' w k .ro) y u:=λy u ⟨c,h1,h2⟩=>⟨c,ihk .ro y c _ _ h1 (λ_ h=>h.elim),h2⟩
  have hv:∀ y u,RV (Rep F w v .ro) y u->RV (Rep F' w v .ro) y u:=λy u ⟨c,h1,h2⟩=>⟨c,ihv .ro y c _ _ h1 (λ_ h=>h.elim),h2⟩
  have ro:pX F w (RV (Rep F w k .ro)) (RV (Rep F w v .ro)) x cs->pX F' w (RV (Rep F' w k .ro)) (RV (Rep F' w v .ro)) x cs:=by
   rintro(h|⟨b,es,rfl,hb,hf,hr⟩)
   ·exact .inl h
   ·exact .inr ⟨b,es,rfl,hb,hF b hf,hr.imp hk hv⟩
  cases m with
  |ro=>exact ro h
  |pr _ _=>exact ro h
  |own m=>
   obtain⟨b,es,rfl,hb,hS,hr⟩:=h
   exact .inr ⟨b,es,rfl,hb,hs b hS,hr.imp hk hv⟩
 |chan=>
  intro m x cs S S' h _
  cases m with
  |ro=>exact h
  |pr _ _=>exact h
  |own m=>obtain⟨b,buf,s,r,rfl,_⟩:=h;exact⟨_,rfl,rfl⟩
 |hol t ih=>
  intro m x cs S S' h _
  cases m with
  |ro=>exact h
  |pr _ _=>exact h
  |own m=>obtain⟨_,a,cap,rfl,_⟩:=h;exact⟨_,rfl,rfl⟩
 |may t ih=>
  intro m x cs S S' h hs
  cases x with
  |none=>exact h
  |some x=>exact⟨ih m x cs S S' h.1 hs,h.2⟩
 |pair a b iha ihb=>
  rintro m x cs S S' ⟨c1,c2,S1,S2,rfl,h1,h2,s1,s2,d⟩ hs
  exact⟨c1,c2,ae.none,ae.none,rfl,iha _ _ _ _ _ h1 (s1.trans hs),ihb _ _ _ _ _ h2 (s2.trans hs),λ_ h=>h.elim,λ_ h=>h.elim,λ_ h=>h.elim⟩
 |st t ih=>intro m x cs S S' h hs;exact ih m x cs S S' h hs
 |arr n t ih=>
  rintro m x cs S S' ⟨hn,h⟩ hs
  refine⟨hn,?_⟩
  clear hn
  induction x generalizing cs S S' with
  |nil=>exact h
  |cons y ys ihx=>
   obtain⟨c1,c2,S1,S2,rfl,h1,h2,s1,s2,d⟩:=h
   exact⟨c1,c2,ae.none,ae.none,rfl,ih _ _ _ _ _ h1 (s1.trans hs),ihx _ _ _ h2 (s2.trans hs),λ_ h=>h.elim,λ_ h=>h.elim,λ_ h=>h.elim⟩
 |sl t ih=>
  have row:∀ (m:Md) (x:List t.T) (cs:List Value) (S:ae),aY (Rep F w t m) x cs S->Sub S F'->aY (Rep F' w t .ro) x cs ae.none:=by
   intro m x
   induction x with
   |nil=>intro cs S h _;exact h
   |cons y ys ihx=>
    rintro cs S ⟨c1,c2,S1,S2,rfl,h1,h2,s1,s2,d⟩ hs
    exact⟨c1,c2,ae.none,ae.none,rfl,ih _ _ _ _ _ h1 (s1.trans hs),ihx _ _ h2 (s2.trans hs),λ_ h=>h.elim,λ_ h=>h.elim,λ_ h=>h.elim⟩
  intro m x cs S S' h hs
  cases m with
  |ro=>
   obtain⟨a,cap,rfl,h1,h2,h3⟩:=h
   refine⟨a,cap,rfl,h1,h2,λhp=>?_⟩
   obtain⟨ad,rfl,hf,ds,hat,hr⟩:=h3 hp
   exact⟨ad,rfl,hF _ hf,ds,hat,row _ _ _ _ hr (λ_ h=>h.elim)⟩
  |pr _ _=>
   obtain⟨a,cap,rfl,h1,h2,h3⟩:=h
   refine⟨a,cap,rfl,h1,h2,λhp=>?_⟩
   obtain⟨ad,rfl,hf,ds,hat,hr⟩:=h3 hp
   exact⟨ad,rfl,hF _ hf,ds,hat,row _ _ _ _ hr (λ_ h=>h.elim)⟩
  |own m=>
   obtain⟨a,cap,rfl,h1,h2,h3⟩:=h
   refine⟨a,cap,rfl,h1,h2,λhp=>?_⟩
   rcases h3 with rfl|⟨b,off,c,e,rfl,hb,hc,hS,S1,hr,s1,n1⟩
   ·omega
   ·refine⟨_,rfl,hs _ hS,_,?_,row _ _ _ _ hr (s1.trans hs)⟩
    intro j v hj
    rw[dD]at hj
    split at hj
    ·rw[eU]at hj
     rw[cq]
     simp[World.cell?,hb]
     simpa using hj
    ·cases hj
 |box t ih=>
  intro m x cs S S' h hs
  cases m with
  |ro=>
   obtain⟨ad,rfl,hf,ds,hat,hr⟩:=h
   exact⟨ad,rfl,hF _ hf,ds,hat,ih _ _ _ _ _ hr (λ_ h=>h.elim)⟩
  |pr _ _=>
   obtain⟨ad,rfl,hf,ds,hat,hr⟩:=h
   exact⟨ad,rfl,hF _ hf,ds,hat,ih _ _ _ _ _ hr (λ_ h=>h.elim)⟩
  |own m=>
   obtain⟨b,c,e,rfl,hb,hS,S1,hr,s1,n1⟩:=h
   refine⟨_,rfl,hs _ hS,c.toList,?_,ih _ _ _ _ _ hr (s1.trans hs)⟩
   intro j v hj
   rw[cq]
   simp[World.cell?,hb]
   simpa using hj
 |ptr t ih=>
  intro m x cs S S' h hs
  cases x with
  |none=>cases m <;> exact h
  |some x=>
  cases m with
  |ro=>
   obtain⟨ad,rfl,hf,ds,hat,hr⟩:=h
   exact⟨ad,rfl,hF _ hf,ds,hat,ih _ _ _ _ _ hr (λ_ h=>h.elim)⟩
  |pr _ _=>
   obtain⟨ad,rfl,hf,ds,hat,hr⟩:=h
   exact⟨ad,rfl,hF _ hf,ds,hat,ih _ _ _ _ _ hr (λ_ h=>h.elim)⟩
  |own m=>
   obtain⟨b,c,e,rfl,hb,hS,S1,hr,s1,n1⟩:=h
   refine⟨_,rfl,hs _ hS,c.toList,?_,ih _ _ _ _ _ hr (s1.trans hs)⟩
   intro j v hj
   rw[cq]
   simp[World.cell?,hb]
   simpa using hj
def closed:Ty->Md->Bool
 |.pair a b,m=>closed a m.fst&&closed b m.snd
 |.st t,m=>closed t m
 |.arr _ t,m=>closed t m.el
 |.sl t,.own e=>closed t e
 |.sl _,_=>false
 |.box t,.own e=>closed t e
 |.box _,_=>false
 |.ptr t,.own e=>closed t e
 |.ptr _,_=>false
 |.hol t,.own e=>closed t e
 |.may t,m=>closed t m
 |.map k v,.own _=>closed k .ro&&closed v .ro
 |.map _ _,_=>false
 |.nl _,_=>false
 |_,_=>true
theorem wU{F F':ae}{w:World}:∀ (t:Ty) (m:Md),closed t m=true->∀ (x:t.T) (cs:List Value) (S:ae),Rep F w t m x cs S->Rep F' w t m x cs S:=by
 intro t
 induction t with
 |int k=>intro m _ x cs S h;exact h
 |bool=>intro m _ x cs S h;exact h
 |str=>intro m _ x cs S h;exact h
 |unit=>intro m _ x cs S h;exact h
 |iz=>intro m _ x cs S h;exact h
 |fn f=>intro m _ x cs S h;exact h
 |nl t ih=>intro m hc x cs S h;simp[closed]at hc
 |map k v ihk ihv=>
  intro m hc x cs S h
  cases m with
  |ro=>simp[closed]at hc
  |pr _ _=>simp[closed]at hc
  |own m=>
   simp only[closed,ag]at hc
   obtain⟨b,es,rfl,hb,hS,hr⟩:=h
   exact⟨b,es,rfl,hb,hS,hr.imp (λy u ⟨c,h1,h2⟩=>⟨c,ihk .ro hc.1 y c _ h1,h2⟩) (λy u ⟨c,h1,h2⟩=>⟨c,ihv .ro hc.2 y c _ h1,h2⟩)⟩
 |chan=>intro m _ x cs S h;cases m <;> exact h
 |hol t ih=>
  intro m hc x cs S h
  cases m with
  |ro=>exact h
  |pr _ _=>exact h
  |own m=>
   obtain⟨hj,a,cap,rfl,h1,h2,h3⟩:=h
   refine⟨hj,a,cap,rfl,h1,h2,h3.imp id ?_⟩
   rintro⟨b,off,c,e,rfl,hb,hc',hS,S1,hr,r⟩
   exact⟨b,off,c,e,rfl,hb,hc',hS,S1,aY.imp (λy _ c T _ hr=>by
    cases y with
    |none=>exact hr
    |some y=>exact⟨ih m hc y c T hr.1,hr.2⟩) hr,r⟩
 |may t ih=>
  intro m hc x cs S h
  cases x with
  |none=>exact h
  |some x=>exact⟨ih m hc x cs S h.1,h.2⟩
 |pair a b iha ihb=>
  rintro m hc x cs S ⟨c1,c2,S1,S2,rfl,h1,h2,r⟩
  simp[closed]at hc
  exact⟨c1,c2,S1,S2,rfl,iha _ hc.1 _ _ _ h1,ihb _ hc.2 _ _ _ h2,r⟩
 |st t ih=>intro m hc x cs S h;exact ih m hc x cs S h
 |arr n t ih=>
  rintro m hc x cs S ⟨hn,h⟩
  exact⟨hn,aY.imp (λy _ c T _ hr=>ih m.el hc y c T hr) h⟩
 |sl t ih=>
  intro m hc x cs S h
  cases m with
  |ro=>simp[closed]at hc
  |pr _ _=>simp[closed]at hc
  |own m=>
   obtain⟨a,cap,rfl,h1,h2,h3⟩:=h
   refine⟨a,cap,rfl,h1,h2,h3.imp id ?_⟩
   rintro⟨b,off,c,e,rfl,hb,hc',hS,S1,hr,r⟩
   exact⟨b,off,c,e,rfl,hb,hc',hS,S1,aY.imp (λy _ c T _ hr=>ih m hc y c T hr) hr,r⟩
 |box t ih=>
  intro m hc x cs S h
  cases m with
  |ro=>simp[closed]at hc
  |pr _ _=>simp[closed]at hc
  |own m=>
   obtain⟨b,c,e,rfl,hb,hS,S1,hr,r⟩:=h
   exact⟨b,c,e,rfl,hb,hS,S1,ih m hc _ _ _ hr,r⟩
 |ptr t ih=>
  intro m hc x cs S h
  cases x with
  |none=>cases m <;> exact h
  |some x=>
  cases m with
  |ro=>simp[closed]at hc
  |pr _ _=>simp[closed]at hc
  |own m=>
   obtain⟨b,c,e,rfl,hb,hS,S1,hr,r⟩:=h
   exact⟨b,c,e,rfl,hb,hS,S1,ih m hc _ _ _ hr,r⟩
structure V where
 t:Ty
 x:t.T
inductive Stp where
 |st|fst|snd
 |idx (i:Int)
 |ai (i:Int)
 |deref
def eM{R:Type}:(t:Ty)->t.T->List Stp->((u:Ty)->u.T->Option R)->Option R
 |t,x,[],K=>K t x
 |.st t,x,.st::π,K=>eM t x π K
 |.pair a _,x,.fst::π,K=>eM a x.1 π K
 |.pair _ b,x,.snd::π,K=>eM b x.2 π K
 |.sl t,x,.idx i::π,K=>if 0<=i then(match(x:List t.T)[i.toNat]? with|some y=>eM t y π K|none=>none)else none
 |.arr _ t,x,.ai i::π,K=>if 0<=i then(match(x:List t.T)[i.toNat]? with|some y=>eM t y π K|none=>none)else none
 |.box t,x,.deref::π,K=>eM t x π K
 |.ptr t,x,.deref::π,K=>match(x:Option t.T)with|some y=>eM t y π K|none=>none
 |_,_,_::_,_=>none
def gu{R:Type}:(t:Ty)->t.T->List Stp->(u:Ty)->u.T->(t.T->Option R)->Option R
 |t,_,[],u,y,K=>if h:u=t then K (h ▸ y)else none
 |.st t,x,.st::π,u,y,K=>gu t x π u y K
 |.pair a _,x,.fst::π,u,y,K=>gu a x.1 π u y λz=>K (z,x.2)
 |.pair _ b,x,.snd::π,u,y,K=>gu b x.2 π u y λz=>K (x.1,z)
 |.sl t,x,.idx i::π,u,y,K=>if 0<=i then(match(x:List t.T)[i.toNat]? with|some z=>gu t z π u y λz'=>K ((x:List t.T).set i.toNat z')|none=>none)else none
 |.arr _ t,x,.ai i::π,u,y,K=>if 0<=i then(match(x:List t.T)[i.toNat]? with|some z=>gu t z π u y λz'=>K ((x:List t.T).set i.toNat z')|none=>none)else none
 |.box t,x,.deref::π,u,y,K=>gu t x π u y K
 |.ptr t,x,.deref::π,u,y,K=>match(x:Option t.T)with|some z=>gu t z π u y λz'=>K (some z')|none=>none
 |_,_,_::_,_,_,_=>none
def atM:Ty->Md->List Stp->Md
 |_,m,[]=>m
 |.st t,m,.st::π=>atM t m π
 |.pair a _,m,.fst::π=>atM a m.fst π
 |.pair _ b,m,.snd::π=>atM b m.snd π
 |.sl t,m,.idx _::π=>atM t m.el π
 |.arr _ t,m,.ai _::π=>atM t m.el π
 |.box t,m,.deref::π=>atM t m.el π
 |.ptr t,m,.deref::π=>atM t m.el π
 |_,_,_::_=>.ro
def atT:Ty->List Stp->Ty
 |t,[]=>t
 |.st t,.st::π=>atT t π
 |.pair a _,.fst::π=>atT a π
 |.pair _ b,.snd::π=>atT b π
 |.sl t,.idx _::π=>atT t π
 |.arr _ t,.ai _::π=>atT t π
 |.box t,.deref::π=>atT t π
 |.ptr t,.deref::π=>atT t π
 |_,_::_=>.unit
def Md.ez:Md->Bool
 |.own _=>true
 |_=>false
def mQ:Ty->Md->List Stp->Md->Md->Prop
 |_,_,[],m',r=>r=m'
 |.st t,m,.st::π,m',r=>mQ t m π m' r
 |.pair a _,m,.fst::π,m',r=>∃ q,mQ a m.fst π m' q/\((r=m/\q=m.fst)\/r=.pr q m.snd)
 |.pair _ b,m,.snd::π,m',r=>∃ q,mQ b m.snd π m' q/\((r=m/\q=m.snd)\/r=.pr m.fst q)
 |.sl t,m,.idx _::π,m',r=>∃ e,m=.own e/\mQ t e π m' e/\r=m
 |.arr _ t,m,.ai _::π,m',r=>mQ t m.el π m' m.el/\r=m
 |.box t,m,.deref::π,m',r=>∃ e q,m=.own e/\mQ t e π m' q/\r=.own q
 |.ptr t,m,.deref::π,m',r=>∃ e q,m=.own e/\mQ t e π m' q/\r=.own q
 |_,_,_::_,_,_=>False
def fy:Ty->Md->List Stp->Md->Option Md
 |_,_,[],m'=>some m'
 |.st t,m,.st::π,m'=>fy t m π m'
 |.pair a _,m,.fst::π,m'=>match fy a m.fst π m' with
  |some q=>some (if q=m.fst then m else .pr q m.snd)
  |none=>none
 |.pair _ b,m,.snd::π,m'=>match fy b m.snd π m' with
  |some q=>some (if q=m.snd then m else .pr m.fst q)
  |none=>none
 |.sl t,m,.idx _::π,m'=>match m with
  |.own e=>match fy t e π m' with
   |some q=>if q=e then some m else none
   |none=>none
  |_=>none
 |.arr _ t,m,.ai _::π,m'=>match fy t m.el π m' with
  |some q=>if q=m.el then some m else none
  |none=>none
 |.box t,m,.deref::π,m'=>match m with
  |.own e=>match fy t e π m' with
   |some q=>some (.own q)
   |none=>none
  |_=>none
 |.ptr t,m,.deref::π,m'=>match m with
  |.own e=>match fy t e π m' with
   |some q=>some (.own q)
   |none=>none
  |_=>none
 |_,_,_::_,_=>none
def cV:Ty->Md->List Stp->Bool
 |_,_,[]=>true
 |.st t,m,.st::π=>cV t m π
 |.pair a _,m,.fst::π=>cV a m.fst π
 |.pair _ b,m,.snd::π=>cV b m.snd π
 |.sl t,m,.idx _::π=>m.ez&&cV t m.el π
 |.arr _ t,m,.ai _::π=>cV t m.el π
 |.box t,m,.deref::π=>m.ez&&cV t m.el π
 |.ptr t,m,.deref::π=>m.ez&&cV t m.el π
 |_,_,_::_=>false
def eo(w:World)(b o n:Nat):List Value:=
 match w.heap[b]? with
 |some (.cells c _ _)=>(c.toList.drop o).take n
 |_=>[]
def resolve(w:World):Ty->List Value->Option (Nat×Nat)->List Stp->Option (List Value×Option (Nat×Nat))
 |_,cs,s,[]=>some (cs,s)
 |.st t,cs,s,.st::π=>resolve w t cs s π
 |.pair a _,cs,s,.fst::π=>resolve w a (cs.take a.width) s π
 |.pair a b,cs,s,.snd::π=>resolve w b (cs.drop a.width) (s.map λp=>(p.1,p.2+a.width)) π
 |.sl t,cs,_,.idx i::π=>match cs with
  |[.slice (some ⟨b,off,none⟩) len _]=>if 0<=i/\i.toNat<len then resolve w t (eo w b (off+i.toNat*t.width) t.width) (some (b,off+i.toNat*t.width)) π else none
  |_=>none
 |.arr n t,cs,s,.ai i::π=>if 0<=i/\i.toNat<n then resolve w t ((cs.drop (i.toNat*t.width)).take t.width) (s.map λp=>(p.1,p.2+i.toNat*t.width)) π else none
 |.box t,cs,_,.deref::π=>match cs with
  |[.pointer (some ⟨b,0,none⟩)]=>resolve w t (eo w b 0 t.width) (some (b,0)) π
  |_=>none
 |.ptr t,cs,_,.deref::π=>match cs with
  |[.pointer (some ⟨b,0,none⟩)]=>resolve w t (eo w b 0 t.width) (some (b,0)) π
  |_=>none
 |_,_,_,_::_=>none
def get?(t:Ty)(x:t.T)(π:List Stp):Option V:=eM t x π λu y=>some ⟨u,y⟩
def gV(t:Ty)(x:t.T)(π:List Stp)(u:Ty)(y:u.T):Option t.T:=gu t x π u y some
theorem fv:∀ (π:List Stp) {R:Type} (t:Ty) (x:t.T) (K:(u:Ty)->u.T->Option R),eM t x π K=(get? t x π).bind λv=>K v.t v.x:=by
 intro π
 induction π with
 |nil=>intro R t x K;cases t <;> rfl
 |cons s π ih=>
  intro R t x K
  unfold get?
  cases t <;> cases s <;> simp only[eM,lH] <;> first
   |rfl
   |exact ih _ _ K
   |(
    split
    ·split
     ·exact ih _ _ K
     ·rfl
    ·rfl)
   |(
    split
    ·exact ih _ _ K
    ·rfl)
theorem gH:∀ (π:List Stp) {R:Type} (t:Ty) (x:t.T) (u:Ty) (y:u.T) (K:t.T->Option R),gu t x π u y K=(gV t x π u y).bind K:=by
 intro π
 induction π with
 |nil=>intro R t x u y K;unfold gV;cases t <;> (simp only[gu];split <;> rfl)
 |cons s π ih=>
  intro R t x u y K
  have up:∀ {β:Type} (a:Ty) (z:a.T) (f:a.T->β) (K:β->Option R),(gu a z π u y λw=>K (f w))=(gu a z π u y λw=>some (f w)).bind K:=by
   intro β a z f K
   rw[ih]
   have:(gu a z π u y λw=>some (f w))=(gV a z π u y).bind λw=>some (f w):=by
    exact ih _ _ _ _ _
   rw[this]
   cases gV a z π u y <;> rfl
  unfold gV
  cases t <;> cases s <;> simp only[gu,lH]
  case st.st=>exact ih _ _ _ _ _
  case box.deref=>exact ih _ _ _ _ _
  case pair.fst=>exact up _ _ (λz=>(z,x.2)) K
  case pair.snd=>exact up _ _ (λz=>(x.1,z)) K
  case sl.idx i=>
   split
   ·cases hx:(x:List _)[i.toNat]? with
    |none=>rfl
    |some z=>exact up _ z (λz'=>(x:List _).set i.toNat z') K
   ·rfl
  case arr.ai i=>
   split
   ·cases hx:(x:List _)[i.toNat]? with
    |none=>rfl
    |some z=>exact up _ z (λz'=>(x:List _).set i.toNat z') K
   ·rfl
  case ptr.deref=>
   cases x with
   |none=>rfl
   |some z=>exact up _ z some K
section
variable {α:Type} {R:α->List Value->ae->Prop} {sz:Nat}
theorem aY.focus(hw:∀ y c S,R y c S->c.length=sz):∀ {x:List α} {i:Nat} {y:α} {cs:List Value} {S:ae},x[i]?=some y->aY R x cs S->
 ∃ c S1 pre post,R y c S1/\Sub S1 S/\cs=pre++c++post/\pre.length=i*sz/\
  ∀ (R':α->List Value->ae->Prop) (y':α) (c':List Value) (Q:ae),(∀ z c T,Sub T S->(∀ k,T k->¬S1 k)->R z c T->R' z c T)->R' y' c' Q->(∀ k,Q k->S k->S1 k)->
   aY R' (x.set i y') (pre++c'++post) (λk=>(S k/\¬S1 k)\/Q k):=by
 intro x
 induction x with
 |nil=>intro i y cs S hy;simp at hy
 |cons z zs ih=>
  rintro i y cs S hy ⟨c1,c2,S1,S2,rfl,h1,h2,s1,s2,d⟩
  cases i with
  |zero=>
   simp only[jq,aW]at hy
   subst hy
   refine⟨c1,S1,[],c2,h1,s1,by simp,by simp,λR' y' c' Q hR hy' hQ=>?_⟩
   refine⟨c',c2,Q,S2,by simp,hy',aY.imp (λz _ c T hT hr=>hR z c T (hT.trans s2) (λk hk hk1=>d k hk1 (hT k hk)) hr) h2,λk h=>.inr h,λk h=>.inl ⟨s2 k h,λh1=>d k h1 h⟩,λk a b=>d k (hQ k a (s2 k b)) b⟩
  |succ i=>
   simp only[jr]at hy
   obtain⟨c,T1,pre,post,hr,t1,rfl,hp,JA⟩:=ih hy h2
   refine⟨c,T1,c1++pre,post,hr,t1.trans s2,by simp,by rw[al,hw _ _ _ h1,hp,eY,Nat.one_mul,lM],λR' y' c' Q hR hy' hQ=>?_⟩
   refine⟨c1,pre++c'++post,S1,λk=>(S2 k/\¬T1 k)\/Q k,by simp,hR _ _ _ s1 (λk a b=>d k a (t1 k b)) h1,JA R' y' c' Q (λz c T hT hn hr=>hR z c T (hT.trans s2) hn hr) hy' (λk a b=>hQ k a (s2 k b)),λk h=>.inl ⟨s1 k h,λh1=>d k h (t1 k h1)⟩,λk h=>h.imp (λh=>⟨s2 k h.1,h.2⟩) id,λk a b=>?_⟩
   exact b.elim (λb=>d k a b.1) (λb=>d k a (t1 k (hQ k b (s1 k a))))
end
def ov(w:World)(b o:Nat)(cs:List Value):Prop:=∃ (c:Array Value) (e:Mark c.size),w.heap[b]?=some (.cells c e.t (e.a,e.b))/\(∃ l r,c.toList=l++cs++r/\l.length=o)
def Upd(w w':World)(b o:Nat)(ds es:List Value):Prop:=∃ (c c':Array Value) (e:Mark c.size) (l r:List Value),w.heap[b]?=some (.cells c e.t (e.a,e.b))/\w'.heap[b]?=some (.cells c' e.t (e.a,e.b))/\c.toList=l++ds++r/\c'.toList=l++es++r/\l.length=o
def Foc(F:ae)(w:World)(t:Ty)(m:Md)(x:t.T)(cs:List Value)(S:ae)(s:Option (Nat×Nat))(π:List Stp)(u:Ty)(ds:List Value)(s':Option (Nat×Nat))(S':ae):Prop:=
 (∃ pre post,cs=pre++ds++post/\s'=s.map (λp=>(p.1,p.2+pre.length))/\
  ∀ F' w' y' es R x' m' mr,mQ t m π m' mr->Sub F F'->gV t x π u y'=some x'->Rep F' w' u m' y' es R->es.length=ds.length->(∀ k,R k->S k->S' k)->
   (∀ k,S k->¬S' k->w'.heap[k]?=w.heap[k]?)->(∀ k,F k->w'.heap[k]?=w.heap[k]?)->
   Rep F' w' t mr x' (pre++es++post) (λk=>(S k/\¬S' k)\/R k))\/
 (∃ b o,s'=some (b,o)/\S b/\¬S' b/\ov w b o ds/\
  ∀ F' w' y' es R x' m' mr,mQ t m π m' mr->Sub F F'->gV t x π u y'=some x'->Rep F' w' u m' y' es R->es.length=ds.length->(∀ k,R k->S k->S' k)->
   (∀ k,S k->¬S' k->k≠b->w'.heap[k]?=w.heap[k]?)->Upd w w' b o ds es->(∀ k,F k->w'.heap[k]?=w.heap[k]?)->
   Rep F' w' t mr x' cs (λk=>(S k/\¬S' k)\/R k))
theorem et{a b:List Value}{n:Nat}(h:a.length=n):(a++b).take n=a:=by rw[<-h];simp
theorem gw{a b:List Value}{n:Nat}(h:a.length=n):(a++b).drop n=b:=by rw[<-h];simp
theorem eZ{w:World}{b o:Nat}{cs:List Value}(h:ov w b o cs):eo w b o cs.length=cs:=by
 obtain⟨c,e,hb,l,r,hc,hl⟩:=h
 unfold eo
 rw[hb]
 simp only[hc]
 rw[<-hl,aT,fF (ar _),eE,bJ,eQ (ar _),cN]
theorem wV{c c' l ds r:List Value}{off n:Nat}{pre d post:List Value}(fi:(c.drop off).take n=pre++d++post)(hn:off+n<=c.length)(hc:c=l++ds++r)
 {dK cJ es:List Value} (hd:d=dK++ds++cJ) (hl:l.length=off+pre.length+dK.length) (hc':c'=l++es++r) (he:es.length=ds.length):
 (c'.drop off).take n=pre++(dK++es++cJ)++post:=by
 subst hd
 have hlen:n=(pre++(dK++ds++cJ)++post).length:=by
  rw[<-fi,aK,bm];omega
 have e1:c=c.take off++((pre++(dK++ds++cJ)++post)++(c.drop off).drop n):=by
  rw[<-fi,dN,dN]
 have e2:c=(c.take off++pre++dK)++ds++(cJ++post++(c.drop off).drop n):=by
  rw[e1]
  have:(c.take off++((pre++(dK++ds++cJ)++post)++(c.drop off).drop n)).take off=c.take off:=by rw[<-e1]
  have h3:((c.take off++((pre++(dK++ds++cJ)++post)++(c.drop off).drop n)).drop off).drop n=(c.drop off).drop n:=by rw[<-e1]
  rw[this,h3]
  simp
 have ht:(c.take off).length=off:=by rw[aK];omega
 have hl2:l.length=(c.take off++pre++dK).length:=by simp only[al,ht];omega
 have e3:l++(ds++r)=(c.take off++pre++dK)++(ds++(cJ++post++(c.drop off).drop n)):=by
  rw[<-aT,<-hc,<-aT];exact e2
 obtain⟨k1,k2⟩:=oq e3 hl2
 have k3:=nX k2
 rw[hc',k1,k3]
 rw[aT,aT,aT (c.take off),fF (by omega)]
 rw[show(c.take off).drop off=[]from ju (by omega),bJ]
 rw[show pre++(dK++(es++(cJ++post++(c.drop off).drop n)))=(pre++(dK++es++cJ)++post)++(c.drop off).drop n by simp]
 have hn2:n=(pre++(dK++es++cJ)++post).length:=by rw[hlen];simp only[al];omega
 conv=>lhs;rw[hn2]
 rw[eQ (ar _),cN]
theorem eA(t:Ty)(x:t.T):get? t x []=some ⟨t,x⟩:=by unfold get?;cases t <;> rfl
theorem Bt{F:ae}{w:World}{n:Nat}{t:Ty}{m:Md}{x:List t.T}{cs:List Value}{S:ae}{s:Option (Nat×Nat)}{π:List Stp}{u:Ty}{y:u.T}{z:t.T}{i:Int}
 (ih:∀ (m:Md) (x:t.T) (cs:List Value) (S:ae) (s:Option (Nat×Nat)),Rep F w t m x cs S->get? t x π=some ⟨u,y⟩->cV t m π=true->∃ ds s' S',resolve w t cs s π=some (ds,s')/\Rep F w u (atM t m π) y ds S'/\Sub S' S/\Foc F w t m x cs S s π u ds s' S')
 (h0:0<=i) (hz:x[i.toNat]?=some z) (hg:get? t z π=some ⟨u,y⟩) (ho:cV t m.el π=true) (hn:x.length=n) (h:aY (Rep F w t m.el) x cs S):
 ∃ ds s' S',resolve w (.arr n t) cs s (.ai i::π)=some (ds,s')/\Rep F w u (atM t m.el π) y ds S'/\Sub S' S/\Foc F w (.arr n t) m x cs S s (.ai i::π) u ds s' S':=by
 obtain⟨c,S1,pre,post,hr,s1,rfl,hp,jZ⟩:=aY.focus (λy c S h=>aL F w t m.el y c S h) hz h
 have hcl:=aL F w t _ _ _ _ hr
 have hi:i.toNat<n:=by rw[<-hn];exact(bB.1 hz).1
 have hc:((pre++c++post).drop (i.toNat*t.width)).take t.width=c:=by rw[aT,gw hp,et hcl]
 obtain⟨ds,s',S',bR,bh,s2,fm⟩:=ih m.el z c S1 (s.map λp=>(p.1,p.2+i.toNat*t.width)) hr hg ho
 refine⟨ds,s',S',?_,bh,s2.trans s1,?_⟩
 ·simp only[resolve]
  rw[if_pos ⟨h0,hi⟩,hc]
  exact bR
 ·have cS:∀ (y':u.T) (x':List t.T),gV (.arr n t) x (.ai i::π) u y'=some x'->∃ z',gV t z π u y'=some z'/\x'=x.set i.toNat z':=by
   intro y' x' hs
   unfold gV at hs
   simp only[gu]at hs
   rw[if_pos h0,hz]at hs
   simp only at hs
   rw[gH]at hs
   obtain⟨z',h1,h2⟩:=bN.1 hs
   exact⟨z',h1,(cP h2).symm⟩
  rcases fm with⟨dK,cJ,rfl,rfl,w2⟩|⟨b,o,rfl,hb,hnb,hl,w2⟩
  ·refine .inl ⟨pre++dK,cJ++post,by simp,?_,?_⟩
   ·cases s with
    |none=>rfl
    |some p=>simp[hp,bV]
   ·intro F' w' y' es R x' m' mr hM hF hs hy he hR hS hFw
    obtain⟨z',hz',rfl⟩:=cS _ _ hs
    obtain⟨hM,rfl⟩:=hM
    refine⟨by rw[eW];exact hn,?_⟩
    have:=jZ (Rep F' w' t mr.el) z' (dK++es++cJ) (λk=>(S1 k/\¬S' k)\/R k)
     (λq c T hT hn hr=>aP hF hFw t _ _ _ _ _ hr (Sub.refl _) (λk hk=>hS k (hT k hk) (λh'=>hn k hk (s2 k h'))))
     (w2 F' w' y' es R z' m' _ hM hF hz' hy he (λk a b=>hR k a (s1 k b)) (λk a b=>hS k (s1 k a) b) hFw)
     (λk a b=>a.elim (λa=>a.1) (λa=>s2 k (hR k a b)))
    have e:pre++dK++es++(cJ++post)=pre++(dK++es++cJ)++post:=by simp
    rw[e]
    refine this.mono (λk hk=>?_)
    rcases hk with⟨a,b⟩|(⟨a,b⟩|a)
    ·exact .inl ⟨a,λh'=>b (s2 k h')⟩
    ·exact .inl ⟨s1 k a,b⟩
    ·exact .inr a
  ·refine .inr ⟨b,o,rfl,s1 b hb,hnb,hl,?_⟩
   intro F' w' y' es R x' m' mr hM hF hs hy he hR hS hU hFw
   obtain⟨z',hz',rfl⟩:=cS _ _ hs
   obtain⟨hM,rfl⟩:=hM
   refine⟨by rw[eW];exact hn,?_⟩
   have:=jZ (Rep F' w' t mr.el) z' c (λk=>(S1 k/\¬S' k)\/R k)
    (λq c T hT hn hr=>aP hF hFw t _ _ _ _ _ hr (Sub.refl _) (λk hk=>hS k (hT k hk) (λh'=>hn k hk (s2 k h')) (λe=>hn k hk (e ▸ hb))))
    (w2 F' w' y' es R z' m' _ hM hF hz' hy he (λk a b=>hR k a (s1 k b)) (λk a b c=>hS k (s1 k a) b c) hU hFw)
    (λk a b=>a.elim (λa=>a.1) (λa=>s2 k (hR k a b)))
   refine this.mono (λk hk=>?_)
   rcases hk with⟨a,b⟩|(⟨a,b⟩|a)
   ·exact .inl ⟨a,λh'=>b (s2 k h')⟩
   ·exact .inl ⟨s1 k a,b⟩
   ·exact .inr a
theorem zq{F:ae}{w:World}{t:Ty}{m:Md}{x:List t.T}{cs:List Value}{S:ae}{s:Option (Nat×Nat)}{π:List Stp}{u:Ty}{y:u.T}{z:t.T}{i:Int}
 (ih:∀ (m:Md) (x:t.T) (cs:List Value) (S:ae) (s:Option (Nat×Nat)),Rep F w t m x cs S->get? t x π=some ⟨u,y⟩->cV t m π=true->∃ ds s' S',resolve w t cs s π=some (ds,s')/\Rep F w u (atM t m π) y ds S'/\Sub S' S/\Foc F w t m x cs S s π u ds s' S')
 (h0:0<=i) (hz:x[i.toNat]?=some z) (hg:get? t z π=some ⟨u,y⟩) (ho:cV t m π=true) (h:xY w t.width (Rep F w t m) x cs S):
 ∃ ds s' S',resolve w (.sl t) cs s (.idx i::π)=some (ds,s')/\Rep F w u (atM t m π) y ds S'/\Sub S' S/\Foc F w (.sl t) (.own m) x cs S s (.idx i::π) u ds s' S':=by
 obtain⟨a,cap,rfl,h1,h2,h3⟩:=h
 have hi:i.toNat<x.length:=(bB.1 hz).1
 rcases h3 with rfl|⟨b,off,c,e,rfl,hb,hc,hS,S1,hr,s1,n1⟩
 ·omega
 have hw:=λy c S (h:Rep F w t m y c S)=>aL F w t m y c S h
 obtain⟨d,T,pre,post,hd,t1,fi,hp,jZ⟩:=aY.focus hw hz hr
 have hdl:=hw _ _ _ hd
 have hrl:=aY.len hw hr
 have hcl:off+x.length*t.width<=c.toList.length:=by
  rw[aO]
  exact bn (od (eR _ h1) _) hc
 have eN:ov w b (off+i.toNat*t.width) d:=by
  refine⟨c,e.any,hb,c.toList.take off++pre,post++(c.toList.drop off).drop (x.length*t.width),?_,?_⟩
  ·rw[show c.toList.take off++pre++d++(post++(c.toList.drop off).drop (x.length*t.width))=c.toList.take off++((pre++d++post)++(c.toList.drop off).drop (x.length*t.width)) by simp]
   rw[<-fi,dN,dN]
  ·rw[al,aK,hp];omega
 obtain⟨ds,s',S',bR,bh,s2,fm⟩:=ih m z d T (some (b,off+i.toNat*t.width)) hd hg ho
 refine⟨ds,s',S',?_,bh,(s2.trans t1).trans s1,?_⟩
 ·simp only[resolve]
  rw[if_pos ⟨h0,hi⟩]
  have:=eZ eN
  rw[hdl]at this
  rw[this]
  exact bR
 ·have nb:¬S' b:=λh'=>n1 (t1 b (s2 b h'))
  have cS:∀ (y':u.T) (x':List t.T),gV (.sl t) x (.idx i::π) u y'=some x'->∃ z',gV t z π u y'=some z'/\x'=x.set i.toNat z':=by
   intro y' x' hs
   unfold gV at hs
   simp only[gu]at hs
   rw[if_pos h0,hz]at hs
   simp only at hs
   rw[gH]at hs
   obtain⟨z',h1,h2⟩:=bN.1 hs
   exact⟨z',h1,(cP h2).symm⟩
  rcases fm with⟨dK,cJ,rfl,rfl,w2⟩|⟨b2,o2,rfl,hb2,ow,hl2,w2⟩
  ·refine .inr ⟨b,off+i.toNat*t.width+dK.length,rfl,hS,nb,?_,?_⟩
   ·obtain⟨c0,e0,hb0,l,r,hc0,hl⟩:=eN
    exact⟨c0,e0,hb0,l++dK,cJ++r,by rw[hc0];simp,by rw[al,hl]⟩
   ·intro F' w' y' es R x' m' mr hM hF hs hy he hR hk hU hFw
    obtain⟨z',hz',rfl⟩:=cS _ _ hs
    obtain⟨e',hme,hM,rfl⟩:=hM
    injection hme with hme
    subst hme
    obtain⟨c1,c',e1,l,r,hb1,hb',hc1,hc',hl⟩:=hU
    obtain⟨hcc,q2,q3,q4⟩:c1=c/\e1.t=e.t/\e1.a=e.a/\e1.b=e.b:=by rw[hb]at hb1;injection hb1 with hb1;injection hb1 with q1 q2 q3;injection q3 with q3 q4;exact⟨q1.symm,q2.symm,q3.symm,q4.symm⟩
    subst hcc
    have hsz:c'.size=c1.size:=by
     rw[<-aO,<-aO,hc1,hc'];simp[he]
    refine⟨some ⟨b,off,none⟩,cap,by rw[eW],by rw[eW];exact h1,h2,.inr ⟨b,off,c',e.to (gq hsz),rfl,by rw[hb',q2,q3,q4];rfl,by rw[hsz];exact hc,.inl ⟨hS,nb⟩,?_⟩⟩
    have x3:=wV fi hcl hc1 rfl (by rw[hp];exact hl) hc' he
    have:=jZ (Rep F' w' t m) z' (dK++es++cJ) (λk=>(T k/\¬S' k)\/R k)
     (λq c T' hT hn hr=>aP hF hFw t _ _ _ _ _ hr (Sub.refl _) (λk hk'=>hk k (s1 k (hT k hk')) (λh'=>hn k hk' (s2 k h')) (λe=>n1 (e ▸ hT k hk'))))
     (w2 F' w' y' es R z' m' _ hM hF hz' hy he (λk a b=>hR k a (s1 k (t1 k b))) (λk a b'=>hk k (s1 k (t1 k a)) b' (λe=>n1 (t1 _ (e ▸ a)))) hFw)
     (λk a b=>a.elim (λa=>a.1) (λa=>s2 k (hR k a (s1 k b))))
    refine⟨_,by rw[eW,x3];exact this,λk hk=>?_,?_⟩
    ·rcases hk with⟨a,b⟩|(⟨a,b⟩|a)
     ·exact .inl ⟨s1 k a,λh'=>b (s2 k h')⟩
     ·exact .inl ⟨s1 k (t1 k a),b⟩
     ·exact .inr a
    ·rintro(⟨a,_⟩|(⟨a,_⟩|a))
     ·exact n1 a
     ·exact n1 (t1 b a)
     ·exact nb (hR b a hS)
  ·refine .inr ⟨b2,o2,rfl,s1 _ (t1 _ hb2),ow,hl2,?_⟩
   intro F' w' y' es R x' m' mr hM hF hs hy he hR hk hU hFw
   obtain⟨z',hz',rfl⟩:=cS _ _ hs
   obtain⟨e',hme,hM,rfl⟩:=hM
   injection hme with hme
   subst hme
   have hne:b≠b2:=λe=>n1 (t1 b (e ▸ hb2))
   refine⟨some ⟨b,off,none⟩,cap,by rw[eW],by rw[eW];exact h1,h2,.inr ⟨b,off,c,e,rfl,(hk b hS nb hne).trans hb,hc,.inl ⟨hS,nb⟩,?_⟩⟩
   have:=jZ (Rep F' w' t m) z' d (λk=>(T k/\¬S' k)\/R k)
    (λq c T' hT hn hr=>aP hF hFw t _ _ _ _ _ hr (Sub.refl _) (λk hk'=>hk k (s1 k (hT k hk')) (λh'=>hn k hk' (s2 k h')) (λe=>hn k hk' (e ▸ hb2))))
    (w2 F' w' y' es R z' m' _ hM hF hz' hy he (λk a b=>hR k a (s1 k (t1 k b))) (λk a b c=>hk k (s1 k (t1 k a)) b c) hU hFw)
    (λk a b=>a.elim (λa=>a.1) (λa=>s2 k (hR k a (s1 k b))))
   refine⟨_,by rw[eW,fi];exact this,λk hk=>?_,?_⟩
   ·rcases hk with⟨a,b⟩|(⟨a,b⟩|a)
    ·exact .inl ⟨s1 k a,λh'=>b (s2 k h')⟩
    ·exact .inl ⟨s1 k (t1 k a),b⟩
    ·exact .inr a
   ·rintro(⟨a,_⟩|(⟨a,_⟩|a))
    ·exact n1 a
    ·exact n1 (t1 b a)
    ·exact nb (hR b a hS)
theorem rP{F:ae}{w:World}{t:Ty}{m:Md}{z:t.T}{cs:List Value}{S:ae}{π:List Stp}{u:Ty}{y:u.T}
 (ih:∀ (m:Md) (x:t.T) (cs:List Value) (S:ae) (s:Option (Nat×Nat)),Rep F w t m x cs S->get? t x π=some ⟨u,y⟩->cV t m π=true->∃ ds s' S',resolve w t cs s π=some (ds,s')/\Rep F w u (atM t m π) y ds S'/\Sub S' S/\Foc F w t m x cs S s π u ds s' S')
 (hg:get? t z π=some ⟨u,y⟩) (ho:cV t m π=true) (h:sN w (Rep F w t m) z cs S):
 ∃ p ds s' S',cs=[.pointer (some ⟨p,0,none⟩)]/\resolve w t (eo w p 0 t.width) (some (p,0)) π=some (ds,s')/\Rep F w u (atM t m π) y ds S'/\Sub S' S/\
  ∃ b o,s'=some (b,o)/\S b/\¬S' b/\ov w b o ds/\
 ∀ F' w' y' es R z' m' mr,mQ t m π m' mr->Sub F F'->gV t z π u y'=some z'->Rep F' w' u m' y' es R->es.length=ds.length->(∀ k,R k->S k->S' k)->
  (∀ k,S k->¬S' k->k≠b->w'.heap[k]?=w.heap[k]?)->Upd w w' b o ds es->(∀ k,F k->w'.heap[k]?=w.heap[k]?)->
  sN w' (Rep F' w' t mr) z' cs (λk=>(S k/\¬S' k)\/R k):=by
 obtain⟨p,c,e,rfl,hb,hS,S1,hr,s1,n1⟩:=h
 have hcl:=aL F w t m z _ _ hr
 have eN:ov w p 0 c.toList:=⟨c,e,hb,[],[],by simp,rfl⟩
 obtain⟨ds,s',S',bR,bh,s2,fm⟩:=ih m z c.toList S1 (some (p,0)) hr hg ho
 have hcc:=eZ eN
 rw[hcl]at hcc
 have np:¬S' p:=λh'=>n1 (s2 p h')
 refine⟨p,ds,s',S',rfl,by rw[hcc];exact bR,bh,s2.trans s1,?_⟩
 rcases fm with⟨dK,cJ,hc2,rfl,w2⟩|⟨b2,o2,rfl,hb2,ow,hl2,w2⟩
 ·refine⟨p,0+dK.length,rfl,hS,np,⟨c,e,hb,dK,cJ,hc2,by simp⟩,?_⟩
  intro F' w' y' es R z' m' mr hM hF hs hy he hR hk hU hFw
  obtain⟨c1,c',e1,l,r,hb1,hb',hc1,hc',hl⟩:=hU
  have hcc:c1=c:=by rw[hb]at hb1;injection hb1 with hb1;injection hb1 with hb1 _ _;exact hb1.symm
  subst hcc
  have hsz:c'.size=c1.size:=by
   rw[<-aO,<-aO,hc1,hc'];simp[he]
  refine⟨p,c',e1.to (gq hsz),rfl,hb',.inl ⟨hS,np⟩,λk=>(S1 k/\¬S' k)\/R k,?_,λk hk=>hk.imp (λh=>⟨s1 k h.1,h.2⟩) id,?_⟩
  ·have:=w2 F' w' y' es R z' m' mr hM hF hs hy he (λk a b=>hR k a (s1 k b)) (λk a b=>hk k (s1 k a) b (λe=>n1 (e ▸ a))) hFw
   have e3:l++(ds++r)=dK++(ds++cJ):=by rw[<-aT,<-hc1,<-aT];exact hc2
   obtain⟨k1,k2⟩:=oq e3 (by omega)
   have k3:=nX k2
   rw[hc',k1,k3]
   exact this
  ·rintro(⟨a,_⟩|a)
   ·exact n1 a
   ·exact np (hR p a hS)
 ·refine⟨b2,o2,rfl,s1 _ hb2,ow,hl2,?_⟩
  intro F' w' y' es R z' m' mr hM hF hs hy he hR hk hU hFw
  have hne:p≠b2:=λe=>n1 (e ▸ hb2)
  refine⟨p,c,e,rfl,(hk p hS np hne).trans hb,.inl ⟨hS,np⟩,λk=>(S1 k/\¬S' k)\/R k,?_,λk hk=>hk.imp (λh=>⟨s1 k h.1,h.2⟩) id,?_⟩
  ·exact w2 F' w' y' es R z' m' mr hM hF hs hy he (λk a b=>hR k a (s1 k b)) (λk a b c=>hk k (s1 k a) b c) hU hFw
  ·rintro(⟨a,_⟩|a)
   ·exact n1 a
   ·exact np (hR p a hS)
theorem gI{t:Ty}{x:t.T}{π:List Stp}{u:Ty}{y:u.T}{β:Type}{f:t.T->β}{r:β}(h:gu t x π u y (λz=>some (f z))=some r):∃ z,gV t x π u y=some z/\r=f z:=by
 rw[gH]at h
 obtain⟨z,h1,h2⟩:=bN.1 h
 exact⟨z,h1,(cP h2).symm⟩
theorem focus(F:ae)(w:World):∀ (π:List Stp) (t:Ty) (m:Md) (x:t.T) (cs:List Value) (S:ae) (s:Option (Nat×Nat)) (u:Ty) (y:u.T),
 Rep F w t m x cs S->get? t x π=some ⟨u,y⟩->cV t m π=true->
 ∃ ds s' S',resolve w t cs s π=some (ds,s')/\Rep F w u (atM t m π) y ds S'/\Sub S' S/\Foc F w t m x cs S s π u ds s' S':=by
 intro π
 induction π with
 |nil=>
  intro t m x cs S s u y h hg _
  rw[eA]at hg
  injection hg with hg
  injection hg with h1 h2
  subst h1
  cases h2
  refine⟨cs,s,S,?_,?_,Sub.refl _,.inl ⟨[],[],by simp,?_,?_⟩⟩
  ·cases t <;> rfl
  ·cases t <;> exact h
  ·cases s <;> rfl
  ·intro F' w' y' es R x' m' mr hM _ hs hy _ _ _ _
   have hx:x'=y':=by
    unfold gV at hs
    cases t <;> (simp only[gu]at hs;first|exact(cP ((dif_pos trivial).symm.trans hs)).symm|(rw[dif_pos trivial]at hs;done))
   subst hx
   have hm:mr=m':=by cases t <;> exact hM
   subst hm
   simp only[bJ,cQ]
   exact pZ hy (λk h=>Or.inr h)
 |cons p0 π ih=>
  intro t m x cs S s u y h hg ho
  unfold get? at hg
  cases t <;> cases p0 <;> simp only[eM,reduceCtorEq]at hg
  case st.st t=>
   simp only[cV]at ho
   obtain⟨ds,s',S',h1,h2,h3,h4⟩:=ih t m x cs S s u y h hg ho
   exact⟨ds,s',S',h1,h2,h3,h4⟩
  case pair.fst a b=>
   obtain⟨c1,c2,S1,S2,rfl,h1,h2,s1,s2,d⟩:=h
   simp only[cV]at ho
   have hcl:=aL _ _ _ _ _ _ _ h1
   obtain⟨ds,s',S',bR,bh,s3,fm⟩:=ih a m.fst x.1 c1 S1 s u y h1 hg ho
   refine⟨ds,s',S',?_,bh,s3.trans s1,?_⟩
   ·simp only[resolve];rw[et hcl];exact bR
   ·rcases fm with⟨dK,cJ,rfl,rfl,w2⟩|⟨b2,o2,rfl,hb2,ow,hl2,w2⟩
    ·refine .inl ⟨dK,cJ++c2,by simp,rfl,?_⟩
     intro F' w' y' es R x' m' mr hM hF hs hy he hR hS hFw
     obtain⟨q,hM,hq⟩:=hM
     obtain⟨z,hz,rfl⟩:=gI (f:=λz=>(z,x.2)) hs
     have e1:mr.fst=q/\mr.snd=m.snd:=by rcases hq with⟨rfl,rfl⟩|rfl <;> exact⟨rfl,rfl⟩
     refine⟨dK++es++cJ,c2,λk=>(S1 k/\¬S' k)\/R k,S2,by simp,?_,?_,?_,?_,?_⟩
     ·rw[e1.1];exact w2 F' w' y' es R z m' q hM hF hz hy he (λk a b=>hR k a (s1 k b)) (λk a b=>hS k (s1 k a) b) hFw
     ·rw[e1.2];exact aP hF hFw _ _ _ _ _ _ h2 (Sub.refl _) (λk hk=>hS k (s2 k hk) (λh'=>d k (s3 k h') hk))
     ·exact λk hk=>hk.imp (λh=>⟨s1 k h.1,h.2⟩) id
     ·exact λk hk=>.inl ⟨s2 k hk,λh'=>d k (s3 k h') hk⟩
     ·exact λk a b=>a.elim (λa=>d k a.1 b) (λa=>d k (s3 k (hR k a (s2 k b))) b)
    ·refine .inr ⟨b2,o2,rfl,s1 _ hb2,ow,hl2,?_⟩
     intro F' w' y' es R x' m' mr hM hF hs hy he hR hS hU hFw
     obtain⟨q,hM,hq⟩:=hM
     obtain⟨z,hz,rfl⟩:=gI (f:=λz=>(z,x.2)) hs
     have e1:mr.fst=q/\mr.snd=m.snd:=by rcases hq with⟨rfl,rfl⟩|rfl <;> exact⟨rfl,rfl⟩
     refine⟨c1,c2,λk=>(S1 k/\¬S' k)\/R k,S2,rfl,?_,?_,?_,?_,?_⟩
     ·rw[e1.1];exact w2 F' w' y' es R z m' q hM hF hz hy he (λk a b=>hR k a (s1 k b)) (λk a b c=>hS k (s1 k a) b c) hU hFw
     ·rw[e1.2];exact aP hF hFw _ _ _ _ _ _ h2 (Sub.refl _) (λk hk=>hS k (s2 k hk) (λh'=>d k (s3 k h') hk) (λe=>d k (e ▸ hb2) hk))
     ·exact λk hk=>hk.imp (λh=>⟨s1 k h.1,h.2⟩) id
     ·exact λk hk=>.inl ⟨s2 k hk,λh'=>d k (s3 k h') hk⟩
     ·exact λk a b=>a.elim (λa=>d k a.1 b) (λa=>d k (s3 k (hR k a (s2 k b))) b)
  case pair.snd a b=>
   obtain⟨c1,c2,S1,S2,rfl,h1,h2,s1,s2,d⟩:=h
   simp only[cV]at ho
   have hcl:=aL _ _ _ _ _ _ _ h1
   obtain⟨ds,s',S',bR,bh,s3,fm⟩:=ih b m.snd x.2 c2 S2 (s.map λp=>(p.1,p.2+a.width)) u y h2 hg ho
   refine⟨ds,s',S',?_,bh,s3.trans s2,?_⟩
   ·simp only[resolve];rw[gw hcl];exact bR
   ·rcases fm with⟨dK,cJ,rfl,rfl,w2⟩|⟨b2,o2,rfl,hb2,ow,hl2,w2⟩
    ·refine .inl ⟨c1++dK,cJ,by simp,?_,?_⟩
     ·cases s with
      |none=>rfl
      |some p=>simp[hcl,bV]
     intro F' w' y' es R x' m' mr hM hF hs hy he hR hS hFw
     obtain⟨q,hM,hq⟩:=hM
     obtain⟨z,hz,rfl⟩:=gI (f:=λz=>(x.1,z)) hs
     have e1:mr.fst=m.fst/\mr.snd=q:=by rcases hq with⟨rfl,rfl⟩|rfl <;> exact⟨rfl,rfl⟩
     refine⟨c1,dK++es++cJ,S1,λk=>(S2 k/\¬S' k)\/R k,by simp,?_,?_,?_,?_,?_⟩
     ·rw[e1.1];exact aP hF hFw _ _ _ _ _ _ h1 (Sub.refl _) (λk hk=>hS k (s1 k hk) (λh'=>d k hk (s3 k h')))
     ·rw[e1.2];exact w2 F' w' y' es R z m' q hM hF hz hy he (λk a b=>hR k a (s2 k b)) (λk a b=>hS k (s2 k a) b) hFw
     ·exact λk hk=>.inl ⟨s1 k hk,λh'=>d k hk (s3 k h')⟩
     ·exact λk hk=>hk.imp (λh=>⟨s2 k h.1,h.2⟩) id
     ·exact λk a b=>b.elim (λb=>d k a b.1) (λb=>d k a (s3 k (hR k b (s1 k a))))
    ·refine .inr ⟨b2,o2,rfl,s2 _ hb2,ow,hl2,?_⟩
     intro F' w' y' es R x' m' mr hM hF hs hy he hR hS hU hFw
     obtain⟨q,hM,hq⟩:=hM
     obtain⟨z,hz,rfl⟩:=gI (f:=λz=>(x.1,z)) hs
     have e1:mr.fst=m.fst/\mr.snd=q:=by rcases hq with⟨rfl,rfl⟩|rfl <;> exact⟨rfl,rfl⟩
     refine⟨c1,c2,S1,λk=>(S2 k/\¬S' k)\/R k,rfl,?_,?_,?_,?_,?_⟩
     ·rw[e1.1];exact aP hF hFw _ _ _ _ _ _ h1 (Sub.refl _) (λk hk=>hS k (s1 k hk) (λh'=>d k hk (s3 k h')) (λe=>d k hk (e ▸ hb2)))
     ·rw[e1.2];exact w2 F' w' y' es R z m' q hM hF hz hy he (λk a b=>hR k a (s2 k b)) (λk a b c=>hS k (s2 k a) b c) hU hFw
     ·exact λk hk=>.inl ⟨s1 k hk,λh'=>d k hk (s3 k h')⟩
     ·exact λk hk=>hk.imp (λh=>⟨s2 k h.1,h.2⟩) id
     ·exact λk a b=>b.elim (λb=>d k a b.1) (λb=>d k a (s3 k (hR k b (s1 k a))))
  case sl.idx t i=>
   split at hg
   ·rename_i h0
    cases hz:(x:List t.T)[i.toNat]? with
    |none=>rw[hz]at hg;simp at hg
    |some z=>
     rw[hz]at hg
     simp only[cV,ag]at ho
     cases m with
     |ro=>simp[Md.ez]at ho
     |pr _ _=>simp[Md.ez]at ho
     |own m=>exact zq (λm x cs S s h1 h2 h3=>ih t m x cs S s u y h1 h2 h3) h0 hz hg ho.2 h
   ·cases hg
  case arr.ai n t i=>
   split at hg
   ·rename_i h0
    cases hz:(x:List t.T)[i.toNat]? with
    |none=>rw[hz]at hg;simp at hg
    |some z=>
     rw[hz]at hg
     simp only[cV]at ho
     exact Bt (λm x cs S s h1 h2 h3=>ih t m x cs S s u y h1 h2 h3) h0 hz hg ho h.1 h.2
   ·cases hg
  case box.deref t=>
   simp only[cV,ag]at ho
   cases m with
   |ro=>simp[Md.ez]at ho
   |pr _ _=>simp[Md.ez]at ho
   |own m=>
    obtain⟨p,ds,s',S',rfl,bR,bh,s1,b,o,h1,h2,h3,h4,h5⟩:=rP (λm x cs S s h1 h2 h3=>ih t m x cs S s u y h1 h2 h3) hg ho.2 h
    refine⟨ds,s',S',by simp only[resolve];exact bR,bh,s1,.inr ⟨b,o,h1,h2,h3,h4,?_⟩⟩
    intro F' w' y' es R x' m' mr hM hF hs hy he hR hS hU hFw
    obtain⟨e',q,hme,hM,rfl⟩:=hM
    injection hme with hme
    subst hme
    exact h5 F' w' y' es R x' m' q hM hF hs hy he hR hS hU hFw
  case ptr.deref t=>
   simp only[cV,ag]at ho
   cases x with
   |none=>simp at hg
   |some z=>
   cases m with
   |ro=>simp[Md.ez]at ho
   |pr _ _=>simp[Md.ez]at ho
   |own m=>
    obtain⟨p,ds,s',S',rfl,bR,bh,s1,b,o,h1,h2,h3,h4,h5⟩:=rP (λm x cs S s h1 h2 h3=>ih t m x cs S s u y h1 h2 h3) hg ho.2 h
    refine⟨ds,s',S',by simp only[resolve];exact bR,bh,s1,.inr ⟨b,o,h1,h2,h3,h4,?_⟩⟩
    intro F' w' y' es R x' m' mr hM hF hs hy he hR hS hU hFw
    obtain⟨e',q,hme,hM,rfl⟩:=hM
    injection hme with hme
    subst hme
    obtain⟨z',hz',rfl⟩:=gI (f:=λz=>some z) hs
    exact h5 F' w' y' es R z' m' q hM hF hz' hy he hR hS hU hFw
inductive TK where
 |int (k:IntKind)|bool|str
 |slice (e:TypeId)|array (n:Nat) (e:TypeId)
 |struct (fs:List (TypeId×Nat))
 |pointer (e:TypeId)
 |chan (e:TypeId)
 |map (k e:TypeId)
 |other
structure TD where
 kd:TK
 bytes:Nat
 ty:Ty
 zero:List Value
def TK.agg:TK->Bool
 |.struct _|.array _ _=>true
 |_=>false
structure TOk(P:Program)(t:TypeId)(d:TD):Prop where
 ry:∃ i z,P.info? t=some i/\i.size=d.ty.width/\i.bytes=d.bytes/\i.zero=some z/\z.cells.toList=d.zero
 desc:match d.kd with
  |.int k=>P.underlying t=some (.int k)/\d.ty=.int k
  |.bool=>P.underlying t=some .bool/\d.ty=.bool
  |.str=>P.underlying t=some .string/\d.ty=.str
  |.slice e=>P.underlying t=some (.slice e)
  |.array n e=>P.underlying t=some (.array n e)
  |.struct fs=>∃ f:Array Field,P.underlying t=some (.struct f)/\f.toList.map (λx=>(x.type,x.offset))=fs
  |.pointer e=>P.underlying t=some (.pointer e)
  |.chan e=>∃ dir,P.underlying t=some (.chan dir e)
  |.map k e=>P.underlying t=some (.map k e)
  |.other=>∃ q,P.underlying t=some q/\(∀ fs,q≠.struct fs)/\(∀ n e,q≠.array n e)
 agg:d.ty.agg=d.kd.agg
 JB:d.zero.length=d.ty.width
 zi:∀ k,d.kd=.int k->∃ i,P.info? t=some i/\i.zero=some (.int k 0)
structure Lab where
 v:Nat
 t:Ty
 m:Md
 x:t.T
inductive aj where
 |val (t:Ty) (x:t.T)
 |cst (v:Value)
 |hdr (l v:Nat) (π:List Stp) (c:V)
 |adr (l v:Nat) (π:List Stp) (c:V)
 |jF (t:Ty) (x:t.T)
 |view (l:Nat) (te:Ty) (lo hi:Int)
inductive Ent where
 |one (e:aj)
 |tup (es:List aj)
 |clo (f:FuncId) (es:List aj)
structure St where
 E:Nat->Option Ent
 L:Nat->Option Lab
 U:Nat->Bool
def upd{α:Type}(f:Nat->Option α)(k:Nat)(v:Option α):Nat->Option α:=λj=>bif Nat.beq j k then v else f j
theorem ay{α:Type}(f:Nat->Option α)(k:Nat)(v:Option α):upd f k v k=v:=by simp[upd]
theorem aI{α:Type}(f:Nat->Option α){k j:Nat}(v:Option α)(h:j≠k):upd f k v j=f j:=by
 unfold upd
 cases hb:Nat.beq j k
 ·rfl
 ·exact absurd (aV hb) h
theorem eO{α:Type}{f:Nat->Option α}{k j:Nat}{v:Option α}{r:α}(h:upd f k v j=some r):(j=k/\v=some r)\/(j≠k/\f j=some r):=by
 by_cases e:j=k
 ·subst e;rw[ay]at h;exact .inl ⟨rfl,h⟩
 ·rw[aI _ _ e]at h;exact .inr ⟨e,h⟩
def St.p5(σ:St)(d:Nat)(e:aj):St:={σ with E:=upd σ.E d (some (.one e))}
def St.JC(σ:St)(l:Nat)(b:Lab):St:={σ with L:=upd σ.L l (some b),U:=λj=>Nat.beq j l||σ.U j}
theorem VR.cells{t:Ty}{cs:List Value}{v:Value}(h:VR t cs v):v.cells.toList=cs:=by
 unfold VR at h
 split at h
 ·subst h;rfl
 ·obtain⟨rfl,h1⟩:=h
  cases v <;> first|rfl|(simp[Value.oneCell']at h1)
def aU:Ty->List Value->Option (Nat×Nat)->List Stp->Option (Nat×Nat)
 |_,_,s,[]=>s
 |.st t,cs,s,.st::π=>aU t cs s π
 |.pair a _,cs,s,.fst::π=>aU a (cs.take a.width) s π
 |.pair a b,cs,s,.snd::π=>aU b (cs.drop a.width) (s.map λp=>(p.1,p.2+a.width)) π
 |.sl t,cs,s,.idx i::π=>match s,cs with
  |none,[.slice (some ⟨b,off,none⟩) len _]=>if 0<=i/\i.toNat<len then aU t [] (some (b,off+i.toNat*t.width)) π else none
  |_,_=>none
 |.hol t,cs,s,.idx i::π=>match s,cs with
  |none,[.slice (some ⟨b,off,none⟩) len _]=>if 0<=i/\i.toNat<len then aU t [] (some (b,off+i.toNat*t.width)) π else none
  |_,_=>none
 |.arr n t,cs,s,.ai i::π=>if 0<=i/\i.toNat<n then aU t ((cs.drop (i.toNat*t.width)).take t.width) (s.map λp=>(p.1,p.2+i.toNat*t.width)) π else none
 |.box t,cs,s,.deref::π=>match s,cs with
  |none,[.pointer (some ⟨b,0,none⟩)]=>aU t [] (some (b,0)) π
  |_,_=>none
 |.ptr t,cs,s,.deref::π=>match s,cs with
  |none,[.pointer (some ⟨b,0,none⟩)]=>aU t [] (some (b,0)) π
  |_,_=>none
 |_,_,_,_::_=>none
def short:Nat->List Stp->Bool
 |_,[]=>true
 |n,.idx _::π=>match n with|0=>short 1 π|_=>false
 |n,.deref::π=>match n with|0=>short 1 π|_=>false
 |n,_::π=>short n π
def HB(cs:List Value)(sz:Nat)(lo hi:Int)(v:Value):Prop:=
 ∃ a len cap,cs=[.slice a len cap]/\0<=lo/\lo<=hi/\hi<=(len:Int)/\v=.slice (if cap=lo.toNat then a else a.map (·.add (lo.toNat*sz))) (hi.toNat-lo.toNat) (cap-lo.toNat)
def aw(F:ae)(w:World)(L:Nat->Option Lab)(U:Nat->Bool)(cg:Nat->List Value):aj->Value->Prop
 |.val t x,v=>∃ cs,Rep F w t .ro x cs ae.none/\VR t cs v
 |.cst u,v=>v=u
 |.hdr l n π c,v=>U l=true/\∀ b,L l=some b->n<=b.v/\(π=[]->VR b.t (cg l) v)/\(n=b.v->cV b.t b.m π=true/\get? b.t b.x π=some c/\∀ ds s,resolve w b.t (cg l) none π=some (ds,s)->VR (atT b.t π) ds v)
 |.adr l n π c,v=>U l=true/\∀ b,L l=some b->n<=b.v/\(short 0 π=true->∀ p o,aU b.t (cg l) none π=some (p,o)->v=.pointer (some ⟨p,o,none⟩))/\
  (n=b.v->cV b.t b.m π=true/\get? b.t b.x π=some c/\∀ ds p o,resolve w b.t (cg l) none π=some (ds,some (p,o))->v=.pointer (some ⟨p,o,none⟩))
 |.view l te lo hi,v=>U l=true/\∀ b,L l=some b->HB (cg l) te.width lo hi v
 |.jF t x,v=>∃ a ds,v=.pointer (some a)/\F a.block/\At w a ds/\Rep F w t .ro x ds ae.none
def bW(F:ae)(w:World)(L:Nat->Option Lab)(U:Nat->Bool)(cg:Nat->List Value):List aj->List Value->Prop
 |[],vs=>vs=[]
 |e::es,vs=>∃ v r,vs=v::r/\aw F w L U cg e v/\bW F w L U cg es r
def gx(F:ae)(w:World)(L:Nat->Option Lab)(U:Nat->Bool)(cg:Nat->List Value):Ent->Value->Prop
 |.one e,v=>aw F w L U cg e v
 |.tup es,v=>∃ vs:List Value,v=.tuple vs.toArray/\bW F w L U cg es vs
 |.clo f es,v=>∃ vs:List Value,v=.func (.func f) #[] vs.toArray/\bW F w L U cg es vs
structure Fr(w0:World)(S0:ae)(w:World):Prop where
 os:w.os=w0.os
 tape:w.tape=w0.tape
 output:w.output=w0.output
 size:w0.heap.size<=w.heap.size
 block:∀ k,k<w0.heap.size->¬S0 k->w.heap[k]?=w0.heap[k]?
def GK:List Nat:=[]
def Gh(F:ae)(w:World):Prop:=∀ p∈GK,F p/\∃ n,w.cell? ⟨p,0,none⟩=some (.int .i64 n)
theorem Gh.step{F F':ae}{w w':World}(h:Gh F w)(hs:Sub F F')(hb:∀ p∈GK,w'.heap[p]?=w.heap[p]?):Gh F' w':=by
 intro p hp
 obtain⟨h1,n,h2⟩:=h p hp
 exact⟨hs p h1,n,(pY (a:=⟨p,0,none⟩) (hb p hp)).trans h2⟩
structure dh where
 w0:World
 S0:ae
 F0:ae
 N:Nat
 fix:Nat->Option (List Value)
 gh:Gh F0 w0
 ghs:∀ p∈GK,¬S0 p
 ghl:∀ p∈GK,p<w0.heap.size
structure aJ(B:dh)(F:ae)(Sg:Nat->ae)(cg:Nat->List Value)(σ:St)(a:Act)(w:World):Prop where
 fr:Fr B.w0 B.S0 w
 size:a.tmps.size=B.N
 defers:a.defers=[]
 f0:Sub B.F0 F
 fl:∀ k,F k->k<w.heap.size
 fs:∀ k,F k->k<B.w0.heap.size->¬B.S0 k->B.F0 k
 lab:∀ l b,σ.L l=some b->Rep F w b.t b.m b.x (cg l) (Sg l)
 dis:∀ l l' b b',l≠l'->σ.L l=some b->σ.L l'=some b'->Dis (Sg l) (Sg l')
 dG:∀ l b,σ.L l=some b->Dis (Sg l) F
 lt:∀ l b,σ.L l=some b->∀ k,Sg l k->k<w.heap.size
 may:∀ l b,σ.L l=some b->∀ k,Sg l k->k<B.w0.heap.size->B.S0 k
 used:∀ l b,σ.L l=some b->σ.U l=true
 fix:∀ l cs,B.fix l=some cs->(σ.U l=true/\l % 8=6)/\∀ b,σ.L l=some b->cg l=cs
 ent:∀ t e,σ.E t=some e->gx F w σ.L σ.U cg e (a.tmps.getD t undef)
def Inv(B:dh)(σ:St)(a:Act)(w:World):Prop:=∃ F Sg cg,aJ B F Sg cg σ a w
theorem resolve_congr{F:ae}{w w':World}:∀ (π:List Stp) (t:Ty) (m:Md) (x:t.T) (cs:List Value) (S:ae) (s:Option (Nat×Nat)),Rep F w t m x cs S->cV t m π=true->(get? t x π).isSome=true->
 (∀ k,S k->w'.heap[k]?=w.heap[k]?)->resolve w' t cs s π=resolve w t cs s π:=by
 intro π
 induction π with
 |nil=>intro t m x cs S s _ _ _ _;cases t <;> rfl
 |cons p0 π ih=>
  intro t m x cs S s h ho hg hw
  unfold get? at hg
  cases t <;> cases p0 <;> simp only[eM,Option.isSome_none,reduceCtorEq]at hg
  case st.st t=>exact ih t m x cs S s h ho hg hw
  case pair.fst a b=>
   obtain⟨c1,c2,S1,S2,rfl,h1,h2,s1,s2,d⟩:=h
   simp only[resolve]
   rw[et (aL _ _ _ _ _ _ _ h1)]
   exact ih a _ _ _ _ _ h1 ho hg (λk hk=>hw k (s1 k hk))
  case pair.snd a b=>
   obtain⟨c1,c2,S1,S2,rfl,h1,h2,s1,s2,d⟩:=h
   simp only[resolve]
   rw[gw (aL _ _ _ _ _ _ _ h1)]
   exact ih b _ _ _ _ _ h2 ho hg (λk hk=>hw k (s2 k hk))
  case sl.idx t i=>
   split at hg
   ·rename_i h0
    cases hz:(x:List t.T)[i.toNat]? with
    |none=>rw[hz]at hg;simp at hg
    |some z=>
     rw[hz]at hg
     simp only[cV,ag]at ho
     cases m with
     |ro=>simp[Md.ez]at ho
     |pr _ _=>simp[Md.ez]at ho
     |own m=>
      obtain⟨a,cap,rfl,h1,h2,h3⟩:=h
      have hi:i.toNat<List.length x:=(bB.1 hz).1
      rcases h3 with rfl|⟨b,off,c,e,rfl,hb,hc,hS,S1,hr,s1,n1⟩
      ·omega
      have hW:=λy c S (h:Rep F w t m y c S)=>aL F w t m y c S h
      obtain⟨d,T,pre,post,hd,t1,fi,hp,_⟩:=aY.focus hW hz hr
      have iX:eo w b (off+i.toNat*t.width) t.width=d:=by
       have hdl:=hW _ _ _ hd
       have hrl:=aY.len hW hr
       have hcl:off+x.length*t.width<=c.toList.length:=by
        rw[aO]
        exact bn (od (eR _ h1) _) hc
       have eN:ov w b (off+i.toNat*t.width) d:=by
        refine⟨c,e.any,hb,c.toList.take off++pre,post++(c.toList.drop off).drop (x.length*t.width),?_,?_⟩
        ·rw[show c.toList.take off++pre++d++(post++(c.toList.drop off).drop (x.length*t.width))=c.toList.take off++((pre++d++post)++(c.toList.drop off).drop (x.length*t.width)) by simp]
         rw[<-fi,dN,dN]
        ·rw[al,aK,hp];omega
       have:=eZ eN
       rwa [hdl]at this
      have p7:eo w' b (off+i.toNat*t.width) t.width=d:=by
       rw[<-iX];unfold eo;rw[hw b hS]
      simp only[resolve]
      rw[if_pos ⟨h0,hi⟩,if_pos ⟨h0,hi⟩,iX,p7]
      exact ih t m z d T _ hd ho.2 hg (λk hk=>hw k (s1 k (t1 k hk)))
   ·simp at hg
  case arr.ai n t i=>
   split at hg
   ·rename_i h0
    cases hz:(x:List t.T)[i.toNat]? with
    |none=>rw[hz]at hg;simp at hg
    |some z=>
     rw[hz]at hg
     obtain⟨hn,h⟩:=h
     have hW:=λy c S (h:Rep F w t m.el y c S)=>aL F w t m.el y c S h
     obtain⟨d,T,pre,post,hd,t1,rfl,hp,_⟩:=aY.focus hW hz h
     have hdl:=hW _ _ _ hd
     have hi:i.toNat<n:=by rw[<-hn];exact(bB.1 hz).1
     have hc:((pre++d++post).drop (i.toNat*t.width)).take t.width=d:=by rw[aT,gw hp,et hdl]
     simp only[resolve]
     rw[if_pos ⟨h0,hi⟩,if_pos ⟨h0,hi⟩,hc]
     exact ih t m.el z d T _ hd ho hg (λk hk=>hw k (t1 k hk))
   ·simp at hg
  case box.deref t=>
   simp only[cV,ag]at ho
   cases m with
   |ro=>simp[Md.ez]at ho
   |pr _ _=>simp[Md.ez]at ho
   |own m=>
    obtain⟨p,c,e,rfl,hb,hS,S1,hr,s1,n1⟩:=h
    have hcl:=aL F w t m x _ _ hr
    have iX:eo w p 0 t.width=c.toList:=by
     have:=eZ (w:=w) (b:=p) (o:=0) (cs:=c.toList) ⟨c,e,hb,[],[],by simp,rfl⟩
     rwa [hcl]at this
    have p7:eo w' p 0 t.width=c.toList:=by rw[<-iX];unfold eo;rw[hw p hS]
    simp only[resolve]
    rw[iX,p7]
    exact ih t m x _ S1 _ hr ho.2 hg (λk hk=>hw k (s1 k hk))
  case ptr.deref t=>
   simp only[cV,ag]at ho
   cases x with
   |none=>simp at hg
   |some z=>
   cases m with
   |ro=>simp[Md.ez]at ho
   |pr _ _=>simp[Md.ez]at ho
   |own m=>
    obtain⟨p,c,e,rfl,hb,hS,S1,hr,s1,n1⟩:=h
    have hcl:=aL F w t m z _ _ hr
    have iX:eo w p 0 t.width=c.toList:=by
     have:=eZ (w:=w) (b:=p) (o:=0) (cs:=c.toList) ⟨c,e,hb,[],[],by simp,rfl⟩
     rwa [hcl]at this
    have p7:eo w' p 0 t.width=c.toList:=by rw[<-iX];unfold eo;rw[hw p hS]
    simp only[resolve]
    rw[iX,p7]
    exact ih t m z _ S1 _ hr ho.2 hg (λk hk=>hw k (s1 k hk))
theorem aw.frame{F F':ae}{w w':World}{L:Nat->Option Lab}{U:Nat->Bool}{cg:Nat->List Value}{Sg:Nat->ae}{e:aj}{v:Value}(h:aw F w L U cg e v)(hF:Sub F F')(hFw:∀ k,F k->w'.heap[k]?=w.heap[k]?)
 (oz:∀ l b,L l=some b->Rep F w b.t b.m b.x (cg l) (Sg l)) (hw:∀ l b,L l=some b->∀ k,Sg l k->w'.heap[k]?=w.heap[k]?):aw F' w' L U cg e v:=by
 cases e with
 |val t x=>
  obtain⟨cs,h1,h2⟩:=h
  exact⟨cs,aP hF hFw t .ro x cs _ _ h1 (Sub.refl _) (λ_ h=>h.elim),h2⟩
 |cst u=>exact h
 |view l te lo hi=>exact h
 |jF t x=>
  obtain⟨a,ds,h1,h2,h3,h4⟩:=h
  exact⟨a,ds,h1,hF _ h2,h3.congr (hFw _ h2),aP hF hFw t .ro x ds _ _ h4 (Sub.refl _) (λ_ h=>h.elim)⟩
 |hdr l n π c=>
  refine⟨h.1,λb hb=>?_⟩
  obtain⟨h0,h1,h2⟩:=h.2 b hb
  refine⟨h0,h1,λhn=>?_⟩
  obtain⟨h3,h4,h5⟩:=h2 hn
  refine⟨h3,h4,?_⟩
  rw[resolve_congr π b.t b.m b.x (cg l) (Sg l) none (oz l b hb) h3 (by rw[h4];rfl) (hw l b hb)]
  exact h5
 |adr l n π c=>
  refine⟨h.1,λb hb=>?_⟩
  obtain⟨h0,h1,h2⟩:=h.2 b hb
  refine⟨h0,h1,λhn=>?_⟩
  obtain⟨h3,h4,h5⟩:=h2 hn
  refine⟨h3,h4,?_⟩
  rw[resolve_congr π b.t b.m b.x (cg l) (Sg l) none (oz l b hb) h3 (by rw[h4];rfl) (hw l b hb)]
  exact h5
theorem bW.imp{F F':ae}{w w':World}{L L':Nat->Option Lab}{U U':Nat->Bool}{cg cg':Nat->List Value}(hi:∀ e v,aw F w L U cg e v->aw F' w' L' U' cg' e v):∀ {es:List aj} {vs:List Value},bW F w L U cg es vs->bW F' w' L' U' cg' es vs:=by
 intro es
 induction es with
 |nil=>intro vs h;exact h
 |cons e es ih=>rintro vs ⟨v,r,rfl,h1,h2⟩;exact⟨v,r,rfl,hi _ _ h1,ih h2⟩
theorem gx.imp{F F':ae}{w w':World}{L L':Nat->Option Lab}{U U':Nat->Bool}{cg cg':Nat->List Value}(hi:∀ e v,aw F w L U cg e v->aw F' w' L' U' cg' e v){e:Ent}{v:Value}(h:gx F w L U cg e v):gx F' w' L' U' cg' e v:=by
 cases e with
 |one e=>exact hi _ _ h
 |tup es=>obtain⟨vs,h1,h2⟩:=h;exact⟨vs,h1,h2.imp hi⟩
 |clo f es=>obtain⟨vs,h1,h2⟩:=h;exact⟨vs,h1,h2.imp hi⟩
theorem aJ.world{B:dh}{F:ae}{Sg:Nat->ae}{cg:Nat->List Value}{σ:St}{a:Act}{w w':World}(h:aJ B F Sg cg σ a w)(ho:w'.os=w.os)(ht:w'.tape=w.tape)(hou:w'.output=w.output)(hs:w.heap.size<=w'.heap.size)
 (hb:∀ k,k<w.heap.size->w'.heap[k]?=w.heap[k]?):aJ B F Sg cg σ a w':=
 {fr:=⟨ho.trans h.fr.os,ht.trans h.fr.tape,hou.trans h.fr.output,bn h.fr.size hs,λk hk hn=>(hb k (bc hk h.fr.size)).trans (h.fr.block k hk hn)⟩
  size:=h.size
  defers:=h.defers
  f0:=h.f0
  fl:=λk hk=>bc (h.fl k hk) hs
  fs:=h.fs
  lab:=λl b hl=>aP (Sub.refl _) (λk hk=>hb k (h.fl k hk)) _ _ _ _ _ _ (h.lab l b hl) (Sub.refl _) (λk hk=>hb k (h.lt l b hl k hk))
  dis:=h.dis
  dG:=h.dG
  lt:=λl b hl k hk=>bc (h.lt l b hl k hk) hs
  may:=h.may
  used:=h.used
  fix:=h.fix
  ent:=λt e he=>(h.ent t e he).imp λe v hv=>hv.frame (Sub.refl _) (λk hk=>hb k (h.fl k hk)) h.lab (λl b hl k hk=>hb k (h.lt l b hl k hk))}
theorem uo{a:Act}{d t:Nat}{v:Value}(hd:d<a.tmps.size):(a.put (some d) v).tmps.getD t undef=if t=d then v else a.tmps.getD t undef:=by
 simp only[Act.put,dM]
 by_cases h:t=d
 ·subst h;rw[if_pos rfl,rM hd];rfl
 ·rw[if_neg h,nU (Ne.symm h)]
theorem aJ.rz{B:dh}{F:ae}{Sg:Nat->ae}{cg:Nat->List Value}{σ:St}{a:Act}{w:World}(h:aJ B F Sg cg σ a w){d:Nat}(hd:d<B.N){e:Ent}{v:Value}(he:gx F w σ.L σ.U cg e v):aJ B F Sg cg {σ with E:=upd σ.E d (some e)} (a.put (some d) v) w:=
 {h with
  size:=by simp[Act.put,h.size]
  defers:=h.defers
  ent:=λt e' he'=>by
   rw[uo (by rw[h.size];exact hd)]
   rcases eO he' with⟨rfl,e1⟩|⟨hn,e1⟩
   ·rw[if_pos rfl];injection e1 with e1;subst e1;exact he
   ·rw[if_neg hn];exact h.ent t e' e1}
theorem aJ.Ld{B:dh}{F:ae}{Sg:Nat->ae}{cg:Nat->List Value}{σ:St}{a:Act}{w:World}(h:aJ B F Sg cg σ a w){d:Nat}(hd:d<B.N){v:Value}:aJ B F Sg cg {σ with E:=upd σ.E d none} (a.put (some d) v) w:=
 {h with
  size:=by simp[Act.put,h.size]
  defers:=h.defers
  ent:=λt e' he'=>by
   rw[uo (by rw[h.size];exact hd)]
   rcases eO he' with⟨rfl,e1⟩|⟨hn,e1⟩
   ·cases e1
   ·rw[if_neg hn];exact h.ent t e' e1}
def zr(k:IntKind)(n:Int):Bool:=decide (kLo k<=n)&&decide (n<=kHi k)
theorem uq{k:IntKind}{n:Int}(h:zr k n=true):inK k n:=by
 simp[zr]at h;exact h
def rdL{α:Type}(f:List Value->Option α)(sz:Nat):Nat->List Value->Option (List α)
 |0,cs=>match cs with|[]=>some []|_::_=>none
 |n+1,cs=>match f (cs.take sz)with
  |some x=>match rdL f sz n (cs.drop sz)with
   |some xs=>some (x::xs)
   |none=>none
  |none=>none
def rdC:(t:Ty)->List Value->Option t.T
 |.int k,cs=>match cs with|[.int k' n]=>bif(decide (k'=k)&&zr k n)then some n else none|_=>none
 |.bool,cs=>match cs with|[.bool b]=>some b|_=>none
 |.str,cs=>match cs with|[.string u]=>bif Nat.ble u.size maxLen then some (bQ u)else none|_=>none
 |.unit,cs=>match cs with|[]=>some ()|_=>none
 |.pair a b,cs=>match rdC a (cs.take a.width)with
  |some x=>match rdC b (cs.drop a.width)with
   |some y=>some (x,y)
   |none=>none
  |none=>none
 |.st t,cs=>rdC t cs
 |.arr n t,cs=>rdL (rdC t) t.width n cs
 |.sl _,cs=>match cs with|[.slice none 0 0]=>some []|_=>none
 |.box _,_=>none
 |.ptr _,cs=>match cs with|[.pointer none]=>some none|_=>none
 |.iz,_=>none
 |.hol _,_=>none
 |.chan,cs=>match cs with|[.chan none]=>some (0,[])|_=>none
 |.fn _,_=>none
 |.may _,_=>none
 |.map _ _,cs=>match cs with|[.map none]=>some []|_=>none
 |.nl _,cs=>match cs with|[.slice none 0 0]=>some []|_=>none
theorem HC{α:Type}{R:α->List Value->ae->Prop}{f:List Value->Option α}{sz:Nat}(hf:∀ cs x,f cs=some x->R x cs ae.none):∀ (n:Nat) (cs:List Value) (xs:List α),rdL f sz n cs=some xs->xs.length=n/\aY R xs cs ae.none:=by
 intro n
 induction n with
 |zero=>
  intro cs xs h
  cases cs with
  |nil=>simp only[rdL,aW]at h;subst h;exact⟨rfl,rfl⟩
  |cons _ _=>simp[rdL]at h
 |succ n ih=>
  intro cs xs h
  simp only[rdL]at h
  cases h1:f (cs.take sz)with
  |none=>rw[h1]at h;cases h
  |some x=>
   rw[h1]at h
   simp only at h
   cases h2:rdL f sz n (cs.drop sz)with
   |none=>rw[h2]at h;cases h
   |some ys=>
    rw[h2]at h
    simp only[aW]at h
    subst h
    obtain⟨h3,h4⟩:=ih _ _ h2
    exact⟨by simp[h3],cs.take sz,cs.drop sz,ae.none,ae.none,(dN _ _).symm,hf _ _ h1,h4,Sub.refl _,Sub.refl _,λ_ h=>h.elim⟩
def okM:Ty->Md->Bool
 |.pair a b,m=>okM a m.fst&&okM b m.snd
 |.st t,m=>okM t m
 |.arr _ t,m=>okM t m.el
 |.chan,m=>match m with|.own _=>false|_=>true
 |.map _ _,m=>match m with|.own _=>false|_=>true
 |_,_=>true
theorem wW:∀ (t:Ty),okM t .ro=true:=by
 intro t
 induction t with
 |pair a b iha ihb=>simp[okM,Md.fst,Md.snd,iha,ihb]
 |st t ih=>exact ih
 |arr n t ih=>exact ih
 |_=>rfl
theorem p8{F:ae}{w:World}:∀ (t:Ty) (m:Md) (cs:List Value) (x:t.T),okM t m=true->rdC t cs=some x->Rep F w t m x cs ae.none:=by
 intro t
 induction t with
 |int k=>
  intro m cs x hm h
  unfold rdC at h
  split at h
  ·rename_i k' n
   cases hb:(decide (k'=k)&&zr k n)
   ·rw[hb]at h;cases h
   ·rw[hb]at h
    simp only[cond_true,aW]at h
    simp at hb
    obtain⟨rfl,hb⟩:=hb
    subst h
    exact⟨rfl,uq hb⟩
  ·cases h
 |bool=>intro m cs x hm h;unfold rdC at h;split at h <;> simp at h;subst h;rfl
 |str=>
  intro m cs x hm h
  unfold rdC at h
  split at h
  ·rename_i u
   cases hb:Nat.ble u.size maxLen
   ·rw[hb]at h;cases h
   ·rw[hb]at h
    simp only[cond_true,aW]at h
    subst h
    exact⟨u,rfl,rfl,fH hb⟩
  ·cases h
 |unit=>intro m cs x hm h;unfold rdC at h;split at h <;> simp at h;rfl
 |pair a b iha ihb=>
  intro m cs x hm h
  simp only[okM,ag]at hm
  simp only[rdC]at h
  cases h1:rdC a (cs.take a.width)with
  |none=>rw[h1]at h;cases h
  |some y=>
   rw[h1]at h
   simp only at h
   cases h2:rdC b (cs.drop a.width)with
   |none=>rw[h2]at h;cases h
   |some z=>
    rw[h2]at h
    simp only[aW]at h
    subst h
    exact⟨cs.take a.width,cs.drop a.width,ae.none,ae.none,(dN _ _).symm,iha _ _ _ hm.1 h1,ihb _ _ _ hm.2 h2,Sub.refl _,Sub.refl _,λ_ h=>h.elim⟩
 |st t ih=>intro m cs x hm h;exact ih m cs x hm h
 |arr n t ih=>intro m cs x hm h;exact HC (R:=Rep F w t m.el) (λcs x h=>ih m.el cs x hm h) n cs x h
 |sl t ih=>
  intro m cs x hm h
  unfold rdC at h
  split at h <;> simp at h
  subst h
  cases m with
  |ro=>exact⟨none,0,rfl,ar _,by simp[maxLen],λh=>absurd h (by simp)⟩
  |pr _ _=>exact⟨none,0,rfl,ar _,by simp[maxLen],λh=>absurd h (by simp)⟩
  |own m=>exact⟨none,0,rfl,ar _,by simp[maxLen],.inl rfl⟩
 |box t ih=>intro m cs x hm h;simp[rdC]at h
 |iz=>intro m cs x hm h;simp[rdC]at h
 |hol t ih=>intro m cs x hm h;simp[rdC]at h
 |chan=>
  intro m cs x hm h
  unfold rdC at h
  split at h <;> simp at h
  cases m with
  |own _=>cases hm
  |ro=>exact⟨.chan none,rfl,rfl⟩
  |pr _ _=>exact⟨.chan none,rfl,rfl⟩
 |fn f=>intro m cs x hm h;simp[rdC]at h
 |nl t _=>
  intro m cs x hm h
  unfold rdC at h
  split at h <;> simp at h
  subst h
  exact⟨⟨none,0,rfl,ar _,by simp[maxLen],λh=>absurd h (by simp)⟩,λ_=>rfl⟩
 |map k v _ _=>
  intro m cs x hm h
  unfold rdC at h
  split at h <;> simp at h
  subst h
  cases m with
  |own _=>cases hm
  |ro=>exact .inl ⟨rfl,rfl⟩
  |pr _ _=>exact .inl ⟨rfl,rfl⟩
 |may t ih=>intro m cs x hm h;simp[rdC]at h
 |ptr t ih=>
  intro m cs x hm h
  unfold rdC at h
  split at h <;> simp at h
  subst h
  cases m <;> rfl
def Value.isAgg:Value->Bool
 |.agg _=>true
 |_=>false
def vrC(t:Ty)(v:Value):Bool:=bif t.agg then Value.isAgg v else v.oneCell'
theorem Bu{t:Ty}{v:Value}(h:vrC t v=true):VR t v.cells.toList v:=by
 unfold vrC at h
 unfold VR
 cases ha:t.agg
 ·rw[ha]at h
  simp only[cond_false]at h
  rw[if_neg (by simp)]
  cases v <;> first|exact⟨rfl,rfl⟩|(simp[Value.oneCell']at h)
 ·rw[ha]at h
  simp only[cond_true]at h
  rw[if_pos rfl]
  cases v <;> first|rfl|(simp[Value.isAgg]at h)
def HD:Value->aj
 |.int k n=>bif zr k n then .val (.int k) n else .cst (.int k n)
 |.bool b=>.val .bool b
 |.string u=>bif Nat.ble u.size maxLen then .val .str (bQ u)else .cst (.string u)
 |v=>.cst v
theorem Ek{F:ae}{w:World}{L:Nat->Option Lab}{U:Nat->Bool}{cg:Nat->List Value}(v:Value):aw F w L U cg (HD v) v:=by
 unfold HD
 split
 ·rename_i k n
  cases hb:zr k n
  ·exact rfl
  ·exact⟨[.int k n],⟨rfl,uq hb⟩,by simp[VR,Ty.agg,Value.oneCell']⟩
 ·exact⟨_,rfl,by simp[VR,Ty.agg,Value.oneCell']⟩
 ·rename_i u
  cases hb:Nat.ble u.size maxLen
  ·exact rfl
  ·exact⟨[.string u],⟨u,rfl,rfl,fH hb⟩,by simp[VR,Ty.agg,Value.oneCell']⟩
 ·exact rfl
def coN:aj->aj
 |.val (.nl t) x=>.val (.sl t) x
 |e=>e
def opd(σ:St):Operand->Option aj
 |.tmp t=>match σ.E t with
  |some (.one e)=>some (coN e)
  |_=>none
 |.const v=>some (HD v)
 |.func f=>some (.val (.fn f) ())
 |_=>none
theorem HE{F:ae}{w:World}{L:Nat->Option Lab}{U:Nat->Bool}{cg:Nat->List Value}{e:aj}{v:Value}(h:aw F w L U cg e v):aw F w L U cg (coN e) v:=by
 unfold coN
 split
 ·rename_i t x
  obtain⟨cs,⟨h1,_⟩,h2⟩:=h
  exact⟨cs,h1,h2⟩
 ·exact h
theorem bf{B:dh}{F:ae}{Sg:Nat->ae}{cg:Nat->List Value}{σ:St}{a:Act}{w:World}(h:aJ B F Sg cg σ a w){x:Operand}{e:aj}(he:opd σ x=some e):aw F w σ.L σ.U cg e (a.eval x):=by
 unfold opd at he
 split at he
 ·rename_i t
  split at he
  ·rename_i e' h'
   injection he with he
   subst he
   exact HE (h.ent t _ h')
  ·cases he
 ·injection he with he;subst he;exact Ek _
 ·rename_i f
  injection he with he;subst he
  exact⟨[.func (.func f) #[] #[]],rfl,by simp[VR,Ty.agg,Value.oneCell',Act.eval]⟩
 ·cases he
def asT{R:Type}(e:aj)(want:Ty)(K:want.T->Option R):Option R:=
 match e with
 |.val t x=>if h:t=want then K (h ▸ x)else none
 |.cst v=>bif vrC want v then(match rdC want v.cells.toList with|some x=>K x|none=>none)else none
 |_=>none
theorem fP{R:Type}{F:ae}{w:World}{L:Nat->Option Lab}{U:Nat->Bool}{cg:Nat->List Value}{e:aj}{want:Ty}{K:want.T->Option R}{r:R}(h:asT e want K=some r){v:Value}(he:aw F w L U cg e v):
 ∃ x cs,K x=some r/\Rep F w want .ro x cs ae.none/\VR want cs v:=by
 unfold asT at h
 split at h
 ·rename_i t x
  split at h
  ·rename_i ht
   subst ht
   obtain⟨cs,h1,h2⟩:=he
   exact⟨x,cs,h,h1,h2⟩
  ·cases h
 ·rename_i u
  have hv:v=u:=he
  subst hv
  cases hb:vrC want v
  ·rw[hb]at h;cases h
  ·rw[hb]at h
   simp only[cond_true]at h
   cases hc:rdC want v.cells.toList with
   |none=>rw[hc]at h;cases h
   |some x=>rw[hc]at h;exact⟨x,_,h,p8 _ _ _ _ (wW _) hc,Bu hb⟩
 ·cases h
theorem mD{F:ae}{w:World}{k:IntKind}{m:Md}{x:Int}{cs:List Value}{S:ae}{v:Value}(h:Rep F w (.int k) m x cs S)(hv:VR (.int k) cs v):v=.int k x/\inK k x:=by
 obtain⟨rfl,h2⟩:=h
 simp[VR,Ty.agg]at hv
 exact⟨hv.1.symm,h2⟩
theorem El{F:ae}{w:World}{m:Md}{x:Bool}{cs:List Value}{S:ae}{v:Value}(h:Rep F w .bool m x cs S)(hv:VR .bool cs v):v=.bool x:=by
 have h':cs=[.bool x]:=h
 subst h'
 simp[VR,Ty.agg]at hv
 exact hv.1.symm
theorem HF{F:ae}{w:World}{m:Md}{x:List Int}{cs:List Value}{S:ae}{v:Value}(h:Rep F w .str m x cs S)(hv:VR .str cs v):∃ u,v=.string u/\x=bQ u/\u.size<=maxLen:=by
 obtain⟨u,rfl,h2,h3⟩:=h
 simp[VR,Ty.agg]at hv
 exact⟨u,hv.1.symm,h2,h3⟩
theorem cj{F:ae}{w:World}{L:Nat->Option Lab}{U:Nat->Bool}{cg:Nat->List Value}{k:IntKind}{x:Int}(h:inK k x):aw F w L U cg (.val (.int k) x) (.int k x):=
 ⟨[.int k x],⟨rfl,h⟩,by simp[VR,Ty.agg,Value.oneCell']⟩
theorem cD{F:ae}{w:World}{L:Nat->Option Lab}{U:Nat->Bool}{cg:Nat->List Value}{b:Bool}:aw F w L U cg (.val .bool b) (.bool b):=
 ⟨[.bool b],rfl,by simp[VR,Ty.agg,Value.oneCell']⟩
theorem Bv{F:ae}{w:World}{L:Nat->Option Lab}{U:Nat->Bool}{cg:Nat->List Value}{u:ByteArray}(h:u.size<=maxLen):aw F w L U cg (.val .str (bQ u)) (.string u):=
 ⟨[.string u],⟨u,rfl,rfl,h⟩,by simp[VR,Ty.agg,Value.oneCell']⟩
def dL(op:BinOp)(k:IntKind)(x y:Int):Int:=
 match op with
 |.and=>k.wrap (BitVec.ofInt k.bits x&&& BitVec.ofInt k.bits y).toNat
 |.or=>k.wrap (BitVec.ofInt k.bits x|||BitVec.ofInt k.bits y).toNat
 |.xor=>k.wrap (BitVec.ofInt k.bits x ^^^ BitVec.ofInt k.bits y).toNat
 |_=>k.wrap (BitVec.ofInt k.bits x&&& ~~~ BitVec.ofInt k.bits y).toNat
def iY:List Int->List Int->Bool
 |_,[]=>false
 |[],_::_=>true
 |a::x,b::y=>decide (a<b)||(decide (a=b)&&iY x y)
def isBool:Option TD->Bool
 |some d=>match d.kd with|.bool=>true|_=>false
 |none=>false
def wX{R:Type}(td:Option TD)(op:BinOp):aj->aj->(aj->Option R)->Option R
 |.val (.int k) a,.val (.int k') b,K=>
  match op with
  |.shl=>if b<0 then none else K (.val (.int k) (k.wrap (a*2 ^ min b.toNat k.bits)))
  |.shr=>if b<0 then none else K (.val (.int k) (Int.fdiv a (2 ^ min b.toNat k.bits)))
  |op=>bif decide (k=k')then(match op with
   |.add=>K (.val (.int k) (k.wrap (a+b)))
   |.sub=>K (.val (.int k) (k.wrap (a-b)))
   |.mul=>K (.val (.int k) (k.wrap (a*b)))
   |.quo=>if b=0 then none else K (.val (.int k) (k.wrap (Int.tdiv a b)))
   |.rem=>if b=0 then none else K (.val (.int k) (Int.tmod a b))
   |.and=>K (.val (.int k) (dL .and k a b))
   |.or=>K (.val (.int k) (dL .or k a b))
   |.xor=>K (.val (.int k) (dL .xor k a b))
   |.andNot=>K (.val (.int k) (dL .andNot k a b))
   |.eql=>K (.val .bool (decide (a=b)))
   |.neq=>K (.val .bool (!decide (a=b)))
   |.lss=>K (.val .bool (decide (a<b)))
   |.leq=>K (.val .bool (decide (a<=b)))
   |.gtr=>K (.val .bool (decide (b<a)))
   |.geq=>K (.val .bool (decide (b<=a)))
   |_=>none)else none
 |.val .bool a,.val .bool b,K=>bif isBool td then(match op with
  |.eql=>K (.val .bool (a == b))
  |.neq=>K (.val .bool (!(a == b)))
  |_=>none)else none
 |.val .str a,.val .str b,K=>match op with
  |.add=>if List.length a+List.length b<=9223372036854775807 then K (.val .str (List.append a b))else none
  |.eql=>K (.val .bool (decide ((a:List Int)=b)))
  |.neq=>K (.val .bool (!decide ((a:List Int)=b)))
  |.lss=>K (.val .bool (iY a b))
  |.leq=>K (.val .bool (iY a b||decide ((a:List Int)=b)))
  |.gtr=>K (.val .bool (!(iY a b||decide ((a:List Int)=b))))
  |.geq=>K (.val .bool (!iY a b))
  |_=>none
 |_,_,_=>none
theorem j4{u v:ByteArray}:(bQ u=bQ v)=(u=v):=by
 apply propext
 constructor
 ·intro h
  unfold bQ at h
  have:=(List.map_inj_right (f:=λb:UInt8=>(b.toNat:Int)) (λx y e=>UInt8.toNat_inj.1 (by have e':(x.toNat:Int)=y.toNat:=e;omega))).1 h
  cases u;cases v
  simp at this
  rw[this]
 ·rintro rfl;rfl
theorem dH(u:ByteArray):(bQ u).length=u.size:=by simp[bQ]
theorem rA(u v:ByteArray):bQ (u++v)=bQ u++bQ v:=by simp[bQ,ByteArray.data_append]
theorem toList_eq(u:ByteArray):u.toList=u.data.toList:=ByteArray.toList_eq u
theorem wY(x y:List UInt8):iY (x.map λb=>(b.toNat:Int)) (y.map λb=>(b.toNat:Int))=Op.bytesLess x y:=by
 induction x generalizing y with
 |nil=>cases y <;> rfl
 |cons a x ih=>
  cases y with
  |nil=>rfl
  |cons b y=>
   simp only[eF,iY,Op.bytesLess,ih]
   congr 1
   ·rw[cY];simp[UInt8.lt_iff_toNat_lt]
   ·congr 1
    rw[cY];simp[<-UInt8.toNat_inj];omega
theorem Bw{k:IntKind}{a b:Int}(ha:inK k a)(hb:inK k b):inK k (a.tmod b):=by
 have h0:b=0\/(a.tmod b).natAbs<b.natAbs:=by
  rcases Int.decEq b 0 with h|h
  ·right
   have h1:(a.tmod b).natAbs=a.natAbs % b.natAbs:=Int.natAbs_tmod a b
   rw[h1]
   exact dS _ (by omega)
  ·exact .inl h
 have h1:(a.tmod b).natAbs<=a.natAbs:=by rw[Int.natAbs_tmod];exact Nat.mod_le _ _
 have h2:0<=a->0<=a.tmod b:=λh=>Int.tmod_nonneg b h
 have h3:a<=0->a.tmod b<=0:=λh=>by
  have:=Int.tmod_nonneg b (show 0<=-a by omega)
  rw[Int.neg_tmod]at this
  omega
 clear h0
 generalize a.tmod b=e at *
 unfold inK at *
 cases k <;> simp[kLo,kHi]at * <;> omega
theorem Bx{k:IntKind}{a:Int}(ha:inK k a)(n:Nat):inK k (Int.fdiv a (2 ^ n)):=by
 have hp:(0:Int)<2 ^ n:=Int.pow_pos (by omega)
 rw[Int.fdiv_eq_ediv_of_nonneg _ (by omega)]
 have h1:0<=a->0<=a / 2 ^ n/\a / 2 ^ n<=a:=λh=>⟨Int.ediv_nonneg h (by omega),Int.ediv_le_self _ h⟩
 have h2:a<0->a<=a / 2 ^ n/\a / 2 ^ n<0:=λh=>⟨by
  rw[Int.le_ediv_iff_mul_le hp]
  have:a*2 ^ n<=a*1:=Int.mul_le_mul_of_nonpos_left (by omega) (by omega)
  omega,Int.ediv_neg_of_neg_of_pos h hp⟩
 unfold inK at *
 cases k <;> simp[kLo,kHi]at * <;> omega
section
variable {P:Program} {F:ae} {w:World} {L:Nat->Option Lab} {U:Nat->Bool} {cg:Nat->List Value}
theorem gJ{k:IntKind}{x:Int}{v:Value}(h:aw F w L U cg (.val (.int k) x) v):v=.int k x/\inK k x:=by
 obtain⟨cs,h1,h2⟩:=h;exact mD h1 h2
theorem iD{x:Bool}{v:Value}(h:aw F w L U cg (.val .bool x) v):v=.bool x:=by
 obtain⟨cs,h1,h2⟩:=h;exact El h1 h2
theorem iZ{x:List Int}{v:Value}(h:aw F w L U cg (.val .str x) v):∃ u,v=.string u/\x=bQ u/\u.size<=maxLen:=by
 obtain⟨cs,h1,h2⟩:=h;exact HF h1 h2
theorem sO{u:ByteArray}{x:List Int}(h:u.size<=maxLen)(hx:x=bQ u):aw F w L U cg (.val .str x) (.string u):=hx ▸ Bv h
theorem x4{R:Type}{td:Option TD}{op:BinOp}{t:TypeId}{x y:aj}{ox oy:Operand}{K:aj->Option R}{r:R}(h:wX td op x y K=some r)(htd:∀ d,td=some d->TOk P t d){u v:Value}(hx:aw F w L U cg x u)(hy:aw F w L U cg y v):
 ∃ e z,K e=some r/\(do eqGuard op t ox oy u v;binOp op t u v:Sem Value).run P w=.ok z w/\aw F w L U cg e z:=by
 unfold wX at h
 split at h
 ·rename_i k a k' b
  obtain⟨rfl,ha⟩:=gJ hx
  obtain⟨rfl,hb⟩:=gJ hy
  split at h
  ·split at h
   ·cases h
   ·rename_i hb0
    exact⟨_,_,h,by simp[binOp,Op.shift,hb0,go_sem],cj (dU _ _)⟩
  ·split at h
   ·cases h
   ·rename_i hb0
    exact⟨_,_,h,by simp[binOp,Op.shift,hb0,go_sem],cj (Bx ha _)⟩
  ·rename_i op hsl hsr
   cases hk:decide (k=k')
   ·rw[hk]at h;cases h
   rw[hk]at h
   simp only[cond_true]at h
   simp at hk
   subst hk
   split at h
   case h_1=>exact⟨_,_,h,by simp[binOp,Op.intArith,go_sem],cj (dU _ _)⟩
   case h_2=>exact⟨_,_,h,by simp[binOp,Op.intArith,go_sem],cj (dU _ _)⟩
   case h_3=>exact⟨_,_,h,by simp[binOp,Op.intArith,go_sem],cj (dU _ _)⟩
   case h_4=>
    split at h
    ·cases h
    ·rename_i hb0;exact⟨_,_,h,by simp[binOp,Op.intDiv,hb0,go_sem],cj (dU _ _)⟩
   case h_5=>
    split at h
    ·cases h
    ·rename_i hb0;exact⟨_,_,h,by simp[binOp,Op.intDiv,hb0,go_sem],cj (Bw ha hb)⟩
   case h_6=>exact⟨_,_,h,by simp[binOp,Op.intBits,dL,go_sem],cj (dU _ _)⟩
   case h_7=>exact⟨_,_,h,by simp[binOp,Op.intBits,dL,go_sem],cj (dU _ _)⟩
   case h_8=>exact⟨_,_,h,by simp[binOp,Op.intBits,dL,go_sem],cj (dU _ _)⟩
   case h_9=>exact⟨_,_,h,by simp[binOp,Op.intBits,dL,go_sem],cj (dU _ _)⟩
   case h_10=>exact⟨_,.bool (decide (a=b)),h,by simp[binOp,Op.intCmp,go_sem];rfl,cD⟩
   case h_11=>exact⟨_,.bool (!decide (a=b)),h,by simp[binOp,Op.intCmp,go_sem];rfl,cD⟩
   case h_12=>exact⟨_,_,h,by simp[binOp,Op.intCmp,go_sem],cD⟩
   case h_13=>exact⟨_,_,h,by simp[binOp,Op.intCmp,go_sem],cD⟩
   case h_14=>exact⟨_,_,h,by simp[binOp,Op.intCmp,go_sem],cD⟩
   case h_15=>exact⟨_,_,h,by simp[binOp,Op.intCmp,go_sem],cD⟩
   case h_16=>cases h
 ·rename_i a b
  obtain rfl:=iD hx
  obtain rfl:=iD hy
  cases hb:isBool td
  ·rw[hb]at h;cases h
  rw[hb]at h
  simp only[cond_true]at h
  have hu:P.underlying t=some .bool:=by
   unfold isBool at hb
   split at hb
   ·rename_i d
    have:=(htd d rfl).desc
    split at hb
    ·rename_i hk;rw[hk]at this;exact this.1
    ·cases hb
   ·cases hb
  split at h
  ·exact⟨_,_,h,by simp[binOp,run_equal_bool w t a b hu,go_sem],cD⟩
  ·exact⟨_,_,h,by simp[binOp,run_equal_bool w t a b hu,go_sem],cD⟩
  ·cases h
 ·rename_i a b
  obtain⟨u,rfl,rfl,hu⟩:=iZ hx
  obtain⟨v,rfl,rfl,hv⟩:=iZ hy
  have e1:decide (bQ u=bQ v)=(u.toList == v.toList):=by
   rw[toList_eq,toList_eq,cY]
   simp only[decide_eq_true_eq,beq_iff_eq,j4]
   constructor
   ·rintro rfl;rfl
   ·intro h;cases u;cases v;simp at h;rw[h]
  have e2:iY (bQ u) (bQ v)=Op.bytesLess u.toList v.toList:=by
   rw[toList_eq,toList_eq];exact wY _ _
  split at h
  ·split at h
   ·rename_i hl
    rw[dH,dH]at hl
    have hn:¬(9223372036854775807<((u.size:Int)+(v.size:Int))):=by omega
    refine⟨_,.string (u++v),h,by simp[binOp,Op.stringOp,hn,go_sem],sO ?_ ?_⟩
    ·rw[ByteArray.size_append];simp only[maxLen];omega
    ·rw[rA];rfl
   ·cases h
  ·exact⟨_,_,h,by simp[binOp,Op.stringOp,go_sem];rfl,by rw[<-e1];exact cD⟩
  ·exact⟨_,_,h,by simp[binOp,Op.stringOp,go_sem];rfl,by rw[<-e1];exact cD⟩
  ·exact⟨_,_,h,by simp[binOp,Op.stringOp,go_sem];rfl,by rw[<-e2];exact cD⟩
  ·exact⟨_,_,h,by simp[binOp,Op.stringOp,go_sem];rfl,by rw[<-e1,<-e2];exact cD⟩
  ·exact⟨_,.bool (!(Op.bytesLess u.toList v.toList||(u.toList == v.toList))),h,by simp[binOp,Op.stringOp,go_sem],by rw[<-e1,<-e2];exact cD⟩
  ·exact⟨_,_,h,by simp[binOp,Op.stringOp,go_sem];rfl,by rw[<-e2];exact cD⟩
  ·cases h
 ·cases h
end
def Ty.HG:Ty->Bool
 |.int _|.bool|.str|.sl _|.box _|.ptr _|.chan|.fn _|.map _ _|.nl _=>true
 |_=>false
def Ty.vty(t:Ty):Bool:=t.HG||t.agg
theorem eB{F:ae}{w:World}{t:Ty}(ht:t.HG=true){m:Md}{x:t.T}{cs:List Value}{S:ae}(h:Rep F w t m x cs S):∃ z,cs=[z]/\z.oneCell'=true:=by
 cases t <;> simp[Ty.HG]at ht
 case int k=>obtain⟨rfl,_⟩:=h;exact⟨_,rfl,rfl⟩
 case bool=>have h':cs=[.bool x]:=h;subst h';exact⟨_,rfl,rfl⟩
 case str=>obtain⟨u,rfl,_⟩:=h;exact⟨_,rfl,rfl⟩
 case sl t=>cases m <;> (obtain⟨a,cap,rfl,_⟩:=h;exact⟨_,rfl,rfl⟩)
 case box t=>
  cases m with
  |own m=>obtain⟨b,c,e,rfl,_⟩:=h;exact⟨_,rfl,rfl⟩
  |ro=>obtain⟨a,rfl,_⟩:=h;exact⟨_,rfl,rfl⟩
  |pr _ _=>obtain⟨a,rfl,_⟩:=h;exact⟨_,rfl,rfl⟩
 case chan=>
  cases m with
  |own m=>obtain⟨b,buf,s,r,rfl,_⟩:=h;exact⟨_,rfl,rfl⟩
  |ro=>exact h
  |pr _ _=>exact h
 case nl t=>obtain⟨⟨a,cap,rfl,_⟩,_⟩:=h;exact⟨_,rfl,rfl⟩
 case map k v=>
  cases m with
  |own m=>obtain⟨b,es,rfl,_⟩:=h;exact⟨_,rfl,rfl⟩
  |ro=>rcases h with⟨rfl,_⟩|⟨b,es,rfl,_⟩ <;> exact⟨_,rfl,rfl⟩
  |pr _ _=>rcases h with⟨rfl,_⟩|⟨b,es,rfl,_⟩ <;> exact⟨_,rfl,rfl⟩
 case fn f=>have h':cs=[.func (.func f) #[] #[]]:=h;subst h';exact⟨_,rfl,rfl⟩
 case ptr t=>
  cases x with
  |none=>simp only[Rep]at h;subst h;exact⟨_,rfl,rfl⟩
  |some x=>
  cases m with
  |own m=>obtain⟨b,c,e,rfl,_⟩:=h;exact⟨_,rfl,rfl⟩
  |ro=>obtain⟨a,rfl,_⟩:=h;exact⟨_,rfl,rfl⟩
  |pr _ _=>obtain⟨a,rfl,_⟩:=h;exact⟨_,rfl,rfl⟩
theorem qa{α:Type}{R:α->List Value->ae->Prop}(hR:∀ y c S,R y c S->∀ v∈c,v.oneCell'=true):∀ {x:List α} {cs:List Value} {S:ae},aY R x cs S->∀ v∈cs,v.oneCell'=true:=by
 intro x
 induction x with
 |nil=>intro cs S h;cases h;simp
 |cons y ys ih=>
  rintro cs S ⟨c1,c2,S1,S2,rfl,h1,h2,_⟩ v hv
  rcases aC.1 hv with hv|hv
  ·exact hR _ _ _ h1 v hv
  ·exact ih h2 v hv
theorem mR{F:ae}{w:World}:∀ (t:Ty) (m:Md) (x:t.T) (cs:List Value) (S:ae),Rep F w t m x cs S->∀ v∈cs,v.oneCell'=true:=by
 intro t
 induction t with
 |unit=>intro m x cs S h;have h':cs=[]:=h;subst h';simp
 |iz=>rintro m x cs S ⟨z,rfl,hz⟩ v hv;simp at hv;subst hv;exact hz
 |pair a b iha ihb=>
  rintro m x cs S ⟨c1,c2,S1,S2,rfl,h1,h2,_⟩ v hv
  rcases aC.1 hv with hv|hv
  ·exact iha _ _ _ _ h1 v hv
  ·exact ihb _ _ _ _ h2 v hv
 |st t ih=>intro m x cs S h;exact ih m x cs S h
 |arr n t ih=>rintro m x cs S ⟨_,h⟩;exact qa (λy c S h=>ih m.el y c S h) h
 |int k=>intro m x cs S h v hv;obtain⟨z,rfl,hz⟩:=eB rfl h;simp at hv;subst hv;exact hz
 |bool=>intro m x cs S h v hv;obtain⟨z,rfl,hz⟩:=eB rfl h;simp at hv;subst hv;exact hz
 |str=>intro m x cs S h v hv;obtain⟨z,rfl,hz⟩:=eB rfl h;simp at hv;subst hv;exact hz
 |may t ih=>
  intro m x cs S h v hv
  cases x with
  |none=>obtain⟨z,rfl,hz⟩:=h;simp at hv;subst hv;exact hz
  |some x=>exact ih m x cs S h.1 v hv
 |fn f=>intro m x cs S h v hv;have h':cs=[.func (.func f) #[] #[]]:=h;subst h';simp at hv;subst hv;rfl
 |chan=>
  intro m x cs S h v hv
  cases m with
  |own m=>obtain⟨b,buf,s,r,rfl,_⟩:=h;simp at hv;subst hv;rfl
  |ro=>obtain⟨z,rfl,hz⟩:=h;simp at hv;subst hv;exact hz
  |pr _ _=>obtain⟨z,rfl,hz⟩:=h;simp at hv;subst hv;exact hz
 |nl t _=>intro m x cs S h v hv;obtain⟨z,rfl,hz⟩:=eB rfl h;simp at hv;subst hv;exact hz
 |map k e _ _=>intro m x cs S h v hv;obtain⟨z,rfl,hz⟩:=eB rfl h;simp at hv;subst hv;exact hz
 |hol t _=>
  intro m x cs S h v hv
  cases m with
  |own m=>obtain⟨_,a,cap,rfl,_⟩:=h;simp at hv;subst hv;rfl
  |ro=>obtain⟨z,rfl,hz⟩:=h;simp at hv;subst hv;exact hz
  |pr _ _=>obtain⟨z,rfl,hz⟩:=h;simp at hv;subst hv;exact hz
 |sl t _=>intro m x cs S h v hv;obtain⟨z,rfl,hz⟩:=eB rfl h;simp at hv;subst hv;exact hz
 |box t _=>intro m x cs S h v hv;obtain⟨z,rfl,hz⟩:=eB rfl h;simp at hv;subst hv;exact hz
 |ptr t _=>intro m x cs S h v hv;obtain⟨z,rfl,hz⟩:=eB rfl h;simp at hv;subst hv;exact hz
def di:Md->Bool
 |.ro=>true
 |.own _=>false
 |.pr a b=>di a&&di b
theorem rQ{m:Md}(h:di m=true):di m.fst=true:=by cases m <;> simp_all [di,Md.fst]
theorem rR{m:Md}(h:di m=true):di m.snd=true:=by cases m <;> simp_all [di,Md.snd]
theorem ur{m:Md}(h:di m=true):m.el=.ro:=by cases m <;> simp_all [di,Md.el]
theorem dV{F:ae}{w:World}:∀ (t:Ty) (m:Md),di m=true->∀ (x:t.T) (cs:List Value) (S S':ae),Rep F w t m x cs S->Rep F w t .ro x cs S':=by
 intro t
 induction t with
 |int k=>intro m _ x cs S S' h;exact h
 |bool=>intro m _ x cs S S' h;exact h
 |str=>intro m _ x cs S S' h;exact h
 |unit=>intro m _ x cs S S' h;exact h
 |iz=>intro m _ x cs S S' h;exact h
 |hol t ih=>intro m hm x cs S S' h;cases m <;> first|exact h|simp[di]at hm
 |chan=>intro m hm x cs S S' h;cases m <;> first|exact h|simp[di]at hm
 |fn f=>intro m hm x cs S S' h;exact h
 |nl t _=>intro m hm x cs S S' h;exact h
 |map k v _ _=>intro m hm x cs S S' h;cases m <;> first|exact h|simp[di]at hm
 |may t ih=>
  intro m hm x cs S S' h
  cases x with
  |none=>exact h
  |some x=>exact⟨ih m hm x cs S S' h.1,h.2⟩
 |pair a b iha ihb=>
  rintro m hm x cs S S' ⟨c1,c2,S1,S2,rfl,h1,h2,_⟩
  exact⟨c1,c2,ae.none,ae.none,rfl,iha _ (rQ hm) _ _ _ _ h1,ihb _ (rR hm) _ _ _ _ h2,λ_ h=>h.elim,λ_ h=>h.elim,λ_ h=>h.elim⟩
 |st t ih=>intro m hm x cs S S' h;exact ih m hm x cs S S' h
 |arr n t ih=>
  rintro m hm x cs S S' ⟨hn,h⟩
  rw[ur hm]at h
  refine⟨hn,?_⟩
  clear hn
  induction x generalizing cs S S' with
  |nil=>exact h
  |cons y ys ihx=>
   obtain⟨c1,c2,S1,S2,rfl,h1,h2,_⟩:=h
   exact⟨c1,c2,ae.none,ae.none,rfl,ih .ro rfl _ _ _ _ h1,ihx _ _ _ h2,λ_ h=>h.elim,λ_ h=>h.elim,λ_ h=>h.elim⟩
 |sl t ih=>intro m hm x cs S S' h;cases m <;> first|exact h|simp[di]at hm
 |box t ih=>intro m hm x cs S S' h;cases m <;> first|exact h|simp[di]at hm
 |ptr t ih=>
  intro m hm x cs S S' h
  cases x with
  |none=>cases m <;> exact h
  |some x=>cases m <;> first|exact h|simp[di]at hm
theorem gO{w:World}:∀ (π ρ:List Stp) (t:Ty) (cs:List Value) (s:Option (Nat×Nat)),resolve w t cs s (π++ρ)=(resolve w t cs s π).bind λp=>resolve w (atT t π) p.1 p.2 ρ:=by
 intro π
 induction π with
 |nil=>intro ρ t cs s;cases t <;> simp[resolve,atT]
 |cons p0 π ih=>
  intro ρ t cs s
  cases t <;> cases p0 <;> simp only[dP,resolve,atT,lH,ih]
  case sl.idx=>repeat' (first|rfl|split)
  case arr.ai=>repeat' (first|rfl|split)
  case box.deref=>repeat' (first|rfl|split)
  case ptr.deref=>repeat' (first|rfl|split)
def eu:List Stp->Bool
 |[]=>false
 |.idx _::_=>true
 |.deref::_=>true
 |_::π=>eu π
theorem j5{w:World}:∀ (π:List Stp) (t:Ty) (cs:List Value) (p:Nat×Nat) (ds:List Value) (s:Option (Nat×Nat)),resolve w t cs (some p) π=some (ds,s)->∃ q,s=some q:=by
 intro π
 induction π with
 |nil=>intro t cs p ds s h;cases t <;> (simp only[resolve,aW,Prod.mk.injEq]at h;exact⟨p,h.2.symm⟩)
 |cons p0 π ih=>
  intro t cs p ds s h
  cases t <;> cases p0 <;> simp only[resolve,reduceCtorEq]at h
  case st.st=>exact ih _ _ _ _ _ h
  case pair.fst=>exact ih _ _ _ _ _ h
  case pair.snd=>exact ih _ _ _ _ _ h
  case sl.idx=>(split at h <;> (try split at h) <;> first|exact ih _ _ _ _ _ h|cases h)
  case arr.ai=>(split at h <;> first|exact ih _ _ _ _ _ h|cases h)
  case box.deref=>(split at h <;> first|exact ih _ _ _ _ _ h|cases h)
  case ptr.deref=>(split at h <;> first|exact ih _ _ _ _ _ h|cases h)
theorem gK{w:World}:∀ (π:List Stp) (t:Ty) (cs:List Value) (s0:Option (Nat×Nat)) (ds:List Value) (s:Option (Nat×Nat)),eu π=true->resolve w t cs s0 π=some (ds,s)->∃ q,s=some q:=by
 intro π
 induction π with
 |nil=>intro t cs s0 ds s hc;simp[eu]at hc
 |cons p0 π ih=>
  intro t cs s0 ds s hc h
  cases t <;> cases p0 <;> simp only[resolve,reduceCtorEq]at h
  case st.st=>exact ih _ _ _ _ _ hc h
  case pair.fst=>exact ih _ _ _ _ _ hc h
  case pair.snd=>exact ih _ _ _ _ _ hc h
  case sl.idx=>(split at h <;> (try split at h) <;> first|exact j5 _ _ _ _ _ _ h|cases h)
  case arr.ai=>(split at h <;> first|exact ih _ _ _ _ _ hc h|cases h)
  case box.deref=>(split at h <;> first|exact j5 _ _ _ _ _ _ h|cases h)
  case ptr.deref=>(split at h <;> first|exact j5 _ _ _ _ _ _ h|cases h)
theorem iE{w:World}:∀ (π:List Stp) (t:Ty) (cs cs2:List Value) (p:Nat×Nat) (ds:List Value) (s:Option (Nat×Nat)),short 1 π=true->resolve w t cs (some p) π=some (ds,s)->aU t cs2 (some p) π=s:=by
 intro π
 induction π with
 |nil=>intro t cs cs2 p ds s _ h;cases t <;> (simp only[resolve,aW,Prod.mk.injEq]at h;exact h.2)
 |cons p0 π ih=>
  intro t cs cs2 p ds s hs h
  cases t <;> cases p0 <;> simp only[resolve,reduceCtorEq]at h <;> simp only[short,aE]at hs
  case st.st=>exact ih _ _ _ _ _ _ hs h
  case pair.fst=>exact ih _ _ _ _ _ _ hs h
  case pair.snd=>exact ih _ _ _ _ _ _ hs h
  case arr.ai=>
   split at h
   ·rename_i hc;simp only[aU];rw[if_pos hc];exact ih _ _ _ _ _ _ hs h
   ·cases h
theorem pd{w:World}:∀ (π:List Stp) (t:Ty) (cs:List Value) (p:Nat×Nat) (ds:List Value),short 0 π=true->resolve w t cs none π=some (ds,some p)->aU t cs none π=some p:=by
 intro π
 induction π with
 |nil=>intro t cs p ds _ h;cases t <;> simp[resolve]at h
 |cons p0 π ih=>
  intro t cs p ds hs h
  cases t <;> cases p0 <;> simp only[resolve,reduceCtorEq,Option.map_none]at h <;> simp only[short]at hs
  case st.st=>exact ih _ _ _ _ hs h
  case pair.fst=>exact ih _ _ _ _ hs h
  case pair.snd=>exact ih _ _ _ _ hs h
  case sl.idx=>
   split at h
   ·split at h
    ·rename_i hc;simp only[aU];rw[if_pos hc];exact iE _ _ _ _ _ _ _ hs h
    ·cases h
   ·cases h
  case arr.ai=>
   split at h
   ·rename_i hc;simp only[aU];rw[if_pos hc];exact ih _ _ _ _ hs h
   ·cases h
  case box.deref=>
   split at h
   ·simp only[aU];exact iE _ _ _ _ _ _ _ hs h
   ·cases h
  case ptr.deref=>
   split at h
   ·simp only[aU];exact iE _ _ _ _ _ _ _ hs h
   ·cases h
theorem kL:∀ (π ρ:List Stp) (t:Ty) (x:t.T),get? t x (π++ρ)=(get? t x π).bind λv=>get? v.t v.x ρ:=by
 intro π
 induction π with
 |nil=>intro ρ t x;rw[eA];rfl
 |cons p0 π ih=>
  intro ρ t x
  unfold get?
  cases t <;> cases p0 <;> simp only[dP,eM,lH]
  case st.st=>exact ih _ _ _
  case pair.fst=>exact ih _ _ _
  case pair.snd=>exact ih _ _ _
  case sl.idx=>(split <;> (try split) <;> first|exact ih _ _ _|rfl)
  case arr.ai=>(split <;> (try split) <;> first|exact ih _ _ _|rfl)
  case box.deref=>exact ih _ _ _
  case ptr.deref=>(split <;> first|exact ih _ _ _|rfl)
theorem dW:∀ (π:List Stp) (t:Ty) (x:t.T) (v:V),get? t x π=some v->v.t=atT t π:=by
 intro π
 induction π with
 |nil=>intro t x v h;rw[eA]at h;injection h with h;subst h;cases t <;> rfl
 |cons p0 π ih=>
  intro t x v h
  unfold get? at h
  cases t <;> cases p0 <;> simp only[eM,reduceCtorEq]at h
  case st.st=>exact ih _ _ _ h
  case pair.fst=>exact ih _ _ _ h
  case pair.snd=>exact ih _ _ _ h
  case sl.idx=>(split at h <;> (try split at h) <;> first|exact ih _ _ _ h|cases h)
  case arr.ai=>(split at h <;> (try split at h) <;> first|exact ih _ _ _ h|cases h)
  case box.deref=>exact ih _ _ _ h
  case ptr.deref=>(split at h <;> first|exact ih _ _ _ h|cases h)
theorem qb:∀ (π ρ:List Stp) (t:Ty) (m:Md),cV t m (π++ρ)=(cV t m π&&cV (atT t π) (atM t m π) ρ):=by
 intro π
 induction π with
 |nil=>intro ρ t m;cases t <;> simp[cV,atT,atM]
 |cons p0 π ih=>
  intro ρ t m
  cases t <;> cases p0 <;> simp only[dP,cV,atT,atM,ih,lJ,dE]
def HH(F:ae)(w:World)(t:Ty)(m:Md)(x:t.T)(cs:List Value)(S:ae)(π:List Stp)(u:Ty)(ds:List Value)(p o:Nat)(S':ae):Prop:=
 S p/\¬S' p/\ov w p o ds/\
  ∀ F' w' y' es R x' m' mr,mQ t m π m' mr->Sub F F'->gV t x π u y'=some x'->Rep F' w' u m' y' es R->es.length=ds.length->(∀ k,R k->S k->S' k)->
   (∀ k,S k->¬S' k->k≠p->w'.heap[k]?=w.heap[k]?)->Upd w w' p o ds es->(∀ k,F k->w'.heap[k]?=w.heap[k]?)->
   Rep F' w' t mr x' cs (λk=>(S k/\¬S' k)\/R k)
def oA{R:Type}:V->(V->Option R)->Option R
 |⟨.box t,x⟩,K=>K ⟨t,x⟩
 |⟨.ptr t,x⟩,K=>match(x:Option t.T)with
  |some y=>K ⟨t,y⟩
  |none=>none
 |_,_=>none
def plc{R:Type}(σ:St)(e:aj)(K:Nat->Lab->List Stp->V->Option R):Option R:=
 match e with
 |.adr l n π c=>match σ.L l with
  |some b=>bif eu π then(bif Nat.beq n b.v then K l b π c else bif short 0 π&&cV b.t b.m π then eM b.t b.x π λu y=>K l b π ⟨u,y⟩else none)else none
  |none=>none
 |.hdr l n π c=>match σ.L l with
  |some b=>bif cV b.t b.m (π++[.deref])then(bif Nat.beq n b.v then oA c λq=>K l b (π++[.deref]) q else bif π.isEmpty then oA ⟨b.t,b.x⟩ λq=>K l b (π++[.deref]) q else none)else none
  |none=>none
 |_=>none
section
variable {P:Program} {B:dh} {F:ae} {Sg:Nat->ae} {cg:Nat->List Value} {σ:St} {a:Act} {w:World}
theorem By(h:aJ B F Sg cg σ a w){l:Nat}{b:Lab}(hl:σ.L l=some b){π:List Stp}(hc:eu π=true){u:Ty}{y:u.T}(hg:get? b.t b.x π=some ⟨u,y⟩)(ho:cV b.t b.m π=true):
 ∃ ds p o S',resolve w b.t (cg l) none π=some (ds,some (p,o))/\Rep F w u (atM b.t b.m π) y ds S'/\Sub S' (Sg l)/\HH F w b.t b.m b.x (cg l) (Sg l) π u ds p o S':=by
 obtain⟨ds,s',S',h1,h2,h3,h4⟩:=focus F w π b.t b.m b.x (cg l) (Sg l) none u y (h.lab l b hl) hg ho
 obtain⟨⟨p,o⟩,rfl⟩:=gK _ _ _ _ _ _ hc h1
 rcases h4 with⟨_,_,_,h5,_⟩|⟨p',o',h5,h6⟩
 ·simp at h5
 ·injection h5 with h5
  injection h5 with h5 h7
  subst h5;subst h7
  exact⟨ds,p,o,S',h1,h2,h3,h6⟩
theorem ek(w:World)(t:Ty)(cs:List Value)(s:Option (Nat×Nat)):resolve w t cs s []=some (cs,s):=by cases t <;> rfl
theorem ml(π:List Stp):eu (π++[.deref])=true:=by
 induction π with
 |nil=>rfl
 |cons p π ih=>cases p <;> first|rfl|exact ih
theorem rS{R:Type}{c:V}{K:V->Option R}{r:R}(h:oA c K=some r):∃ q,K q=some r/\get? c.t c.x [.deref]=some q/\(c.t=.box q.t\/c.t=.ptr q.t):=by
 unfold oA at h
 split at h
 ·rename_i t x;exact⟨⟨t,x⟩,h,by cases t <;> rfl,.inl rfl⟩
 ·rename_i t x
  split at h
  ·rename_i y;exact⟨⟨t,y⟩,h,by cases t <;> rfl,.inr rfl⟩
  ·cases h
 ·cases h
theorem Bz{t:Ty}{q:Ty}(ht:t=.box q\/t=.ptr q){cs:List Value}{s:Option (Nat×Nat)}{v:Value}(hv:VR t cs v){ds:List Value}{p o:Nat}(hr:resolve w t cs s [.deref]=some (ds,some (p,o))):v=.pointer (some ⟨p,o,none⟩):=by
 rcases ht with rfl|rfl
 ·simp only[resolve]at hr
  split at hr
  ·injection hr with hr
   injection hr with _ hr
   injection hr with hr
   injection hr with q1 q2
   subst q1;subst q2
   simp[VR,Ty.agg]at hv
   exact hv.1.symm
  ·cases hr
 ·simp only[resolve]at hr
  split at hr
  ·injection hr with hr
   injection hr with _ hr
   injection hr with hr
   injection hr with q1 q2
   subst q1;subst q2
   simp[VR,Ty.agg]at hv
   exact hv.1.symm
  ·cases hr
theorem oB(h:aJ B F Sg cg σ a w){R:Type}{e:aj}{K:Nat->Lab->List Stp->V->Option R}{r:R}(hk:plc σ e K=some r){v:Value}(he:aw F w σ.L σ.U cg e v):
 ∃ l b π c,σ.L l=some b/\K l b π c=some r/\eu π=true/\get? b.t b.x π=some c/\cV b.t b.m π=true/\
  ∃ ds p o S',v=.pointer (some ⟨p,o,none⟩)/\resolve w b.t (cg l) none π=some (ds,some (p,o))/\Rep F w c.t (atM b.t b.m π) c.x ds S'/\Sub S' (Sg l)/\HH F w b.t b.m b.x (cg l) (Sg l) π c.t ds p o S':=by
 unfold plc at hk
 split at hk
 ·rename_i l n π c
  cases hl:σ.L l with
  |none=>rw[hl]at hk;cases hk
  |some b=>
   rw[hl]at hk
   simp only at hk
   cases hc:eu π
   ·rw[hc]at hk;cases hk
   rw[hc]at hk
   simp only[cond_true]at hk
   obtain⟨hu,he2⟩:=he
   obtain⟨_,h1,h2⟩:=he2 b hl
   cases hn:Nat.beq n b.v
   ·rw[hn]at hk
    simp only[cond_false]at hk
    cases hs:short 0 π&&cV b.t b.m π
    ·rw[hs]at hk;cases hk
    rw[hs]at hk
    simp only[cond_true]at hk
    simp only[ag]at hs
    rw[fv]at hk
    obtain⟨c',hg,hk⟩:=bN.1 hk
    obtain⟨ds,p,o,S',h3,h4,h5,h6⟩:=By h hl hc hg hs.2
    exact⟨l,b,π,c',hl,hk,hc,hg,hs.2,ds,p,o,S',h1 hs.1 _ _ (pd _ _ _ _ _ hs.1 h3),h3,h4,h5,h6⟩
   ·rw[hn]at hk
    simp only[cond_true]at hk
    obtain⟨h3,hg,h4⟩:=h2 (aV hn)
    obtain⟨ds,p,o,S',h5,h6,h7,h8⟩:=By h hl hc hg h3
    exact⟨l,b,π,c,hl,hk,hc,hg,h3,ds,p,o,S',h4 _ _ _ h5,h5,h6,h7,h8⟩
 ·rename_i l n π c
  cases hl:σ.L l with
  |none=>rw[hl]at hk;cases hk
  |some b=>
   rw[hl]at hk
   simp only at hk
   cases ho:cV b.t b.m (π++[.deref])
   ·rw[ho]at hk;cases hk
   rw[ho]at hk
   simp only[cond_true]at hk
   obtain⟨hu,he2⟩:=he
   obtain⟨_,h1,h2⟩:=he2 b hl
   have fin:∀ (c:V) (q:V),get? b.t b.x π=some c->get? c.t c.x [.deref]=some q->(c.t=.box q.t\/c.t=.ptr q.t)->(∀ ds s,resolve w b.t (cg l) none π=some (ds,s)->VR c.t ds v)->K l b (π++[.deref]) q=some r->
    ∃ l b π c,σ.L l=some b/\K l b π c=some r/\eu π=true/\get? b.t b.x π=some c/\cV b.t b.m π=true/\
   ∃ ds p o S',v=.pointer (some ⟨p,o,none⟩)/\resolve w b.t (cg l) none π=some (ds,some (p,o))/\Rep F w c.t (atM b.t b.m π) c.x ds S'/\Sub S' (Sg l)/\HH F w b.t b.m b.x (cg l) (Sg l) π c.t ds p o S':=by
    intro c q hg hq ht hv hk
    have hg2:get? b.t b.x (π++[.deref])=some q:=by rw[kL,hg];exact hq
    obtain⟨ds,p,o,S',h5,h6,h7,h8⟩:=By h hl (ml π) hg2 ho
    refine⟨l,b,π++[.deref],q,hl,hk,ml π,hg2,ho,ds,p,o,S',?_,h5,h6,h7,h8⟩
    rw[gO]at h5
    obtain⟨⟨ds1,s1⟩,hr1,hr2⟩:=bN.1 h5
    have e1:=dW _ _ _ _ hg
    rw[<-e1]at hr2
    exact Bz ht (hv _ _ hr1) hr2
   cases hn:Nat.beq n b.v
   ·rw[hn]at hk
    simp only[cond_false]at hk
    cases hp:π.isEmpty
    ·rw[hp]at hk;cases hk
    rw[hp]at hk
    simp only[cond_true]at hk
    have:π=[]:=by cases π <;> simp_all
    subst this
    obtain⟨q,hk,hq,ht⟩:=rS hk
    refine fin ⟨b.t,b.x⟩ q (eA _ _) hq ht (λds s hr=>?_) hk
    rw[ek]at hr
    injection hr with hr
    injection hr with hr _
    subst hr
    exact h1 rfl
   ·rw[hn]at hk
    simp only[cond_true]at hk
    obtain⟨h3,hg,h4⟩:=h2 (aV hn)
    obtain⟨q,hk,hq,ht⟩:=rS hk
    refine fin c q hg hq ht (λds s hr=>?_) hk
    rw[dW _ _ _ _ hg]
    exact h4 _ _ hr
 ·cases hk
theorem Em{b o:Nat}{ds:List Value}(h:ov w b o ds):At w ⟨b,o,none⟩ ds:=by
 obtain⟨c,e,hb,l,r,hc,hl⟩:=h
 intro j v hj
 rw[cq]
 have hjl:j<ds.length:=(bB.1 hj).1
 have:c.toList[o+j]?=some v:=by
  rw[hc,<-hl,aT,jn (by omega),nY,ig hjl]
  exact hj
 simp[World.cell?,hb]
 simpa using this
theorem lQ{t:TypeId}{d:TD}(hd:TOk P t d):(isAgg t).run P w=.ok d.ty.agg w:=by
 rw[hd.agg]
 have:=hd.desc
 unfold isAgg
 cases hk:d.kd <;> rw[hk]at this <;> simp only at this
 case int k=>simp[run_underlying this.1,TK.agg]
 case bool=>simp[run_underlying this.1,TK.agg]
 case str=>simp[run_underlying this.1,TK.agg]
 case slice e=>simp[run_underlying this,TK.agg]
 case array n e=>simp[run_underlying this,TK.agg]
 case struct fs=>obtain⟨f,h1,_⟩:=this;simp[run_underlying h1,TK.agg]
 case pointer e=>simp[run_underlying this,TK.agg]
 case chan e=>obtain⟨dir,h1⟩:=this;simp[run_underlying h1,TK.agg]
 case map k e=>simp[run_underlying this,TK.agg]
 case other=>
  obtain⟨q,h1,h2,h3⟩:=this
  simp only[aD,run_underlying h1,aF,TK.agg]
  cases q <;> first|rfl|exact absurd rfl (h2 _)|exact absurd rfl (h3 _ _)
theorem run_sizeOf{t:TypeId}{d:TD}(hd:TOk P t d):(sizeOf t).run P w=.ok d.ty.width w:=by
 obtain⟨i,z,h1,h2,_⟩:=hd.ry
 simp[sizeOf,typeInfo,h1,h2]
theorem pe{t:TypeId}{d:TD}(hd:TOk P t d){ad:Addr}{ds:List Value}(hat:At w ad ds)(hl:ds.length=d.ty.width)(hv:d.ty.agg=true\/∃ z,ds=[z]/\z.oneCell'=true):
 ∃ z,(Instr.loadAt t (.pointer (some ad))).run P w=.ok z w/\VR d.ty ds z:=by
 unfold Instr.loadAt loadVar
 cases ha:d.ty.agg
 ·rcases hv with hv|⟨z,rfl,hz⟩
  ·rw[ha]at hv;cases hv
  have h0:=hat 0 z rfl
  rw[Addr.add_zero']at h0
  refine⟨z,?_,by simp[VR,ha,hz]⟩
  simp[Instr.sureAddr,lQ hd,ha,go_sem,h0]
 ·refine⟨.agg ds.toArray,?_,by simp[VR,ha]⟩
  have:=run_loadCells_list (P:=P) w ad ds hat
  rw[hl]at this
  simp[Instr.sureAddr,lQ hd,ha,run_sizeOf hd,this]
theorem jG{t:Ty}(ht:t.vty=true){m:Md}{x:t.T}{cs:List Value}{S:ae}(h:Rep F w t m x cs S):t.agg=true\/∃ z,cs=[z]/\z.oneCell'=true:=by
 unfold Ty.vty at ht
 simp only[aR]at ht
 rcases ht with ht|ht
 ·exact .inr (eB ht h)
 ·exact .inl ht
def mS{R:Type}(e:aj)(K:(t:Ty)->t.T->Option R):Option R:=
 match e with
 |.jF t x=>K t x
 |.val (.box t) x=>K t x
 |.val (.ptr t) x=>match(x:Option t.T)with
  |some y=>K t y
  |none=>none
 |_=>none
theorem mT{R:Type}{L:Nat->Option Lab}{U:Nat->Bool}{e:aj}{K:(t:Ty)->t.T->Option R}{r:R}(h:mS e K=some r){v:Value}(he:aw F w L U cg e v):
 ∃ t x ad ds,K t x=some r/\v=.pointer (some ad)/\F ad.block/\At w ad ds/\Rep F w t .ro x ds ae.none:=by
 unfold mS at h
 split at h
 ·rename_i t x
  obtain⟨ad,ds,h1,h2,h3,h4⟩:=he
  exact⟨t,x,ad,ds,h,h1,h2,h3,h4⟩
 ·rename_i t x
  obtain⟨cs,h1,h2⟩:=he
  obtain⟨ad,rfl,h3,ds,h4,h5⟩:=h1
  simp[VR,Ty.agg]at h2
  exact⟨t,x,ad,ds,h,h2.1.symm,h3,h4,h5⟩
 ·rename_i t x
  split at h
  ·rename_i y
   obtain⟨cs,h1,h2⟩:=he
   obtain⟨ad,rfl,h3,ds,h4,h5⟩:=h1
   simp[VR,Ty.agg]at h2
   exact⟨t,y,ad,ds,h,h2.1.symm,h3,h4,h5⟩
  ·cases h
 ·cases h
def En(c:V)(l:Nat)(b:Lab)(π:List Stp):aj:=bif c.t.flat||di (atM b.t b.m π)then .val c.t c.x else .hdr l b.v π c
def aj.owned:aj->Bool
 |.adr ..=>true
 |.hdr ..=>true
 |_=>false
def qc{R:Type}(d:TD)(σ:St)(e:aj)(K:aj->Option R):Option R:=
 bif d.ty.vty then
  (bif e.owned then plc σ e λl b π c=>bif decide (c.t=d.ty)then K (En c l b π)else none
  else mS e λt x=>bif decide (t=d.ty)then K (.val t x)else none)
 else none
theorem x5(h:aJ B F Sg cg σ a w){l:Nat}{b:Lab}(hl:σ.L l=some b){π:List Stp}{c:V}(hg:get? b.t b.x π=some c)(ho:cV b.t b.m π=true){ds:List Value}{s:Option (Nat×Nat)}{S':ae}(hr:resolve w b.t (cg l) none π=some (ds,s))(bh:Rep F w c.t (atM b.t b.m π) c.x ds S'){z:Value}(hz:VR c.t ds z):
 aw F w σ.L σ.U cg (En c l b π) z:=by
 unfold En
 cases hc:c.t.flat||di (atM b.t b.m π)
 ·refine⟨h.used l b hl,λb' hb'=>?_⟩
  rw[hl]at hb'
  injection hb' with hb'
  subst hb'
  have ht:c.t=atT b.t π:=dW _ _ _ _ hg
  refine⟨ar _,?_,λ_=>⟨ho,hg,λds' s' hr'=>?_⟩⟩
  ·rintro rfl
   rw[ek]at hr
   injection hr with hr
   injection hr with hr _
   subst hr
   have e2:atT b.t []=b.t:=by cases b.t <;> rfl
   rw[e2]at ht
   rw[<-ht]
   exact hz
  ·rw[hr]at hr'
   injection hr' with hr'
   injection hr' with hr' _
   subst hr'
   rw[<-ht]
   exact hz
 ·simp only[aR]at hc
  refine⟨ds,?_,hz⟩
  rcases hc with hc|hc
  ·exact jE c.t hc _ _ _ _ _ _ bh
  ·exact dV c.t _ hc _ _ _ _ bh
theorem us(h:aJ B F Sg cg σ a w){R:Type}{t:TypeId}{d:TD}(hd:TOk P t d){e:aj}{K:aj->Option R}{r:R}(hk:qc d σ e K=some r){v:Value}(he:aw F w σ.L σ.U cg e v):
 ∃ e' z,K e'=some r/\(Instr.loadAt t v).run P w=.ok z w/\aw F w σ.L σ.U cg e' z:=by
 unfold qc at hk
 cases hvt:d.ty.vty
 ·rw[hvt]at hk;cases hk
 rw[hvt]at hk
 simp only[cond_true]at hk
 cases qd:e.owned
 ·rw[qd]at hk
  simp only[cond_false]at hk
  obtain⟨t',x,ad,ds,hk,rfl,h2,h3,h4⟩:=mT hk he
  cases hud:decide (t'=d.ty)
  ·rw[hud]at hk;cases hk
  rw[hud]at hk
  simp only[cond_true]at hk
  have hud:=of_decide_eq_true hud
  subst hud
  obtain⟨z,h5,h6⟩:=pe hd h3 (aL _ _ _ _ _ _ _ h4) (jG hvt h4)
  exact⟨_,z,hk,h5,ds,h4,h6⟩
 ·rw[qd]at hk
  simp only[cond_true]at hk
  obtain⟨l,b,π,c,hl,hk,hc,hg,ho,ds,p,o,S',rfl,h1,h2,h3,h4⟩:=oB h hk he
  cases hud:decide (c.t=d.ty)
  ·rw[hud]at hk;cases hk
  rw[hud]at hk
  simp only[cond_true]at hk
  have hud:=of_decide_eq_true hud
  have hw:=aL _ _ _ _ _ _ _ h2
  have hvc:=jG (by rw[hud];exact hvt) h2
  rw[hud]at hw hvc
  obtain⟨z,h5,h6⟩:=pe hd (Em h4.2.2.1) hw hvc
  rw[<-hud]at h6
  exact⟨_,z,hk,h5,x5 h hl hg ho h1 h2 h6⟩
end
def sP(n f:Nat):List Stp:=.st::(List.replicate f .snd++bif Nat.blt (f+1) n then [.fst]else [])
def aZ:Ty->List Stp->Option Nat
 |_,[]=>some 0
 |.st t,.st::π=>aZ t π
 |.pair a _,.fst::π=>aZ a π
 |.pair a b,.snd::π=>match aZ b π with|some k=>some (a.width+k)|none=>none
 |.arr _ t,.ai i::π=>match aZ t π with|some k=>some (i.toNat*t.width+k)|none=>none
 |_,_::_=>none
theorem mE{w:World}:∀ (π:List Stp) (t:Ty) (cs:List Value) (p o k:Nat) (ds:List Value) (s:Option (Nat×Nat)),aZ t π=some k->resolve w t cs (some (p,o)) π=some (ds,s)->s=some (p,o+k):=by
 intro π
 induction π with
 |nil=>
  intro t cs p o k ds s hk h;rw[ek]at h;have:k=0:=by cases t <;> simp[aZ]at hk <;> exact hk.symm
  subst this;injection h with h;injection h with _ h;exact h.symm
 |cons p0 π ih=>
  intro t cs p o k ds s hk h
  cases t <;> cases p0 <;> simp only[resolve,reduceCtorEq]at h <;> simp only[aZ,reduceCtorEq]at hk
  case st.st=>exact ih _ _ _ _ _ _ _ hk h
  case pair.fst=>exact ih _ _ _ _ _ _ _ hk h
  case pair.snd=>
   split at hk
   ·rename_i k' hk'
    injection hk with hk
    subst hk
    rw[ih _ _ _ _ _ _ _ hk' h,bV]
   ·cases hk
  case arr.ai=>
   split at h
   ·split at hk
    ·rename_i k' hk'
     injection hk with hk
     subst hk
     rw[ih _ _ _ _ _ _ _ hk' h,bV]
    ·cases hk
   ·cases h
theorem add_add(a:Addr)(k j:Nat):(a.add k).add j=a.add (k+j):=by
 unfold Addr.add
 rcases cM k with rfl|hk
 ·simp
 ·rcases cM j with rfl|hj
  ·simp
  ·rw[if_neg (by omega),if_neg (by omega),if_neg (by omega)]
   simp[bV]
theorem At.part{w:World}{ad:Addr}{pre ds post:List Value}(h:At w ad (pre++ds++post)):At w (ad.add pre.length) ds:=by
 intro j v hj
 rw[add_add]
 apply h
 have hjl:j<ds.length:=(bB.1 hj).1
 rw[aT,jn (by omega),nY,ig hjl]
 exact hj
theorem rT{F:ae}{w:World}:∀ (π:List Stp) (t:Ty) (x:t.T) (ad:Addr) (ds:List Value) (k:Nat) (c:V),aZ t π=some k->get? t x π=some c->At w ad ds->Rep F w t .ro x ds ae.none->∃ ds',At w (ad.add k) ds'/\Rep F w c.t .ro c.x ds' ae.none:=by
 intro π
 induction π with
 |nil=>
  intro t x ad ds k c hk hg h hr
  rw[eA]at hg
  injection hg with hg
  subst hg
  have:k=0:=by cases t <;> simp[aZ]at hk <;> exact hk.symm
  subst this
  exact⟨ds,by rw[Addr.add_zero'];exact h,hr⟩
 |cons p0 π ih=>
  intro t x ad ds k c hk hg h hr
  unfold get? at hg
  cases t <;> cases p0 <;> simp only[eM,reduceCtorEq]at hg <;> simp only[aZ,reduceCtorEq]at hk
  case st.st=>exact ih _ _ _ _ _ _ hk hg h hr
  case pair.fst a b=>
   obtain⟨c1,c2,S1,S2,rfl,h1,h2,_⟩:=hr
   exact ih _ _ ad c1 _ _ hk hg (by have:=At.part (pre:=[]) (ds:=c1) (post:=c2) (by simpa using h);rw[eX,Addr.add_zero']at this;exact this) (dV a _ rfl _ _ _ _ h1)
  case pair.snd a b=>
   obtain⟨c1,c2,S1,S2,rfl,h1,h2,_⟩:=hr
   split at hk
   ·rename_i k' hk'
    injection hk with hk
    subst hk
    have hp:=At.part (pre:=c1) (ds:=c2) (post:=[]) (by simpa using h)
    rw[aL _ _ _ _ _ _ _ h1]at hp
    rw[<-add_add]
    exact ih _ _ _ c2 _ _ hk' hg hp (dV b _ rfl _ _ _ _ h2)
   ·cases hk
  case arr.ai n t i=>
   split at hg
   ·cases hz:(x:List t.T)[i.toNat]? with
    |none=>rw[hz]at hg;simp at hg
    |some z=>
     rw[hz]at hg
     split at hk
     ·rename_i k' hk'
      injection hk with hk
      subst hk
      obtain⟨d,T,pre,post,hd,t1,rfl,hp,_⟩:=aY.focus (λy c S h=>aL F w t _ y c S h) hz hr.2
      have hp2:=At.part h
      rw[hp]at hp2
      rw[<-add_add]
      exact ih _ _ _ d _ _ hk' hg hp2 (dV t _ rfl _ _ _ _ hd)
     ·cases hk
   ·cases hg
section
variable {P:Program} {B:dh} {F:ae} {Sg:Nat->ae} {cg:Nat->List Value} {σ:St} {a:Act} {w:World}
theorem wZ(h:aJ B F Sg cg σ a w){l:Nat}{b:Lab}(hl:σ.L l=some b){π:List Stp}{c:V}(hcr:eu π=true)(hg:get? b.t b.x π=some c)(ho:cV b.t b.m π=true){p o:Nat}
 (hr:∀ ds s,resolve w b.t (cg l) none π=some (ds,s)->s=some (p,o)):aw F w σ.L σ.U cg (.adr l b.v π c) (.pointer (some ⟨p,o,none⟩)):=by
 obtain⟨ds,p',o',S',h1,_⟩:=By h hl hcr hg ho
 have e1:=hr _ _ h1
 injection e1 with e1
 injection e1 with e1 e2
 subst e1;subst e2
 refine⟨h.used l b hl,λb' hb'=>?_⟩
 rw[hl]at hb'
 injection hb' with hb'
 subst hb'
 refine⟨ar _,λhs p2 o2 hr2=>?_,λ_=>⟨ho,hg,λds2 p2 o2 hr2=>?_⟩⟩
 ·rw[pd _ _ _ _ _ hs h1]at hr2
  injection hr2 with hr2
  injection hr2 with q1 q2
  subst q1;subst q2;rfl
 ·rw[h1]at hr2
  injection hr2 with hr2
  injection hr2 with _ hr2
  injection hr2 with hr2
  injection hr2 with q1 q2
  subst q1;subst q2;rfl
theorem uu(π:List Stp)(i:Int):eu (π++[.idx i])=true:=by
 induction π with
 |nil=>rfl
 |cons p π ih=>cases p <;> first|rfl|exact ih
theorem pg{π ρ:List Stp}(h:eu π=true):eu (π++ρ)=true:=by
 induction π with
 |nil=>simp[eu]at h
 |cons p π ih=>cases p <;> first|rfl|exact ih h
theorem j6:∀ (φ:List Stp) (t:Ty) (m:Md) (k:Nat),aZ t φ=some k->cV t m φ=true:=by
 intro φ
 induction φ with
 |nil=>intro t m k _;cases t <;> rfl
 |cons p φ ih=>
  intro t m k h
  cases t <;> cases p <;> simp only[aZ,reduceCtorEq]at h <;> simp only[cV]
  case st.st=>exact ih _ _ _ h
  case pair.fst=>exact ih _ _ _ h
  case pair.snd=>(split at h <;> first|exact ih _ _ _ (by assumption)|cases h)
  case arr.ai=>(split at h <;> first|exact ih _ _ _ (by assumption)|cases h)
abbrev Tab:=TypeId->Option TD
def cd(P:Program)(TT:Tab):Prop:=∀ t d,TT t=some d->TOk P t d
def uv{R:Type}(TT:Tab)(s f:Nat)(K:TD->Nat->List Stp->TD->Option R):Option R:=
 match TT s with
 |none=>none
 |some d=>match d.kd with
  |.struct fs=>match fs[f]? with
   |none=>none
   |some q=>match TT q.1 with
    |none=>none
    |some df=>bif Nat.beq df.ty.width 0 then none else
     match aZ d.ty (sP fs.length f)with
     |none=>none
     |some k=>bif Nat.beq k q.2 then K d k (sP fs.length f) df else none
  |_=>none
theorem sQ{R:Type}{TT:Tab}(hT:cd P TT){s f:Nat}{K:TD->Nat->List Stp->TD->Option R}{r:R}(h:uv TT s f K=some r):
 ∃ d k φ df fields fl,K d k φ df=some r/\TOk P s d/\aZ d.ty φ=some k/\P.underlying s=some (.struct fields)/\fields[f]?=some fl/\fl.offset=k/\TOk P fl.type df/\df.ty.width≠0:=by
 unfold uv at h
 cases h1:TT s with
 |none=>rw[h1]at h;cases h
 |some d=>
  rw[h1]at h
  simp only at h
  have hd:=hT s d h1
  split at h
  ·rename_i fs hk
   cases h2:fs[f]? with
   |none=>rw[h2]at h;cases h
   |some q=>
    rw[h2]at h
    simp only at h
    cases h3:TT q.1 with
    |none=>rw[h3]at h;cases h
    |some df=>
     rw[h3]at h
     simp only at h
     cases h4:Nat.beq df.ty.width 0
     ·rw[h4]at h
      simp only[cond_false]at h
      cases h5:aZ d.ty (sP fs.length f)with
      |none=>rw[h5]at h;cases h
      |some k=>
       rw[h5]at h
       simp only at h
       cases h6:Nat.beq k q.2
       ·rw[h6]at h;cases h
       rw[h6]at h
       simp only[cond_true]at h
       have hds:=hd.desc
       rw[hk]at hds
       simp only at hds
       obtain⟨fields,hu,hf⟩:=hds
       have hq:(fields.toList.map (λx=>(x.type,x.offset)))[f]?=some q:=by rw[hf];exact h2
       rw[cn]at hq
       obtain⟨fl,hfl,hq⟩:=nZ.1 hq
       subst hq
       refine⟨d,k,_,df,fields,fl,h,hd,h5,hu,by simpa using hfl,(aV h6).symm,hT _ _ h3,λh0=>?_⟩
       rw[h0]at h4
       cases h4
     ·rw[h4]at h;cases h
  ·cases h
def BA(o:Option Nat)(k:Nat):Bool:=match o with|some k'=>Nat.beq k' k|none=>false
theorem BB{o:Option Nat}{k:Nat}(h:BA o k=true):o=some k:=by
 cases o with
 |none=>cases h
 |some k'=>rw[aV h]
def iF{R:Type}(TT:Tab)(σ:St)(s:TypeId)(e:aj)(f:Nat)(K:aj->Option R):Option R:=
 uv TT s f λd k φ df=>
  bif e.owned then plc σ e λl b π c=>bif BA (aZ c.t φ) k then eM c.t c.x φ λu y=>K (.adr l b.v (π++φ) ⟨u,y⟩)else none
  else mS e λt x=>bif decide (t=d.ty)then eM t x φ λu y=>bif decide (u=df.ty)then K (.jF u y)else none else none
theorem rB(h:aJ B F Sg cg σ a w){R:Type}{TT:Tab}(hT:cd P TT){s:TypeId}{f:Nat}{e:aj}{K:aj->Option R}{r:R}(hk:iF TT σ s e f K=some r){v:Value}(he:aw F w σ.L σ.U cg e v):
 ∃ e' z,K e'=some r/\(Instr.fieldAt s v f).run P w=.ok z w/\aw F w σ.L σ.U cg e' z:=by
 obtain⟨d,k,φ,df,fields,fl,hk,hd,hin,hu,hfl,Ep,hdf,hw0⟩:=sQ hT hk
 have bE:∀ ad:Addr,(Instr.fieldAt s (.pointer (some ad)) f).run P w=.ok (.pointer (some (ad.add k))) w:=by
  intro ad
  simp[Instr.fieldAt,run_underlying hu,hfl,Instr.sureAddr,fieldPlace,run_sizeOf hdf,hw0,Ep]
 cases qd:e.owned
 ·rw[qd]at hk
  simp only[cond_false]at hk
  obtain⟨t',x,ad,ds,hk,rfl,h2,h3,h4⟩:=mT hk he
  cases hud:decide (t'=d.ty)
  ·rw[hud]at hk;cases hk
  rw[hud]at hk
  simp only[cond_true]at hk
  have hud:=of_decide_eq_true hud
  subst hud
  rw[fv]at hk
  obtain⟨c,hg,hk⟩:=bN.1 hk
  cases hud:decide (c.t=df.ty)
  ·rw[hud]at hk;cases hk
  rw[hud]at hk
  simp only[cond_true]at hk
  obtain⟨ds',h5,h6⟩:=rT _ _ _ _ _ _ _ hin hg h3 h4
  exact⟨_,_,hk,bE ad,_,ds',rfl,by rw[iw];exact h2,h5,h6⟩
 ·rw[qd]at hk
  simp only[cond_true]at hk
  obtain⟨l,b,π,c,hl,hk,hc,hg,ho,ds,p,o,S',rfl,h1,h2,h3,h4⟩:=oB h hk he
  cases hud:BA (aZ c.t φ) k
  ·rw[hud]at hk;cases hk
  rw[hud]at hk
  simp only[cond_true]at hk
  rw[fv]at hk
  obtain⟨c',hg',hk⟩:=bN.1 hk
  have zt:aZ c.t φ=some k:=BB hud
  have hat:=dW _ _ _ _ hg
  refine⟨_,_,hk,?_,wZ h hl (pg hc) (by rw[kL,hg];exact hg') (by rw[qb,ho,<-hat,j6 _ _ _ _ zt];rfl) (p:=p) (o:=o+k) (λds2 s2 hr=>?_)⟩
  ·rw[bE,cq]
  ·rw[gO,h1]at hr
   simp only[fI]at hr
   rw[<-hat]at hr
   exact mE _ _ _ _ _ _ _ _ zt hr
def jH{R:Type}(σ:St)(e:aj)(K:Nat->Lab->List Stp->V->Option R):Option R:=
 match e with
 |.hdr l n π c=>match σ.L l with
  |some b=>bif Nat.beq n b.v then K l b π c else bif π.isEmpty then K l b [] ⟨b.t,b.x⟩else none
  |none=>none
 |_=>none
theorem e7(h:aJ B F Sg cg σ a w){R:Type}{e:aj}{K:Nat->Lab->List Stp->V->Option R}{r:R}(hk:jH σ e K=some r){v:Value}(he:aw F w σ.L σ.U cg e v):
 ∃ l b π c,σ.L l=some b/\K l b π c=some r/\get? b.t b.x π=some c/\cV b.t b.m π=true/\
  ∃ ds s S',resolve w b.t (cg l) none π=some (ds,s)/\Rep F w c.t (atM b.t b.m π) c.x ds S'/\Sub S' (Sg l)/\Foc F w b.t b.m b.x (cg l) (Sg l) none π c.t ds s S'/\VR c.t ds v:=by
 unfold jH at hk
 split at hk
 ·rename_i l n π c
  cases hl:σ.L l with
  |none=>rw[hl]at hk;cases hk
  |some b=>
   rw[hl]at hk
   simp only at hk
   obtain⟨hu,he2⟩:=he
   obtain⟨_,h1,h2⟩:=he2 b hl
   cases hn:Nat.beq n b.v
   ·rw[hn]at hk
    simp only[cond_false]at hk
    cases hp:π.isEmpty
    ·rw[hp]at hk;cases hk
    rw[hp]at hk
    simp only[cond_true]at hk
    have:π=[]:=by cases π <;> simp_all
    subst this
    have ho:cV b.t b.m []=true:=by cases b.t <;> rfl
    obtain⟨ds,s,S',h3,h4,h5,h6⟩:=focus F w [] b.t b.m b.x (cg l) (Sg l) none b.t b.x (h.lab l b hl) (eA _ _) ho
    refine⟨l,b,[],⟨b.t,b.x⟩,hl,hk,eA _ _,ho,ds,s,S',h3,h4,h5,h6,?_⟩
    rw[ek]at h3
    injection h3 with h3
    injection h3 with h3 _
    subst h3
    exact h1 rfl
   ·rw[hn]at hk
    simp only[cond_true]at hk
    obtain⟨h3,hg,h4⟩:=h2 (aV hn)
    obtain⟨ds,s,S',h5,h6,h7,h8⟩:=focus F w π b.t b.m b.x (cg l) (Sg l) none c.t c.x (h.lab l b hl) hg h3
    refine⟨l,b,π,c,hl,hk,hg,h3,ds,s,S',h5,h6,h7,h8,?_⟩
    rw[dW _ _ _ _ hg]
    exact h4 _ _ h5
 ·cases hk
def iG(e:aj){R:Type}(K:Int->Option R):Option R:=
 match e with
 |.val (.int _) i=>K i
 |_=>none
def fA{R:Type}(TT:Tab)(σ:St)(t:TypeId)(ex ei:aj)(K:aj->Option R):Option R:=
 iG ei λi=>
 match TT t with
 |none=>none
 |some d=>match d.kd with
  |.slice e=>match TT e with
   |none=>none
   |some de=>match ex with
    |.val (.sl t') xs=>bif decide (t'=de.ty)then(if 0<=i then(match(xs:List t'.T)[i.toNat]? with|some y=>K (.jF t' y)|none=>none)else none)else none
    |.hdr ..=>jH σ ex λl b π c=>bif decide (c.t=.sl de.ty)&&cV b.t b.m (π++[.idx i])then eM c.t c.x [.idx i] λu y=>K (.adr l b.v (π++[.idx i]) ⟨u,y⟩)else none
    |_=>none
  |.array n e=>match TT e with
   |none=>none
   |some de=>
    bif ex.owned then plc σ ex λl b π c=>bif decide (c.t=.arr n de.ty)then eM c.t c.x [.ai i] λu y=>K (.adr l b.v (π++[.ai i]) ⟨u,y⟩)else none
    else mS ex λt' x=>bif decide (t'=.arr n de.ty)then eM t' x [.ai i] λu y=>K (.jF u y)else none
  |_=>none
theorem run_indexAt_slice{t e:TypeId}{de:TD}(hu:P.underlying t=some (.slice e))(hde:TOk P e de){k:IntKind}{i:Int}{len cap:Nat}{ad:Addr}(h0:0<=i)(h1:i.toNat<len):
 (Instr.indexAt t (.slice (some ad) len cap) (.int k i)).run P w=.ok (.pointer (some (ad.add (i.toNat*de.ty.width)))) w:=by
 have h2:i<(len:Int):=by omega
 simp[Instr.indexAt,asIntOf,run_underlying hu,h0,h2,run_sizeOf hde]
theorem run_indexAt_array{t e:TypeId}{n:Nat}{de:TD}(hu:P.underlying t=some (.array n e))(hde:TOk P e de){k:IntKind}{i:Int}{ad:Addr}(h0:0<=i)(h1:i.toNat<n):
 (Instr.indexAt t (.pointer (some ad)) (.int k i)).run P w=.ok (.pointer (some (ad.add (i.toNat*de.ty.width)))) w:=by
 have h2:i<(n:Int):=by omega
 simp[Instr.indexAt,asIntOf,run_underlying hu,Instr.sureAddr,h0,h2,run_sizeOf hde]
theorem BC{t:Ty}{xs:List t.T}{i:Int}{c:V}(h:get? (.sl t) xs [.idx i]=some c):0<=i/\∃ y,xs[i.toNat]?=some y/\c=⟨t,y⟩:=by
 unfold get? at h
 simp only[eM]at h
 split at h
 ·rename_i h0
  cases hz:xs[i.toNat]? with
  |none=>rw[hz]at h;cases h
  |some y=>
   rw[hz]at h
   exact⟨h0,y,rfl,(cP h).symm⟩
 ·cases h
theorem x6{n:Nat}{t:Ty}{xs:List t.T}{i:Int}{c:V}(h:get? (.arr n t) xs [.ai i]=some c):0<=i/\∃ y,xs[i.toNat]?=some y/\c=⟨t,y⟩:=by
 unfold get? at h
 simp only[eM]at h
 split at h
 ·rename_i h0
  cases hz:xs[i.toNat]? with
  |none=>rw[hz]at h;cases h
  |some y=>
   rw[hz]at h
   exact⟨h0,y,rfl,(cP h).symm⟩
 ·cases h
theorem kM{t:Ty}{xs:List t.T}{cs:List Value}(h:Rep F w (.sl t) .ro xs cs ae.none){v:Value}(hv:VR (.sl t) cs v):∃ ao cap,v=.slice ao xs.length cap/\xs.length<=cap/\cap<=maxLen/\
 (0<xs.length->∃ ad,ao=some ad/\F ad.block/\∃ ds,At w ad ds/\aY (Rep F w t .ro) xs ds ae.none):=by
 obtain⟨ao,cap,rfl,h1,h2,h3⟩:=h
 simp[VR,Ty.agg]at hv
 exact⟨ao,cap,hv.1.symm,h1,h2,h3⟩
theorem fQ{R:Type}{L:Nat->Option Lab}{U:Nat->Bool}{e:aj}{K:Int->Option R}{r:R}(h:iG e K=some r){v:Value}(he:aw F w L U cg e v):∃ k i,K i=some r/\v=.int k i/\inK k i:=by
 unfold iG at h
 split at h
 ·rename_i k i;obtain⟨h1,h2⟩:=gJ he;exact⟨k,i,h,h1,h2⟩
 ·cases h
theorem mn(h:aJ B F Sg cg σ a w){R:Type}{TT:Tab}(hT:cd P TT){t:TypeId}{ex ei:aj}{K:aj->Option R}{r:R}(hk:fA TT σ t ex ei K=some r){v vi:Value}(he:aw F w σ.L σ.U cg ex v)(hi:aw F w σ.L σ.U cg ei vi):
 ∃ e' z,K e'=some r/\(Instr.indexAt t v vi).run P w=.ok z w/\aw F w σ.L σ.U cg e' z:=by
 unfold fA at hk
 obtain⟨k,i,hk,rfl,_⟩:=fQ hk hi
 cases h1:TT t with
 |none=>rw[h1]at hk;cases hk
 |some d=>
 rw[h1]at hk
 simp only at hk
 have hd:=(hT t d h1).desc
 split at hk
 ·rename_i e hkd
  rw[hkd]at hd
  simp only at hd
  cases h2:TT e with
  |none=>rw[h2]at hk;cases hk
  |some de=>
  rw[h2]at hk
  simp only at hk
  have hde:=hT e de h2
  split at hk
  ·rename_i t' xs _hk0
   cases hud:decide (t'=de.ty)
   ·rw[hud]at hk;cases hk
   rw[hud]at hk
   simp only[cond_true]at hk
   have hud:=of_decide_eq_true hud
   subst hud
   split at hk
   ·rename_i h0
    cases hz:(xs:List de.ty.T)[i.toNat]? with
    |none=>rw[hz]at hk;cases hk
    |some y=>
     rw[hz]at hk
     simp only at hk
     obtain⟨cs,hr,hv⟩:=he
     obtain⟨ao,cap,rfl,h3,h4,h5⟩:=kM hr hv
     have hlt:i.toNat<List.length xs:=(bB.1 hz).1
     obtain⟨ad,rfl,hf,ds,hat,fi⟩:=h5 (by omega)
     obtain⟨dd,T,pre,post,hdd,_,rfl,hp,_⟩:=aY.focus (λy c S h=>aL F w de.ty _ y c S h) hz fi
     refine⟨_,_,hk,run_indexAt_slice hd hde h0 hlt,_,dd,rfl,by rw[iw];exact hf,?_,dV _ _ rfl _ _ _ _ hdd⟩
     rw[<-hp]
     exact At.part hat
   ·cases hk
  ·rename_i l0 n0 π0 c0
   obtain⟨l,b,π,c,hl,hk,hg,ho,ds,s,S',hr,bh,gW,fm,hv⟩:=e7 h hk he
   cases hud:decide (c.t=.sl de.ty)&&cV b.t b.m (π++[.idx i])
   ·rw[hud]at hk;cases hk
   rw[hud]at hk
   simp only[cond_true]at hk
   simp only[ag,decide_eq_true_eq]at hud
   obtain⟨hct,ho2⟩:=hud
   obtain⟨ct,cx⟩:=c
   simp only at hct
   subst hct
   simp only at hk hg hr bh hv fm
   rw[fv]at hk
   obtain⟨c',hg',hk⟩:=bN.1 hk
   obtain⟨h0,y,hy,rfl⟩:=BC hg'
   have hlt:i.toNat<List.length cx:=(bB.1 hy).1
   have hg2:get? b.t b.x (π++[.idx i])=some ⟨de.ty,y⟩:=by rw[kL,hg];exact hg'
   have hcr:eu (π++[.idx i])=true:=by
    exact uu π i
   obtain⟨ds2,p,o,S2,h3,_⟩:=By h hl hcr hg2 ho2
   have hat:=dW _ _ _ _ hg
   simp only at hat
   have h3':=h3
   rw[gO,hr]at h3'
   simp only[fI]at h3'
   rw[<-hat]at h3'
   simp only[resolve]at h3'
   split at h3'
   ·rename_i bb off len cp
    split at h3'
    ·rename_i hc
     injection h3' with h3'
     injection h3' with _ h3'
     injection h3' with h3'
     injection h3' with q1 q2
     subst q1;subst q2
     simp[VR,Ty.agg]at hv
     obtain⟨rfl,_⟩:=hv
     refine⟨_,.pointer (some ⟨bb,off+i.toNat*de.ty.width,none⟩),hk,?_,wZ h hl hcr hg2 ho2 (λds3 s3 hr3=>?_)⟩
     ·rw[run_indexAt_slice hd hde h0 hc.2,cq]
     ·rw[h3]at hr3
      injection hr3 with hr3
      injection hr3 with _ hr3
      exact hr3.symm
    ·cases h3'
   ·cases h3'
  ·cases hk
 ·rename_i n e hkd
  rw[hkd]at hd
  simp only at hd
  cases h2:TT e with
  |none=>rw[h2]at hk;cases hk
  |some de=>
  rw[h2]at hk
  simp only at hk
  have hde:=hT e de h2
  cases qd:ex.owned
  ·rw[qd]at hk
   simp only[cond_false]at hk
   obtain⟨t',x,ad,ds,hk,rfl,h3,h4,h5⟩:=mT hk he
   cases hud:decide (t'=.arr n de.ty)
   ·rw[hud]at hk;cases hk
   rw[hud]at hk
   simp only[cond_true]at hk
   have hud:=of_decide_eq_true hud
   subst hud
   rw[fv]at hk
   obtain⟨c,hg,hk⟩:=bN.1 hk
   obtain⟨h0,y,hy,rfl⟩:=x6 hg
   have hlt:i.toNat<n:=by rw[<-h5.1];exact(bB.1 hy).1
   have hin:aZ (.arr n de.ty) [.ai i]=some (i.toNat*de.ty.width):=by
    have:aZ de.ty []=some 0:=by cases de.ty <;> rfl
    simp[aZ,this]
   obtain⟨ds',h6,h7⟩:=rT _ _ _ _ _ _ _ hin hg h4 h5
   exact⟨_,_,hk,run_indexAt_array hd hde h0 hlt,_,ds',rfl,by rw[iw];exact h3,h6,h7⟩
  ·rw[qd]at hk
   simp only[cond_true]at hk
   obtain⟨l,b,π,c,hl,hk,hc,hg,ho,ds,p,o,S',rfl,h3,h4,h5,h6⟩:=oB h hk he
   cases hud:decide (c.t=.arr n de.ty)
   ·rw[hud]at hk;cases hk
   rw[hud]at hk
   simp only[cond_true]at hk
   have hud:=of_decide_eq_true hud
   obtain⟨ct,cx⟩:=c
   simp only at hud
   subst hud
   rw[fv]at hk
   obtain⟨c',hg',hk⟩:=bN.1 hk
   obtain⟨h0,y,hy,rfl⟩:=x6 hg'
   have hlt:i.toNat<n:=by rw[<-h4.1];exact(bB.1 hy).1
   have hin:aZ (.arr n de.ty) [.ai i]=some (i.toNat*de.ty.width):=by
    have:aZ de.ty []=some 0:=by cases de.ty <;> rfl
    simp[aZ,this]
   have hat:=dW _ _ _ _ hg
   refine⟨_,.pointer (some ⟨p,o+i.toNat*de.ty.width,none⟩),hk,?_,wZ h hl (pg hc) (by rw[kL,hg];exact hg') (by rw[qb,ho,<-hat,j6 _ _ _ _ hin];rfl) (λds2 s2 hr=>?_)⟩
   ·rw[run_indexAt_array hd hde h0 hlt,cq]
   ·rw[gO,h3]at hr
    simp only[fI]at hr
    rw[<-hat]at hr
    exact mE _ _ _ _ _ _ _ _ hin hr
 ·cases hk
end
theorem dl(b:Nat):∀ (es:List Value) (o:Nat) (w:World) (c:Array Value) (e:TypeId) (fr:Nat×Nat),w.heap[b]?=some (.cells c e fr)->o+es.length<=c.size->
 (∀ k,k≠b->(w.setCells b o es).heap[k]?=w.heap[k]?)/\(∃ c',(w.setCells b o es).heap[b]?=some (.cells c' e fr)/\c'.toList=c.toList.take o++es++c.toList.drop (o+es.length))/\
 (w.setCells b o es).heap.size=w.heap.size/\(w.setCells b o es).os=w.os/\(w.setCells b o es).tape=w.tape/\(w.setCells b o es).output=w.output
 |[],o,w,c,e,fr,hb,hc=>⟨λ_ _=>rfl,⟨c,hb,by simp⟩,rfl,rfl,rfl,rfl⟩
 |v::r,o,w,c,e,fr,hb,hc=>by
  simp only[bU]at hc
  have hlt:b<w.heap.size:=(ie.1 hb).1
  have h1:(w.setCell ⟨b,o,none⟩ v).heap[b]?=some (.cells (c.setIfInBounds o v) e fr):=by
   simp[World.setCell,lC,hb]
  have h2:∀ k,k≠b->(w.setCell ⟨b,o,none⟩ v).heap[k]?=w.heap[k]?:=by
   intro k hk
   simp[World.setCell,lC,Ne.symm hk]
  obtain⟨i1,⟨c',i2,i3⟩,i4,i5,i6,i7⟩:=dl b r (o+1) (w.setCell ⟨b,o,none⟩ v) (c.setIfInBounds o v) e fr h1 (by simp;omega)
  refine⟨λk hk=>(i1 k hk).trans (h2 k hk),⟨c',i2,?_⟩,i4.trans (by simp[World.setCell]),i5,i6,i7⟩
  rw[i3]
  have ho:o<c.toList.length:=by simp;omega
  rw[Array.toList_setIfInBounds,List.take_set,List.drop_set_of_lt (by omega)]
  rw[rN ho,List.set_append_right _ _ (by rw[aK];omega)]
  have e1:o-(List.take o c.toList).length=0:=by rw[aK];omega
  rw[e1]
  simp only[List.set_cons_zero,bU,aT,dP,bJ]
  rw[show o+1+r.length=o+(r.length+1) by omega]
theorem qe{w:World}{p o:Nat}{ds es:List Value}(h:ov w p o ds)(he:es.length=ds.length):
 Upd w (w.setCells p o es) p o ds es/\(∀ k,k≠p->(w.setCells p o es).heap[k]?=w.heap[k]?)/\(w.setCells p o es).heap.size=w.heap.size/\(w.setCells p o es).os=w.os/\(w.setCells p o es).tape=w.tape/\(w.setCells p o es).output=w.output:=by
 obtain⟨c,e,hb,l,r,hc,hl⟩:=h
 have hlen:o+es.length<=c.size:=by
  have:c.toList.length=(l++ds++r).length:=by rw[hc]
  simp only[aO,al]at this
  omega
 obtain⟨i1,⟨c',i2,i3⟩,i4,i5,i6,i7⟩:=dl p es o w c e.t (e.a,e.b) hb hlen
 refine⟨⟨c,c',e,l,r,hb,i2,hc,?_,hl⟩,i1,i4,i5,i6,i7⟩
 rw[i3,hc,<-hl]
 congr 1
 ·congr 1
  rw[aT,eQ (ar _),cN]
 ·rw[show l.length+es.length=(l++ds).length by rw[al,he]]
  rw[fF (ar _),eE,bJ]
theorem mF{P:Program}{w:World}{p o:Nat}{ds:List Value}(h:ov w p o ds){t:TypeId}{d:TD}(hd:TOk P t d){v:Value}{es:List Value}(hv:v.cells.toList=es)(hw:es.length=d.ty.width)(hl:es.length=ds.length)(h1:∀ u∈es,u.oneCell'=true):
 (Instr.storeAt t (.pointer (some ⟨p,o,none⟩)) v).run P w=.ok () (w.setCells p o es):=by
 obtain⟨c,e,hb,l,r,hc,hlo⟩:=h
 have hlen:o+es.length<=c.size:=by
  have:c.toList.length=(l++ds++r).length:=by rw[hc]
  simp only[aO,al]at this
  omega
 have hst:=run_storeCells_cells (P:=P) p o es 0 w (λj hj=>by
  simp only[fM]
  simp[World.cell?,hb]
  omega)
  (λj hj=>by simp only[fM];exact Mark.frz (e:=e) hb rfl (by show o+j<c.size;omega)) h1
 have hsz:v.cells.size=d.ty.width:=by rw[<-aO,hv,hw]
 simp only[fM]at hst
 simp[Instr.storeAt,Instr.sureAddr,storeVar,run_sizeOf hd,hsz,hv,hst]
section
variable {P:Program} {B:dh} {F:ae} {Sg:Nat->ae} {cg:Nat->List Value} {σ:St} {a:Act} {w:World}
theorem aJ.pj(h:aJ B F Sg cg σ a w){w':World}(ho:w'.os=w.os)(ht:w'.tape=w.tape)(hou:w'.output=w.output)(hs:w.heap.size<=w'.heap.size){l:Nat}{b b':Lab}(hl:σ.L l=some b)
 (hb:∀ k,k<w.heap.size->¬Sg l k->w'.heap[k]?=w.heap[k]?) (hVR:∀ v,VR b.t (cg l) v->VR b'.t (cg l) v) (hRA:∀ π q,aU b'.t (cg l) none π=some q->aU b.t (cg l) none π=some q) (hv:b.v<b'.v) {F':ae} (hFF:Sub F F') {S2:ae} (bh:Rep F' w' b'.t b'.m b'.x (cg l) S2) (L':Nat->Option Lab) (hLl:L' l=some b') (hL:∀ j,j≠l->L' j=none\/L' j=σ.L j)
 (hF':∀ k,F' k->F k\/(w.heap.size<=k/\k<w'.heap.size/\¬S2 k))
 (hS2:∀ k,S2 k->Sg l k\/(∃ l2 b2,l2≠l/\σ.L l2=some b2/\L' l2=none/\Sg l2 k)\/(w.heap.size<=k/\k<w'.heap.size)):aJ B F' (λj=>if j=l then S2 else Sg j) cg {σ with L:=L'} a w':=by
 have hLs:∀ j bj,j≠l->L' j=some bj->σ.L j=some bj:=λj bj hj hb=>by
  rcases hL j hj with e|e
  ·rw[e]at hb;cases hb
  ·rw[<-e];exact hb
 have hFw:∀ k,F k->w'.heap[k]?=w.heap[k]?:=λk hk=>hb k (h.fl k hk) (λhs=>h.dG l b hl k hs hk)
 have kN:∀ j bj,j≠l->σ.L j=some bj->∀ k,Sg j k->w'.heap[k]?=w.heap[k]?:=λj bj hj hbj k hk=>hb k (h.lt j bj hbj k hk) (λhs=>h.dis j l bj b hj hbj hl k hk hs)
 have qf:∀ j bj,j≠l->L' j=some bj->Dis S2 (Sg j):=by
  intro j bj hj hbj k h2 hk
  have gg:=hLs j bj hj hbj
  rcases hS2 k h2 with h3|⟨l2,b2,hne,hb2,hn2,h3⟩|h3
  ·exact h.dis l j b bj (Ne.symm hj) hl gg k h3 hk
  ·by_cases e:l2=j
   ·subst e;rw[hn2]at hbj;cases hbj
   ·exact h.dis l2 j b2 bj e hb2 gg k h3 hk
  ·have:=h.lt j bj gg k hk;omega
 refine
 {fr:=⟨ho.trans h.fr.os,ht.trans h.fr.tape,hou.trans h.fr.output,bn h.fr.size hs,λk hk hn=>(hb k (bc hk h.fr.size) (λhsk=>hn (h.may l b hl k hsk hk))).trans (h.fr.block k hk hn)⟩
  size:=h.size
  defers:=h.defers
  f0:=h.f0.trans hFF
  fl:=λk hk=>by
   rcases hF' k hk with hk|hk
   ·exact bc (h.fl k hk) hs
   ·exact hk.2.1
  fs:=λk hk h1 h2=>by
   rcases hF' k hk with hk|hk
   ·exact h.fs k hk h1 h2
   ·have:=h.fr.size;omega
  lab:=?_
  dis:=?_
  dG:=?_
  lt:=?_
  may:=?_
  used:=?_
  fix:=λl' cs' hf=>⟨(h.fix l' cs' hf).1,λb2 hb2=>by
   by_cases e:l'=l
   ·subst e;exact(h.fix l' cs' hf).2 b hl
   ·exact(h.fix l' cs' hf).2 b2 (hLs l' b2 e hb2)⟩
  ent:=?_}
 ·intro j bj hbj
  by_cases hj:j=l
  ·subst hj;simp only at hbj;rw[hLl]at hbj;injection hbj with hbj;subst hbj;rw[if_pos rfl];exact bh
  ·simp only[if_neg hj];exact aP hFF hFw _ _ _ _ _ _ (h.lab j bj (hLs j bj hj hbj)) (Sub.refl _) (kN j bj hj (hLs j bj hj hbj))
 ·intro i j bi bj hij hbi hbj
  simp only at hbi hbj
  by_cases hi:i=l
  ·subst hi;rw[if_pos rfl,if_neg (Ne.symm hij)];exact qf j bj (Ne.symm hij) hbj
  ·by_cases hj:j=l
   ·subst hj;rw[if_neg hi,if_pos rfl];exact(qf i bi hi hbi).symm
   ·rw[if_neg hi,if_neg hj];exact h.dis i j bi bj hij (hLs i bi hi hbi) (hLs j bj hj hbj)
 ·intro j bj hbj
  simp only at hbj
  by_cases hj:j=l
  ·subst hj;rw[if_pos rfl]
   intro k h2 hf
   rcases hF' k hf with hf|hf
   ·rcases hS2 k h2 with h3|⟨l2,b2,hne,hb2,hn2,h3⟩|h3
    ·exact h.dG _ b hl k h3 hf
    ·exact h.dG l2 b2 hb2 k h3 hf
    ·have:=h.fl k hf;omega
   ·exact hf.2.2 h2
  ·rw[if_neg hj]
   intro k hk hf
   rcases hF' k hf with hf|hf
   ·exact h.dG j bj (hLs j bj hj hbj) k hk hf
   ·have:=h.lt j bj (hLs j bj hj hbj) k hk;omega
 ·intro j bj hbj k hk
  simp only at hbj
  by_cases hj:j=l
  ·subst hj;rw[if_pos rfl]at hk
   rcases hS2 k hk with h3|⟨l2,b2,hne,hb2,hn2,h3⟩|h3
   ·exact bc (h.lt _ b hl k h3) hs
   ·exact bc (h.lt l2 b2 hb2 k h3) hs
   ·exact h3.2
  ·rw[if_neg hj]at hk;exact bc (h.lt j bj (hLs j bj hj hbj) k hk) hs
 ·intro j bj hbj k hk hlt
  simp only at hbj
  by_cases hj:j=l
  ·subst hj;rw[if_pos rfl]at hk
   rcases hS2 k hk with h3|⟨l2,b2,hne,hb2,hn2,h3⟩|h3
   ·exact h.may _ b hl k h3 hlt
   ·exact h.may l2 b2 hb2 k h3 hlt
   ·have:=h.fr.size;omega
  ·rw[if_neg hj]at hk;exact h.may j bj (hLs j bj hj hbj) k hk hlt
 ·intro j bj hbj
  simp only at hbj |-
  by_cases hj:j=l
  ·subst hj;exact h.used _ b hl
  ·exact h.used j bj (hLs j bj hj hbj)
 ·intro t e he
  refine(h.ent t e he).imp λe v hv=>?_
  cases e with
  |val t x=>
   obtain⟨cs,h1,h2⟩:=hv
   exact⟨cs,aP hFF hFw t .ro x cs _ _ h1 (Sub.refl _) (λ_ h=>h.elim),h2⟩
  |cst u=>exact hv
  |view j te lo hi=>
   refine⟨hv.1,λbj hbj=>?_⟩
   have hbj:L' j=some bj:=hbj
   by_cases hj:j=l
   ·subst hj;exact hv.2 b hl
   ·exact hv.2 bj (hLs j bj hj hbj)
  |jF t x=>
   obtain⟨ad,ds,h1,h2,h3,h4⟩:=hv
   exact⟨ad,ds,h1,hFF _ h2,h3.congr (hFw _ h2),aP hFF hFw t .ro x ds _ _ h4 (Sub.refl _) (λ_ h=>h.elim)⟩
  |hdr j n π c=>
   refine⟨hv.1,λbj hbj=>?_⟩
   have hbj:L' j=some bj:=hbj
   by_cases hj:j=l
   ·subst hj
    rw[hLl]at hbj;injection hbj with hbj;subst hbj
    obtain⟨h0,h1,h2⟩:=hv.2 b hl
    exact⟨by omega,λhp=>hVR _ (h1 hp),λhn=>by omega⟩
   ·have gg:=hLs j bj hj hbj
    obtain⟨h0,h1,h2⟩:=hv.2 bj gg
    refine⟨h0,h1,λhn=>?_⟩
    obtain⟨h3,h4,h5⟩:=h2 hn
    refine⟨h3,h4,?_⟩
    rw[resolve_congr π bj.t bj.m bj.x (cg j) (Sg j) none (h.lab j bj gg) h3 (by rw[h4];rfl) (kN j bj hj gg)]
    exact h5
  |adr j n π c=>
   refine⟨hv.1,λbj hbj=>?_⟩
   have hbj:L' j=some bj:=hbj
   by_cases hj:j=l
   ·subst hj
    rw[hLl]at hbj;injection hbj with hbj;subst hbj
    obtain⟨h0,h1,h2⟩:=hv.2 b hl
    exact⟨by omega,λhp p o hr=>h1 hp p o (hRA _ _ hr),λhn=>by omega⟩
   ·have gg:=hLs j bj hj hbj
    obtain⟨h0,h1,h2⟩:=hv.2 bj gg
    refine⟨h0,h1,λhn=>?_⟩
    obtain⟨h3,h4,h5⟩:=h2 hn
    refine⟨h3,h4,?_⟩
    rw[resolve_congr π bj.t bj.m bj.x (cg j) (Sg j) none (h.lab j bj gg) h3 (by rw[h4];rfl) (kN j bj hj gg)]
    exact h5
end
section
variable {P:Program} {B:dh} {F:ae} {Sg:Nat->ae} {cg:Nat->List Value} {σ:St} {a:Act} {w:World}
theorem aJ.iH(h:aJ B F Sg cg σ a w){w':World}(ho:w'.os=w.os)(ht:w'.tape=w.tape)(hou:w'.output=w.output)(hs:w.heap.size<=w'.heap.size){l:Nat}{b:Lab}(hU:σ.U l=false)(L':Nat->Option Lab)
 (hb:∀ k,k<w.heap.size->¬(∃ l2 b2,σ.L l2=some b2/\L' l2=none/\Sg l2 k)->w'.heap[k]?=w.heap[k]?) {cs:List Value} {S2:ae} (bh:Rep F w' b.t b.m b.x cs S2) (hLl:L' l=some b) (hL:∀ j,j≠l->L' j=none\/L' j=σ.L j)
 (hS2:∀ k,S2 k->(∀ j bj,j≠l->L' j=some bj->¬Sg j k)/\¬F k/\k<w'.heap.size/\(k<B.w0.heap.size->B.S0 k)):
 aJ B F (λj=>if j=l then S2 else Sg j) (λj=>if j=l then cs else cg j) {σ with L:=L',U:=λj=>Nat.beq j l||σ.U j} a w':=by
 have hLn:σ.L l=none:=by
  cases hl:σ.L l with
  |none=>rfl
  |some b=>have:=h.used l b hl;rw[hU]at this;cases this
 have hLs:∀ j bj,j≠l->L' j=some bj->σ.L j=some bj:=λj bj hj hb=>by
  rcases hL j hj with e|e
  ·rw[e]at hb;cases hb
  ·rw[<-e];exact hb
 have hFw:∀ k,F k->w'.heap[k]?=w.heap[k]?:=λk hk=>hb k (h.fl k hk) (λ⟨l2,b2,h1,_,h3⟩=>h.dG l2 b2 h1 k h3 hk)
 have kN:∀ j bj,j≠l->L' j=some bj->∀ k,Sg j k->w'.heap[k]?=w.heap[k]?:=λj bj hj hbj k hk=>by
  have gg:=hLs j bj hj hbj
  refine hb k (h.lt j bj gg k hk) (λ⟨l2,b2,h1,h2,h3⟩=>?_)
  by_cases e:l2=j
  ·subst e;rw[h2]at hbj;cases hbj
  ·exact h.dis l2 j b2 bj e h1 gg k h3 hk
 have qf:∀ j bj,j≠l->L' j=some bj->Dis S2 (Sg j):=by
  intro j bj hj hbj k h2 hk
  exact(hS2 k h2).1 j bj hj hbj hk
 refine
 {fr:=⟨ho.trans h.fr.os,ht.trans h.fr.tape,hou.trans h.fr.output,bn h.fr.size hs,λk hk hn=>(hb k (bc hk h.fr.size) (λ⟨l2,b2,h1,_,h3⟩=>hn (h.may l2 b2 h1 k h3 hk))).trans (h.fr.block k hk hn)⟩
  size:=h.size
  defers:=h.defers
  f0:=h.f0
  fl:=λk hk=>bc (h.fl k hk) hs
  fs:=h.fs
  lab:=?_
  dis:=?_
  dG:=?_
  lt:=?_
  may:=?_
  used:=?_
  fix:=λl' cs' hf=>by
   have hne:l'≠l:=λe=>by have:=(h.fix l' cs' hf).1.1;rw[e,hU]at this;cases this
   refine⟨⟨by simp[(h.fix l' cs' hf).1.1],(h.fix l' cs' hf).1.2⟩,λb2 hb2=>?_⟩
   simp only[if_neg hne]
   exact(h.fix l' cs' hf).2 b2 (hLs l' b2 hne hb2)
  ent:=?_}
 ·intro j bj hbj
  simp only at hbj
  by_cases hj:j=l
  ·subst hj;rw[hLl]at hbj;injection hbj with hbj;subst hbj;rw[if_pos rfl,if_pos rfl];exact bh
  ·rw[if_neg hj,if_neg hj];exact aP (Sub.refl _) hFw _ _ _ _ _ _ (h.lab j bj (hLs j bj hj hbj)) (Sub.refl _) (kN j bj hj hbj)
 ·intro i j bi bj hij hbi hbj
  simp only at hbi hbj
  by_cases hi:i=l
  ·subst hi;rw[if_pos rfl,if_neg (Ne.symm hij)];exact qf j bj (Ne.symm hij) hbj
  ·by_cases hj:j=l
   ·subst hj;rw[if_neg hi,if_pos rfl];exact(qf i bi hi hbi).symm
   ·rw[if_neg hi,if_neg hj];exact h.dis i j bi bj hij (hLs i bi hi hbi) (hLs j bj hj hbj)
 ·intro j bj hbj
  simp only at hbj
  by_cases hj:j=l
  ·subst hj;rw[if_pos rfl]
   intro k h2 hf
   exact(hS2 k h2).2.1 hf
  ·rw[if_neg hj];exact h.dG j bj (hLs j bj hj hbj)
 ·intro j bj hbj k hk
  simp only at hbj
  by_cases hj:j=l
  ·subst hj;rw[if_pos rfl]at hk
   exact(hS2 k hk).2.2.1
  ·rw[if_neg hj]at hk;exact bc (h.lt j bj (hLs j bj hj hbj) k hk) hs
 ·intro j bj hbj k hk hlt
  simp only at hbj
  by_cases hj:j=l
  ·subst hj;rw[if_pos rfl]at hk
   exact(hS2 k hk).2.2.2 hlt
  ·rw[if_neg hj]at hk;exact h.may j bj (hLs j bj hj hbj) k hk hlt
 ·intro j bj hbj
  simp only at hbj |-
  by_cases hj:j=l
  ·subst hj;simp[cr]
  ·rw[h.used j bj (hLs j bj hj hbj)];simp
 ·intro t e he
  refine(h.ent t e he).imp λe v hv=>?_
  have old:∀ j,σ.U j=true->j≠l:=λj hu e=>by subst e;rw[hU]at hu;cases hu
  cases e with
  |val t x=>
   obtain⟨cs,h1,h2⟩:=hv
   exact⟨cs,aP (Sub.refl _) hFw t .ro x cs _ _ h1 (Sub.refl _) (λ_ h=>h.elim),h2⟩
  |cst u=>exact hv
  |view j te lo hi=>
   have hj:=old j hv.1
   refine⟨by simp[hv.1],λbj hbj=>?_⟩
   have hbj:L' j=some bj:=hbj
   simp only[if_neg hj]
   exact hv.2 bj (hLs j bj hj hbj)
  |jF t x=>
   obtain⟨ad,ds,h1,h2,h3,h4⟩:=hv
   exact⟨ad,ds,h1,h2,h3.congr (hFw _ h2),aP (Sub.refl _) hFw t .ro x ds _ _ h4 (Sub.refl _) (λ_ h=>h.elim)⟩
  |hdr j n π c=>
   have hj:=old j hv.1
   refine⟨by simp[hv.1],λbj hbj=>?_⟩
   have hbj:L' j=some bj:=hbj
   obtain⟨h0,h1,h2⟩:=hv.2 bj (hLs j bj hj hbj)
   simp only[if_neg hj]
   refine⟨h0,h1,λhn=>?_⟩
   obtain⟨h3,h4,h5⟩:=h2 hn
   refine⟨h3,h4,?_⟩
   rw[resolve_congr π bj.t bj.m bj.x (cg j) (Sg j) none (h.lab j bj (hLs j bj hj hbj)) h3 (by rw[h4];rfl) (kN j bj hj hbj)]
   exact h5
  |adr j n π c=>
   have hj:=old j hv.1
   refine⟨by simp[hv.1],λbj hbj=>?_⟩
   have hbj:L' j=some bj:=hbj
   obtain⟨h0,h1,h2⟩:=hv.2 bj (hLs j bj hj hbj)
   simp only[if_neg hj]
   refine⟨h0,h1,λhn=>?_⟩
   obtain⟨h3,h4,h5⟩:=h2 hn
   refine⟨h3,h4,?_⟩
   rw[resolve_congr π bj.t bj.m bj.x (cg j) (Sg j) none (h.lab j bj (hLs j bj hj hbj)) h3 (by rw[h4];rfl) (kN j bj hj hbj)]
   exact h5
theorem aJ.freeze(h:aJ B F Sg cg σ a w){l:Nat}{b:Lab}(hl:σ.L l=some b):aJ B (F.or (Sg l)) Sg cg {σ with L:=upd σ.L l none} a w:=by
 have hLs:∀ j bj,upd σ.L l none j=some bj->j≠l/\σ.L j=some bj:=λj bj hb=>by
  rcases eO hb with⟨_,e⟩|e
  ·cases e
  ·exact e
 have hF:Sub F (F.or (Sg l)):=λk h=>.inl h
 refine
 {fr:=h.fr
  size:=h.size
  defers:=h.defers
  f0:=h.f0.trans hF
  fl:=λk hk=>hk.elim (h.fl k) (h.lt l b hl k)
  fs:=λk hk h1 h2=>hk.elim (λhk=>h.fs k hk h1 h2) (λhk=>absurd (h.may l b hl k hk h1) h2)
  lab:=λj bj hbj=>aP hF (λ_ _=>rfl) _ _ _ _ _ _ (h.lab j bj (hLs j bj hbj).2) (Sub.refl _) (λ_ _=>rfl)
  dis:=λi j bi bj hij hbi hbj=>h.dis i j bi bj hij (hLs i bi hbi).2 (hLs j bj hbj).2
  dG:=λj bj hbj k hk hf=>hf.elim (h.dG j bj (hLs j bj hbj).2 k hk) (λhf=>h.dis j l bj b (hLs j bj hbj).1 (hLs j bj hbj).2 hl k hk hf)
  lt:=λj bj hbj=>h.lt j bj (hLs j bj hbj).2
  may:=λj bj hbj=>h.may j bj (hLs j bj hbj).2
  used:=λj bj hbj=>h.used j bj (hLs j bj hbj).2
  fix:=λj cs' hf=>⟨(h.fix j cs' hf).1,λb2 hb2=>(h.fix j cs' hf).2 b2 (hLs j b2 hb2).2⟩
  ent:=?_}
 intro t e he
 refine(h.ent t e he).imp λe v hv=>?_
 cases e with
 |val t x=>obtain⟨cs,h1,h2⟩:=hv;exact⟨cs,aP hF (λ_ _=>rfl) t .ro x cs _ _ h1 (Sub.refl _) (λ_ h=>h.elim),h2⟩
 |cst u=>exact hv
 |jF t x=>obtain⟨ad,ds,h1,h2,h3,h4⟩:=hv;exact⟨ad,ds,h1,.inl h2,h3,aP hF (λ_ _=>rfl) t .ro x ds _ _ h4 (Sub.refl _) (λ_ h=>h.elim)⟩
 |hdr j n π c=>exact⟨hv.1,λbj hbj=>hv.2 bj (hLs j bj hbj).2⟩
 |adr j n π c=>exact⟨hv.1,λbj hbj=>hv.2 bj (hLs j bj hbj).2⟩
 |view j te lo hi=>exact⟨hv.1,λbj hbj=>hv.2 bj (hLs j bj hbj).2⟩
def zM:Ty->Md
 |.sl _=>.own .ro
 |.pair a b=>.pr (zM a) (zM b)
 |.st t=>zM t
 |.ptr _=>.own .ro
 |_=>.ro
theorem sR:∀ (t:Ty),okM t (zM t)=true:=by
 intro t
 induction t with
 |pair a b iha ihb=>simp[okM,zM,Md.fst,Md.snd,iha,ihb]
 |st t ih=>exact ih
 |arr n t ih=>exact wW t
 |_=>rfl
def qg(e:aj)(u:Ty):Md:=match e with|.cst _=>zM u|_=>.ro
theorem mU{R:Type}{L:Nat->Option Lab}{U:Nat->Bool}{e:aj}{want:Ty}{K:want.T->Option R}{r:R}(h:asT e want K=some r){v:Value}(he:aw F w L U cg e v):
 ∃ x cs,K x=some r/\Rep F w want (qg e want) x cs ae.none/\VR want cs v:=by
 unfold asT at h
 split at h
 ·rename_i t x
  split at h
  ·rename_i ht
   subst ht
   obtain⟨cs,h1,h2⟩:=he
   exact⟨x,cs,h,h1,h2⟩
  ·cases h
 ·rename_i u
  have hv:v=u:=he
  subst hv
  cases hb:vrC want v
  ·rw[hb]at h;cases h
  ·rw[hb]at h
   simp only[cond_true]at h
   cases hc:rdC want v.cells.toList with
   |none=>rw[hc]at h;cases h
   |some x=>rw[hc]at h;exact⟨x,_,h,p8 _ _ _ _ (by unfold qg;exact sR _) hc,Bu hb⟩
 ·cases h
theorem mV:∀ (π:List Stp) (t:Ty) (m m' r:Md),fy t m π m'=some r->mQ t m π m' r:=by
 intro π
 induction π with
 |nil=>intro t m m' r h;cases t <;> (simp only[fy,aW]at h;exact h.symm)
 |cons p π ih=>
  intro t m m' r h
  cases t <;> cases p <;> simp only[fy,reduceCtorEq]at h <;> simp only[mQ]
  case st.st=>exact ih _ _ _ _ h
  case pair.fst=>
   split at h
   ·rename_i q hq
    injection h with h
    refine⟨q,ih _ _ _ _ hq,?_⟩
    split at h
    ·rename_i hq2;exact .inl ⟨h.symm,hq2⟩
    ·exact .inr h.symm
   ·cases h
  case pair.snd=>
   split at h
   ·rename_i q hq
    injection h with h
    refine⟨q,ih _ _ _ _ hq,?_⟩
    split at h
    ·rename_i hq2;exact .inl ⟨h.symm,hq2⟩
    ·exact .inr h.symm
   ·cases h
  case sl.idx=>
   split at h
   ·split at h
    ·rename_i q hq
     split at h
     ·rename_i hq2;subst hq2;injection h with h;exact⟨_,rfl,ih _ _ _ _ hq,h.symm⟩
     ·cases h
    ·cases h
   ·cases h
  case arr.ai=>
   split at h
   ·rename_i q hq
    split at h
    ·rename_i hq2;injection h with h;exact⟨by have:=ih _ _ _ _ hq;rw[hq2]at this;exact this,h.symm⟩
    ·cases h
   ·cases h
  case box.deref=>
   split at h
   ·split at h
    ·rename_i q hq;injection h with h;exact⟨_,_,rfl,ih _ _ _ _ hq,h.symm⟩
    ·cases h
   ·cases h
  case ptr.deref=>
   split at h
   ·split at h
    ·rename_i q hq;injection h with h;exact⟨_,_,rfl,ih _ _ _ _ hq,h.symm⟩
    ·cases h
   ·cases h
def St.iI(σ:St)(L:Nat->Option Lab):St:={σ with L:=L}
def j7{R:Type}(d:TD)(σ:St)(ep ev:aj)(K:St->Option R):Option R:=
 plc σ ep λl b π c=>
  bif decide (c.t=d.ty)&&c.t.vty then
   (match ev with
   |.hdr l2 _ π2 _=>bif π2.isEmpty&&!(Nat.beq l l2)then(match σ.L l2 with
    |some b2=>match fy b.t b.m π b2.m with
     |some mr=>gu b.t b.x π b2.t b2.x λx'=>bif decide (b2.t=c.t)then K (σ.iI (upd (upd σ.L l2 none) l (some ⟨b.v+1,b.t,mr,x'⟩)))else none
     |none=>none
    |none=>none)else none
   |ev=>asT ev c.t λy=>match fy b.t b.m π (bif c.t.flat then atM b.t b.m π else qg ev c.t)with
    |some mr=>gu b.t b.x π c.t y λx'=>K (σ.iI (upd σ.L l (some ⟨b.v+1,b.t,mr,x'⟩)))
    |none=>none)
  else none
theorem zu(h:aJ B F Sg cg σ a w){R:Type}{t:TypeId}{d:TD}(hd:TOk P t d){ep ev:aj}{K:St->Option R}{r:R}(hk:j7 d σ ep ev K=some r){vp v:Value}(hp:aw F w σ.L σ.U cg ep vp)(hv:aw F w σ.L σ.U cg ev v):
 ∃ σ' w' Sg',K σ'=some r/\(Instr.storeAt t vp v).run P w=.ok () w'/\aJ B F Sg' cg σ' a w'/\σ'.E=σ.E:=by
 unfold j7 at hk
 obtain⟨l,b,π,c,hl,hk,hc,hg,ho,ds,p,o,S',rfl,h1,h2,h3,h4⟩:=oB h hk hp
 cases hud:decide (c.t=d.ty)&&c.t.vty
 ·rw[hud]at hk;cases hk
 rw[hud]at hk
 simp only[cond_true]at hk
 simp only[ag,decide_eq_true_eq]at hud
 obtain⟨hct,hvt⟩:=hud
 obtain⟨hSp,hnp,eN,jZ⟩:=h4
 have hdl:=aL _ _ _ _ _ _ _ h2
 -- the HI end
 have fin:∀ (es:List Value) (y:c.t.T) (m' mr:Md) (x':b.t.T) (Rw:ae) (L':Nat->Option Lab),Rep F w c.t m' y es Rw->VR c.t es v->mQ b.t b.m π m' mr->gV b.t b.x π c.t y=some x'->
  (∀ k,Rw k->∃ l2 b2,l2≠l/\σ.L l2=some b2/\L' l2=none/\Sg l2 k)->L' l=some ⟨b.v+1,b.t,mr,x'⟩->(∀ j,j≠l->L' j=none\/L' j=σ.L j)->
  ∃ w' Sg',(Instr.storeAt t (.pointer (some ⟨p,o,none⟩)) v).run P w=.ok () w'/\aJ B F Sg' cg (σ.iI L') a w':=by
  intro es y m' mr x' Rw L' hy hv hM cS hR hLl hL
  have hel:=aL _ _ _ _ _ _ _ hy
  have qh:es.length=ds.length:=by rw[hel,hdl]
  obtain⟨u1,u2,u3,u4,u5,u6⟩:=qe eN qh
  have bE:=mF eN hd hv.cells (by rw[hel,hct]) qh (mR _ _ _ _ _ hy)
  have hRp:¬Rw p:=λhrp=>by
   obtain⟨l2,b2,hne,hb2,_,hk2⟩:=hR p hrp
   exact h.dis l2 l b2 b hne hb2 hl p hk2 hSp
  have hFp:∀ k,F k->k≠p:=λk hk e=>h.dG l b hl p hSp (e ▸ hk)
  have hy':Rep F (w.setCells p o es) c.t m' y es Rw:=aP (Sub.refl _) (λk hk=>u2 k (hFp k hk)) _ _ _ _ _ _ hy (Sub.refl _) (λk hk=>u2 k (λe=>hRp (e ▸ hk)))
  have bh:=jZ F (w.setCells p o es) y es Rw x' m' mr hM (Sub.refl _) cS hy' qh
   (λk hk hs=>by obtain⟨l2,b2,hne,hb2,_,hk2⟩:=hR k hk;exact(h.dis l2 l b2 b hne hb2 hl k hk2 hs).elim)
   (λk _ _ hne=>u2 k hne) u1 (λk hk=>u2 k (hFp k hk))
  refine⟨_,_,bE,h.pj u4 u5 u6 (by rw[u3];exact ar _) hl (λk _ hn=>u2 k (λe=>hn (e ▸ hSp))) (b':=⟨b.v+1,b.t,mr,x'⟩) (λ_ h=>h) (λ_ _ h=>h) (cG _) (Sub.refl _) bh L' hLl hL (λk hk=>.inl hk) (λk hk=>?_)⟩
  rcases hk with hk|hk
  ·exact .inl hk.1
  ·exact .inr (.inl (hR k hk))
 split at hk
 ·rename_i l2 n2 π2 c2 _hk0
  cases hb:π2.isEmpty&&!(Nat.beq l l2)
  ·rw[hb]at hk;cases hk
  rw[hb]at hk
  simp only[cond_true]at hk
  simp only[ag,bq]at hb
  have hp2:π2=[]:=by cases π2 <;> simp_all
  subst hp2
  have hne:l≠l2:=λe=>by subst e;simp[cr]at hb
  cases hl2:σ.L l2 with
  |none=>rw[hl2]at hk;cases hk
  |some b2=>
  rw[hl2]at hk
  simp only at hk
  cases hM:fy b.t b.m π b2.m with
  |none=>rw[hM]at hk;cases hk
  |some mr=>
  rw[hM]at hk
  simp only at hk
  rw[gH]at hk
  obtain⟨x',cS,hk'⟩:=bN.1 hk
  cases hud:decide (b2.t=c.t)
  ·rw[hud]at hk';cases hk'
  rw[hud]at hk'
  simp only[cond_true]at hk'
  have hud:=of_decide_eq_true hud
  have hv2:=(hv.2 b2 hl2).2.1 rfl
  have kC:=h.lab l2 b2 hl2
  obtain⟨v2,t2,m2,x2⟩:=b2
  simp only at hud hM cS hv2 kC
  subst hud
  obtain⟨w',Sg',e1,e2⟩:=fin (cg l2) x2 m2 mr x' (Sg l2) (upd (upd σ.L l2 none) l (some ⟨b.v+1,b.t,mr,x'⟩)) kC hv2 (mV _ _ _ _ _ hM) cS
   (λk hk=>⟨l2,_,Ne.symm hne,hl2,by rw[aI _ _ (Ne.symm hne),ay],hk⟩) (ay _ _ _)
   (λj hj=>by
    rw[aI _ _ hj]
    by_cases e:j=l2
    ·subst e;rw[ay];exact .inl rfl
    ·rw[aI _ _ e];exact .inr rfl)
  exact⟨_,w',Sg',hk',e1,e2,rfl⟩
 ·skip
  obtain⟨y,es,hk,hy,hvr⟩:=mU hk hv
  cases hM:fy b.t b.m π (bif c.t.flat then atM b.t b.m π else qg ev c.t)with
  |none=>rw[hM]at hk;cases hk
  |some mr=>
  rw[hM]at hk
  simp only at hk
  rw[gH]at hk
  obtain⟨x',cS,hk⟩:=bN.1 hk
  have hy':Rep F w c.t (bif c.t.flat then atM b.t b.m π else qg ev c.t) y es ae.none:=by
   cases hf:c.t.flat
   ·exact hy
   ·exact jE _ hf _ _ _ _ _ _ hy
  obtain⟨w',Sg',e1,e2⟩:=fin es y _ mr x' ae.none (upd σ.L l (some ⟨b.v+1,b.t,mr,x'⟩)) hy' hvr (mV _ _ _ _ _ hM) cS (λk hk=>hk.elim) (ay _ _ _) (λj hj=>by rw[aI _ _ hj];exact .inr rfl)
  exact⟨_,w',Sg',hk,e1,e2,rfl⟩
end
def cf:(t:Ty)->t.T->List Stp->V->Option V
 |_,_,[],c=>some c
 |.st t,x,.st::π,c=>match cf t x π c with|some v=>some ⟨.st v.t,v.x⟩|none=>none
 |.pair a b,x,.fst::π,c=>match cf a x.1 π c with|some v=>some ⟨.pair v.t b,(v.x,x.2)⟩|none=>none
 |.pair a b,x,.snd::π,c=>match cf b x.2 π c with|some v=>some ⟨.pair a v.t,(x.1,v.x)⟩|none=>none
 |.box t,x,.deref::π,c=>match cf t x π c with|some v=>some ⟨.box v.t,v.x⟩|none=>none
 |_,_,_::_,_=>none
def ff:Md->List Stp->Md->Md
 |_,[],m'=>m'
 |m,.st::π,m'=>ff m π m'
 |m,.fst::π,m'=>.pr (ff m.fst π m') m.snd
 |m,.snd::π,m'=>.pr m.fst (ff m.snd π m')
 |m,.deref::π,m'=>.own (ff m.el π m')
 |m,_::_,_=>m
def Le(F:ae)(w:World)(t:Ty)(m:Md)(x:t.T)(cs:List Value)(S:ae)(s:Option (Nat×Nat))(π:List Stp)(ds:List Value)(s':Option (Nat×Nat))(S':ae):Prop:=
 (∃ pre post,cs=pre++ds++post/\s'=s.map (λp=>(p.1,p.2+pre.length))/\
  ∀ F' w' (c:V) es R v' m',cf t x π c=some v'->Sub F F'->Rep F' w' c.t m' c.x es R->es.length=ds.length->(∀ k,R k->S k->S' k)->
   (∀ k,S k->¬S' k->w'.heap[k]?=w.heap[k]?)->(∀ k,F k->w'.heap[k]?=w.heap[k]?)->
   Rep F' w' v'.t (ff m π m') v'.x (pre++es++post) (λk=>(S k/\¬S' k)\/R k))\/
 (∃ b o,s'=some (b,o)/\S b/\¬S' b/\ov w b o ds/\
  ∀ F' w' (c:V) es R v' m',cf t x π c=some v'->Sub F F'->Rep F' w' c.t m' c.x es R->es.length=ds.length->(∀ k,R k->S k->S' k)->
   (∀ k,S k->¬S' k->k≠b->w'.heap[k]?=w.heap[k]?)->Upd w w' b o ds es->(∀ k,F k->w'.heap[k]?=w.heap[k]?)->
   Rep F' w' v'.t (ff m π m') v'.x cs (λk=>(S k/\¬S' k)\/R k))
theorem BD(F:ae)(w:World):∀ (π:List Stp) (t:Ty) (m:Md) (x:t.T) (cs:List Value) (S:ae) (s:Option (Nat×Nat)) (c:V),
 Rep F w t m x cs S->get? t x π=some c->cV t m π=true->(∃ c' v,cf t x π c'=some v)->
 ∃ ds s' S',resolve w t cs s π=some (ds,s')/\Rep F w c.t (atM t m π) c.x ds S'/\Sub S' S/\Le F w t m x cs S s π ds s' S':=by
 intro π
 induction π with
 |nil=>
  intro t m x cs S s c h hg _ _
  rw[eA]at hg
  injection hg with hg
  subst hg
  refine⟨cs,s,S,ek _ _ _ _,?_,Sub.refl _,.inl ⟨[],[],by simp,?_,?_⟩⟩
  ·cases t <;> exact h
  ·cases s <;> rfl
  ·intro F' w' c es R v' m' hs _ hy _ _ _ _
   have hx:v'=c:=by cases t <;> (simp only[cf,aW]at hs;exact hs.symm)
   subst hx
   have hm:ff m [] m'=m':=by cases m <;> rfl
   rw[hm]
   simp only[bJ,cQ]
   exact pZ hy (λk h=>Or.inr h)
 |cons p0 π ih=>
  intro t m x cs S s c h hg ho hx
  unfold get? at hg
  obtain⟨c0,v0,hx⟩:=hx
  cases t <;> cases p0 <;> simp only[eM,reduceCtorEq]at hg <;> simp only[cf,reduceCtorEq]at hx
  case st.st t=>
   simp only[cV]at ho
   have hx':∃ c' v,cf t x π c'=some v:=by
    split at hx
    ·exact⟨_,_,by assumption⟩
    ·cases hx
   obtain⟨ds,s',S',h1,h2,h3,h4⟩:=ih t m x cs S s c h hg ho hx'
   refine⟨ds,s',S',h1,h2,h3,?_⟩
   have key:∀ {c:V} {v':V},cf (.st t) x (.st::π) c=some v'->∃ v,cf t x π c=some v/\v'=⟨.st v.t,v.x⟩:=by
    intro c v' hs
    simp only[cf]at hs
    split at hs
    ·rename_i v hv;injection hs with hs;exact⟨v,hv,hs.symm⟩
    ·cases hs
   rcases h4 with⟨pre,post,e1,e2,w2⟩|⟨b,o,e1,e2,e3,e4,w2⟩
   ·refine .inl ⟨pre,post,e1,e2,?_⟩
    intro F' w' c es R v' m' hs hF hy he hR hS hFw
    obtain⟨v,hv,rfl⟩:=key hs
    exact w2 F' w' c es R v m' hv hF hy he hR hS hFw
   ·refine .inr ⟨b,o,e1,e2,e3,e4,?_⟩
    intro F' w' c es R v' m' hs hF hy he hR hS hU hFw
    obtain⟨v,hv,rfl⟩:=key hs
    exact w2 F' w' c es R v m' hv hF hy he hR hS hU hFw
  case pair.fst a b=>
   obtain⟨c1,c2,S1,S2,rfl,h1,h2,s1,s2,d⟩:=h
   simp only[cV]at ho
   have hx':∃ c' v,cf a x.1 π c'=some v:=by
    split at hx
    ·exact⟨_,_,by assumption⟩
    ·cases hx
   have hcl:=aL _ _ _ _ _ _ _ h1
   obtain⟨ds,s',S',bR,bh,s3,fm⟩:=ih a m.fst x.1 c1 S1 s c h1 hg ho hx'
   have key:∀ {c:V} {v':V},cf (.pair a b) x (.fst::π) c=some v'->∃ v,cf a x.1 π c=some v/\v'=⟨.pair v.t b,(v.x,x.2)⟩:=by
    intro c v' hs
    simp only[cf]at hs
    split at hs
    ·rename_i v hv;injection hs with hs;exact⟨v,hv,hs.symm⟩
    ·cases hs
   refine⟨ds,s',S',?_,bh,s3.trans s1,?_⟩
   ·simp only[resolve];rw[et hcl];exact bR
   ·rcases fm with⟨dK,cJ,rfl,rfl,w2⟩|⟨b2,o2,rfl,hb2,ow,hl2,w2⟩
    ·refine .inl ⟨dK,cJ++c2,by simp,rfl,?_⟩
     intro F' w' c es R v' m' hs hF hy he hR hS hFw
     obtain⟨z,hz,rfl⟩:=key hs
     refine⟨dK++es++cJ,c2,λk=>(S1 k/\¬S' k)\/R k,S2,by simp,?_,?_,?_,?_,?_⟩
     ·exact w2 F' w' c es R z m' hz hF hy he (λk a b=>hR k a (s1 k b)) (λk a b=>hS k (s1 k a) b) hFw
     ·exact aP hF hFw _ _ _ _ _ _ h2 (Sub.refl _) (λk hk=>hS k (s2 k hk) (λh'=>d k (s3 k h') hk))
     ·exact λk hk=>hk.imp (λh=>⟨s1 k h.1,h.2⟩) id
     ·exact λk hk=>.inl ⟨s2 k hk,λh'=>d k (s3 k h') hk⟩
     ·exact λk a b=>a.elim (λa=>d k a.1 b) (λa=>d k (s3 k (hR k a (s2 k b))) b)
    ·refine .inr ⟨b2,o2,rfl,s1 _ hb2,ow,hl2,?_⟩
     intro F' w' c es R v' m' hs hF hy he hR hS hU hFw
     obtain⟨z,hz,rfl⟩:=key hs
     refine⟨c1,c2,λk=>(S1 k/\¬S' k)\/R k,S2,rfl,?_,?_,?_,?_,?_⟩
     ·exact w2 F' w' c es R z m' hz hF hy he (λk a b=>hR k a (s1 k b)) (λk a b c=>hS k (s1 k a) b c) hU hFw
     ·exact aP hF hFw _ _ _ _ _ _ h2 (Sub.refl _) (λk hk=>hS k (s2 k hk) (λh'=>d k (s3 k h') hk) (λe=>d k (e ▸ hb2) hk))
     ·exact λk hk=>hk.imp (λh=>⟨s1 k h.1,h.2⟩) id
     ·exact λk hk=>.inl ⟨s2 k hk,λh'=>d k (s3 k h') hk⟩
     ·exact λk a b=>a.elim (λa=>d k a.1 b) (λa=>d k (s3 k (hR k a (s2 k b))) b)
  case pair.snd a b=>
   obtain⟨c1,c2,S1,S2,rfl,h1,h2,s1,s2,d⟩:=h
   simp only[cV]at ho
   have hx':∃ c' v,cf b x.2 π c'=some v:=by
    split at hx
    ·exact⟨_,_,by assumption⟩
    ·cases hx
   have hcl:=aL _ _ _ _ _ _ _ h1
   obtain⟨ds,s',S',bR,bh,s3,fm⟩:=ih b m.snd x.2 c2 S2 (s.map λp=>(p.1,p.2+a.width)) c h2 hg ho hx'
   have key:∀ {c:V} {v':V},cf (.pair a b) x (.snd::π) c=some v'->∃ v,cf b x.2 π c=some v/\v'=⟨.pair a v.t,(x.1,v.x)⟩:=by
    intro c v' hs
    simp only[cf]at hs
    split at hs
    ·rename_i v hv;injection hs with hs;exact⟨v,hv,hs.symm⟩
    ·cases hs
   refine⟨ds,s',S',?_,bh,s3.trans s2,?_⟩
   ·simp only[resolve];rw[gw hcl];exact bR
   ·rcases fm with⟨dK,cJ,rfl,rfl,w2⟩|⟨b2,o2,rfl,hb2,ow,hl2,w2⟩
    ·refine .inl ⟨c1++dK,cJ,by simp,?_,?_⟩
     ·cases s with
      |none=>rfl
      |some p=>simp[hcl,bV]
     intro F' w' c es R v' m' hs hF hy he hR hS hFw
     obtain⟨z,hz,rfl⟩:=key hs
     refine⟨c1,dK++es++cJ,S1,λk=>(S2 k/\¬S' k)\/R k,by simp,?_,?_,?_,?_,?_⟩
     ·exact aP hF hFw _ _ _ _ _ _ h1 (Sub.refl _) (λk hk=>hS k (s1 k hk) (λh'=>d k hk (s3 k h')))
     ·exact w2 F' w' c es R z m' hz hF hy he (λk a b=>hR k a (s2 k b)) (λk a b=>hS k (s2 k a) b) hFw
     ·exact λk hk=>.inl ⟨s1 k hk,λh'=>d k hk (s3 k h')⟩
     ·exact λk hk=>hk.imp (λh=>⟨s2 k h.1,h.2⟩) id
     ·exact λk a b=>b.elim (λb=>d k a b.1) (λb=>d k a (s3 k (hR k b (s1 k a))))
    ·refine .inr ⟨b2,o2,rfl,s2 _ hb2,ow,hl2,?_⟩
     intro F' w' c es R v' m' hs hF hy he hR hS hU hFw
     obtain⟨z,hz,rfl⟩:=key hs
     refine⟨c1,c2,S1,λk=>(S2 k/\¬S' k)\/R k,rfl,?_,?_,?_,?_,?_⟩
     ·exact aP hF hFw _ _ _ _ _ _ h1 (Sub.refl _) (λk hk=>hS k (s1 k hk) (λh'=>d k hk (s3 k h')) (λe=>d k hk (e ▸ hb2)))
     ·exact w2 F' w' c es R z m' hz hF hy he (λk a b=>hR k a (s2 k b)) (λk a b c=>hS k (s2 k a) b c) hU hFw
     ·exact λk hk=>.inl ⟨s1 k hk,λh'=>d k hk (s3 k h')⟩
     ·exact λk hk=>hk.imp (λh=>⟨s2 k h.1,h.2⟩) id
     ·exact λk a b=>b.elim (λb=>d k a b.1) (λb=>d k a (s3 k (hR k b (s1 k a))))
  case box.deref t=>
   simp only[cV,ag]at ho
   have hx':∃ c' v,cf t x π c'=some v:=by
    split at hx
    ·exact⟨_,_,by assumption⟩
    ·cases hx
   cases m with
   |ro=>simp[Md.ez]at ho
   |pr _ _=>simp[Md.ez]at ho
   |own m=>
    obtain⟨p,cc,e,rfl,hb,hS0,S1,hr,s1,n1⟩:=h
    have hcl:=aL F w t m x _ _ hr
    have eN:ov w p 0 cc.toList:=⟨cc,e,hb,[],[],by simp,rfl⟩
    obtain⟨ds,s',S',bR,bh,s2,fm⟩:=ih t m x cc.toList S1 (some (p,0)) c hr hg ho.2 hx'
    have hcc:=eZ eN
    rw[hcl]at hcc
    have np:¬S' p:=λh'=>n1 (s2 p h')
    have key:∀ {c:V} {v':V},cf (.box t) x (.deref::π) c=some v'->∃ v,cf t x π c=some v/\v'=⟨.box v.t,v.x⟩:=by
     intro c v' hs
     simp only[cf]at hs
     split at hs
     ·rename_i v hv;injection hs with hs;exact⟨v,hv,hs.symm⟩
     ·cases hs
    refine⟨ds,s',S',by simp only[resolve];rw[hcc];exact bR,bh,s2.trans s1,?_⟩
    rcases fm with⟨dK,cJ,hc2,rfl,w2⟩|⟨b2,o2,rfl,hb2,ow,hl2,w2⟩
    ·refine .inr ⟨p,0+dK.length,rfl,hS0,np,⟨cc,e,hb,dK,cJ,hc2,by simp⟩,?_⟩
     intro F' w' c es R v' m' hs hF hy he hR hk hU hFw
     obtain⟨z,hz,rfl⟩:=key hs
     obtain⟨c1,c',e1,l,r,hb1,hb',hc1,hc',hl⟩:=hU
     have hcc:c1=cc:=by rw[hb]at hb1;injection hb1 with hb1;injection hb1 with hb1 _ _;exact hb1.symm
     subst hcc
     have hsz:c'.size=c1.size:=by
      rw[<-aO,<-aO,hc1,hc'];simp[he]
     refine⟨p,c',e1.to (gq hsz),rfl,hb',.inl ⟨hS0,np⟩,λk=>(S1 k/\¬S' k)\/R k,?_,λk hk=>hk.imp (λh=>⟨s1 k h.1,h.2⟩) id,?_⟩
     ·have:=w2 F' w' c es R z m' hz hF hy he (λk a b=>hR k a (s1 k b)) (λk a b=>hk k (s1 k a) b (λe=>n1 (e ▸ a))) hFw
      have e3:l++(ds++r)=dK++(ds++cJ):=by rw[<-aT,<-hc1,<-aT];exact hc2
      obtain⟨k1,k2⟩:=oq e3 (by omega)
      have k3:=nX k2
      rw[hc',k1,k3]
      exact this
     ·rintro(⟨a,_⟩|a)
      ·exact n1 a
      ·exact np (hR p a hS0)
    ·refine .inr ⟨b2,o2,rfl,s1 _ hb2,ow,hl2,?_⟩
     intro F' w' c es R v' m' hs hF hy he hR hk hU hFw
     obtain⟨z,hz,rfl⟩:=key hs
     have hne:p≠b2:=λe=>n1 (e ▸ hb2)
     refine⟨p,cc,e,rfl,(hk p hS0 np hne).trans hb,.inl ⟨hS0,np⟩,λk=>(S1 k/\¬S' k)\/R k,?_,λk hk=>hk.imp (λh=>⟨s1 k h.1,h.2⟩) id,?_⟩
     ·exact w2 F' w' c es R z m' hz hF hy he (λk a b=>hR k a (s1 k b)) (λk a b c=>hk k (s1 k a) b c) hU hFw
     ·rintro(⟨a,_⟩|a)
      ·exact n1 a
      ·exact np (hR p a hS0)
def Ty.atom:Ty->Bool
 |.sl _|.box _|.ptr _|.iz|.int _|.bool|.str=>true
 |_=>false
theorem mG{t:Ty}(h:t.atom=true):t.width=1:=by cases t <;> simp[Ty.atom]at h <;> rfl
theorem rC{t:Ty}(h:t.atom=true)(cs:List Value)(p q:Nat×Nat)(ρ:List Stp)(hr:aU t cs (some p) ρ=some q):ρ=[]/\p=q:=by
 cases ρ with
 |nil=>cases t <;> (simp only[aU,aW]at hr;exact⟨rfl,hr⟩)
 |cons s ρ=>cases t <;> simp[Ty.atom]at h <;> cases s <;> simp[aU]at hr
theorem mW:∀ (ρ:List Stp) (t:Ty) (cs cs':List Value) (p q:Nat×Nat),aU t cs' (some p) ρ=some q->aU t cs (some p) ρ=some q:=by
 intro ρ
 induction ρ with
 |nil=>intro t cs cs' p q h;cases t <;> exact h
 |cons s ρ ih=>
  intro t cs cs' p q h
  cases t <;> cases s <;> simp only[aU,reduceCtorEq,cZ]at h |-
  case st.st=>exact ih _ _ _ _ _ h
  case pair.fst=>exact ih _ _ _ _ _ h
  case pair.snd=>exact ih _ _ _ _ _ h
  case arr.ai=>
   split at h
   ·rename_i hc;rw[if_pos hc];exact ih _ _ _ _ _ h
   ·cases h
theorem zw:∀ (π:List Stp) (t:Ty) (x:t.T) (c c':V) (v:V) (cs cs':List Value) (p q:Nat×Nat) (ρ:List Stp),get? t x π=some c->c.t.atom=true->c'.t.atom=true->cf t x π c'=some v->
 aU v.t cs' (some p) ρ=some q->aU t cs (some p) ρ=some q/\v.t.width=t.width:=by
 intro π
 induction π with
 |nil=>
  intro t x c c' v cs cs' p q ρ hg h1 h2 hr ha
  rw[eA]at hg
  injection hg with hg
  subst hg
  have hv:v=c':=by cases t <;> (simp only[cf,aW]at hr;exact hr.symm)
  subst hv
  obtain⟨rfl,rfl⟩:=rC h2 _ _ _ _ ha
  exact⟨by cases t <;> rfl,by rw[mG h1,mG h2]⟩
 |cons p0 π ih=>
  intro t x c c' v cs cs' p q ρ hg h1 h2 hr ha
  unfold get? at hg
  cases t <;> cases p0 <;> simp only[eM,reduceCtorEq]at hg <;> simp only[cf,reduceCtorEq]at hr
  case st.st t=>
   split at hr
   ·rename_i v2 hv2
    injection hr with hr
    subst hr
    cases ρ with
    |nil=>simp only[aU]at ha |-;exact⟨ha,(ih t x c c' v2 cs cs' p p [] hg h1 h2 hv2 (by cases v2.t <;> rfl)).2⟩
    |cons s ρ=>
     cases s <;> simp only[aU,reduceCtorEq]at ha |-
     exact ih t x c c' v2 cs cs' p q ρ hg h1 h2 hv2 ha
   ·cases hr
  case pair.fst a b=>
   split at hr
   ·rename_i v2 hv2
    injection hr with hr
    subst hr
    have hw:=(ih a x.1 c c' v2 cs cs' p p [] hg h1 h2 hv2 (by cases v2.t <;> rfl)).2
    cases ρ with
    |nil=>simp only[aU]at ha |-;exact⟨ha,by simp only[Ty.width,hw]⟩
    |cons s ρ=>
     cases s <;> simp only[aU,reduceCtorEq]at ha |-
     ·exact⟨(ih a x.1 c c' v2 _ _ p q ρ hg h1 h2 hv2 ha).1,by simp only[Ty.width,hw]⟩
     ·simp only[cZ,hw]at ha |-
      refine⟨?_,by simp only[Ty.width,hw]⟩
      have:∀ (t:Ty) (cs cs':List Value) (p q:Nat×Nat) (ρ:List Stp),aU t cs' (some p) ρ=some q->aU t cs (some p) ρ=some q:=λt cs cs' p q ρ h=>mW ρ t cs cs' p q h
      exact this _ _ _ _ _ _ ha
   ·cases hr
  case pair.snd a b=>
   split at hr
   ·rename_i v2 hv2
    injection hr with hr
    subst hr
    have hw:=(ih b x.2 c c' v2 cs cs' p p [] hg h1 h2 hv2 (by cases v2.t <;> rfl)).2
    cases ρ with
    |nil=>simp only[aU]at ha |-;exact⟨ha,by simp only[Ty.width,hw]⟩
    |cons s ρ=>
     cases s <;> simp only[aU,reduceCtorEq]at ha |-
     ·exact⟨mW ρ a _ _ _ _ ha,by simp only[Ty.width,hw]⟩
     ·simp only[cZ]at ha |-
      exact⟨(ih b x.2 c c' v2 _ _ _ q ρ hg h1 h2 hv2 ha).1,by simp only[Ty.width,hw]⟩
   ·cases hr
  case box.deref t=>
   split at hr
   ·rename_i v2 hv2
    injection hr with hr
    subst hr
    cases ρ with
    |nil=>simp only[aU]at ha |-;exact⟨ha,rfl⟩
    |cons s ρ=>cases s <;> simp only[aU,reduceCtorEq]at ha
   ·cases hr
section
variable {P:Program} {B:dh} {F:ae} {Sg:Nat->ae} {cg:Nat->List Value} {σ:St} {a:Act} {w:World}
theorem uw{p o:Nat}{ds:List Value}(h:ov w p o ds):Upd w w p o ds ds:=by
 obtain⟨c,e,hb,l,r,hc,hl⟩:=h
 exact⟨c,c,e,l,r,hb,hb,hc,hc,hl⟩
theorem BE{t0:Ty}{x:(Ty.box t0).T}{π:List Stp}{c':V}{v:V}(h:cf (.box t0) x (.deref::π) c'=some v):∃ v0,cf t0 x π c'=some v0/\v=⟨.box v0.t,v0.x⟩:=by
 simp only[cf]at h
 split at h
 ·rename_i v2 hv2;injection h with h;exact⟨v2,hv2,h.symm⟩
 ·cases h
theorem ux{t0:Ty}{x:(Ty.box t0).T}{π:List Stp}{c c' v:V}(hg:get? (.box t0) x (.deref::π)=some c)(h1:c.t.atom=true)(h2:c'.t.atom=true)(hr:cf (.box t0) x (.deref::π) c'=some v)(cs:List Value):
 (∀ u,VR (.box t0) cs u->VR v.t cs u)/\(∀ ρ q,aU v.t cs none ρ=some q->aU (.box t0) cs none ρ=some q):=by
 obtain⟨v0,hv0,rfl⟩:=BE hr
 refine⟨λu hu=>hu,λρ q ha=>?_⟩
 cases ρ with
 |nil=>simp[aU]at ha
 |cons s ρ=>
  cases s <;> simp only[aU,reduceCtorEq]at ha |-
  split at ha
  ·exact(zw π t0 x c c' v0 _ _ _ q ρ hg h1 h2 hv0 ha).1
  ·cases ha
theorem aJ.take(h:aJ B F Sg cg σ a w){l:Nat}{v0:Nat}{t0:Ty}{m0:Md}{x0:(Ty.box t0).T}(hl:σ.L l=some ⟨v0,.box t0,m0,x0⟩){π:List Stp}{c:V}(hg:get? (.box t0) x0 (.deref::π)=some c)(ho:cV (.box t0) m0 (.deref::π)=true)(hat:c.t.atom=true)
 {v':V} (hr:cf (.box t0) x0 (.deref::π) ⟨.iz,()⟩=some v') {d:Nat} (hU:σ.U d=false) (hv:∃ t',c.t=.sl t'):
 ∃ ds s Sg' cg',resolve w (.box t0) (cg l) none (.deref::π)=some (ds,s)/\
  aJ B F Sg' cg' {σ with L:=upd (upd σ.L l (some ⟨v0+1,v'.t,ff m0 (.deref::π) .ro,v'.x⟩)) d (some ⟨0,c.t,atM (.box t0) m0 (.deref::π),c.x⟩),U:=λj=>Nat.beq j d||σ.U j} a w/\cg' d=ds/\(∀ j,j≠d->cg' j=cg j):=by
 obtain⟨ds,s',S',h1,h2,h3,h4⟩:=BD F w (.deref::π) (.box t0) m0 x0 (cg l) (Sg l) none c (h.lab l _ hl) hg ho ⟨_,_,hr⟩
 obtain⟨⟨p,o⟩,rfl⟩:=gK (.deref::π) _ _ _ _ _ rfl h1
 have hdl:l≠d:=λe=>by subst e;rw[h.used l _ hl]at hU;cases hU
 obtain⟨z,rfl,hz⟩:∃ z,ds=[z]/\z.oneCell'=true:=by
  obtain⟨t',ht⟩:=hv
  obtain⟨ct,cx⟩:=c
  simp only at ht
  subst ht
  exact eB rfl h2
 rcases h4 with⟨_,_,_,h5,_⟩|⟨p',o',h5,hSp,hnp,eN,jZ⟩
 ·simp at h5
 injection h5 with h5
 injection h5 with e1 e2
 subst e1;subst e2
 have bh:=jZ F w ⟨.iz,()⟩ [z] ae.none v' .ro hr (Sub.refl _) ⟨z,rfl,hz⟩ rfl (λk hk=>hk.elim) (λ_ _ _ _=>rfl) (uw eN) (λ_ _=>rfl)
 have qi:=ux hg hat rfl hr (cg l)
 have i1:=h.pj rfl rfl rfl (ar _) hl (λ_ _ _=>rfl) (b':=⟨v0+1,v'.t,ff m0 (.deref::π) .ro,v'.x⟩) qi.1 qi.2 (cG _) (Sub.refl _) bh (upd σ.L l (some ⟨v0+1,v'.t,ff m0 (.deref::π) .ro,v'.x⟩)) (ay _ _ _) (λj hj=>by rw[aI _ _ hj];exact .inr rfl) (λk hk=>.inl hk)
  (λk hk=>by rcases hk with hk|hk;exact .inl hk.1;exact hk.elim)
 have i2:=i1.iH (w':=w) rfl rfl rfl (ar _) (l:=d) (b:=⟨0,c.t,atM (.box t0) m0 (.deref::π),c.x⟩) hU (upd (upd σ.L l (some ⟨v0+1,v'.t,ff m0 (.deref::π) .ro,v'.x⟩)) d (some ⟨0,c.t,atM (.box t0) m0 (.deref::π),c.x⟩)) (λ_ _ _=>rfl) h2 (ay _ _ _)
  (λj hj=>by rw[aI _ _ hj];exact .inr rfl)
  (λk hk=>⟨λj bj hj hbj hs=>by
   rw[aI _ _ hj]at hbj
   by_cases e:j=l
   ·subst e;rw[if_pos rfl]at hs;rcases hs with hs|hs;exact hs.2 hk;exact hs.elim
   ·rw[if_neg e]at hs;rw[aI _ _ e]at hbj;exact h.dis j l bj _ e hbj hl k hs (h3 k hk),
   λhf=>h.dG l _ hl k (h3 k hk) hf,h.lt l _ hl k (h3 k hk),h.may l _ hl k (h3 k hk)⟩)
 refine⟨[z],some (p,o),_,_,h1,i2,by simp,λj hj=>by simp[hj]⟩
def w5:Ty->Bool
 |.iz=>true
 |_=>false
def sS{R:Type}(d:TD)(σ:St)(ep ev:aj)(K:St->Option R):Option R:=
 plc σ ep λl b π c=>
  bif w5 c.t&&d.ty.atom&&d.ty.vty then
   (match b,π with
   |⟨v0,.box t0,m0,x0⟩,.deref::π0=>
    (match ev with
    |.hdr l2 _ π2 _=>bif π2.isEmpty&&!(Nat.beq l l2)then(match σ.L l2 with
     |some b2=>bif decide (b2.t=d.ty)then(match cf (.box t0) x0 (.deref::π0) ⟨b2.t,b2.x⟩with
      |some v'=>K (σ.iI (upd (upd σ.L l2 none) l (some ⟨v0+1,v'.t,ff m0 (.deref::π0) b2.m,v'.x⟩)))
      |none=>none)else none
     |none=>none)else none
    |ev=>asT ev d.ty λy=>match cf (.box t0) x0 (.deref::π0) ⟨d.ty,y⟩with
     |some v'=>K (σ.iI (upd σ.L l (some ⟨v0+1,v'.t,ff m0 (.deref::π0) (qg ev d.ty),v'.x⟩)))
     |none=>none)
   |_,_=>none)
  else none
theorem Er(h:aJ B F Sg cg σ a w){R:Type}{t:TypeId}{d:TD}(hd:TOk P t d){ep ev:aj}{K:St->Option R}{r:R}(hk:sS d σ ep ev K=some r){vp v:Value}(hp:aw F w σ.L σ.U cg ep vp)(hv:aw F w σ.L σ.U cg ev v):
 ∃ σ' w' Sg',K σ'=some r/\(Instr.storeAt t vp v).run P w=.ok () w'/\aJ B F Sg' cg σ' a w'/\σ'.E=σ.E:=by
 unfold sS at hk
 obtain⟨l,b,π,c,hl,hk1,hc,hg,ho,ds,p,o,S',rfl,h1,h2,h3,h4⟩:=oB h hk hp
 clear hk
 cases hud:w5 c.t&&d.ty.atom&&d.ty.vty
 ·rw[hud]at hk1;cases hk1
 rw[hud]at hk1
 simp only[cond_true]at hk1
 simp only[ag]at hud
 obtain⟨⟨hjk,hat⟩,hvt⟩:=hud
 have hjt:c.t=.iz:=by cases hct:c.t <;> rw[hct]at hjk <;> first|rfl|cases hjk
 obtain⟨v0,bt,m0,x0⟩:=b
 cases bt with
 |box t0=>
  cases π with
  |nil=>simp at hk1
  |cons s0 π0=>
  cases s0 with
  |deref=>
   simp only at hk1 hg ho h1 h2 h4 h3
   have fin:∀ (es:List Value) (y:d.ty.T) (m':Md) (v':V) (Rw:ae) (L':Nat->Option Lab),Rep F w d.ty m' y es Rw->VR d.ty es v->cf (.box t0) x0 (.deref::π0) ⟨d.ty,y⟩=some v'->
    (∀ k,Rw k->∃ l2 b2,l2≠l/\σ.L l2=some b2/\L' l2=none/\Sg l2 k)->L' l=some ⟨v0+1,v'.t,ff m0 (.deref::π0) m',v'.x⟩->(∀ j,j≠l->L' j=none\/L' j=σ.L j)->
    ∃ w' Sg',(Instr.storeAt t (.pointer (some ⟨p,o,none⟩)) v).run P w=.ok () w'/\aJ B F Sg' cg (σ.iI L') a w':=by
    intro es y m' v' Rw L' hy hv cS hR hLl hL
    obtain⟨ds2,s2,S2,f1,f2,f3,f4⟩:=BD F w (.deref::π0) (.box t0) m0 x0 (cg l) (Sg l) none c (h.lab l _ hl) hg ho ⟨_,_,cS⟩
    rw[h1]at f1
    injection f1 with f1
    injection f1 with f1 f1'
    subst f1;subst f1'
    rcases f4 with⟨_,_,_,f5,_⟩|⟨p',o',f5,hSp,hnp,eN,jZ⟩
    ·simp at f5
    injection f5 with f5
    injection f5 with e1 e2
    subst e1;subst e2
    have hel:=aL _ _ _ _ _ _ _ hy
    have hdl:=aL _ _ _ _ _ _ _ h2
    have qh:es.length=ds.length:=by rw[hel,hdl,hjt,mG hat];rfl
    obtain⟨u1,u2,u3,u4,u5,u6⟩:=qe eN qh
    have bE:=mF eN hd hv.cells hel qh (mR _ _ _ _ _ hy)
    have hRp:¬Rw p:=λhrp=>by
     obtain⟨l2,b2,hne,hb2,_,hk2⟩:=hR p hrp
     exact h.dis l2 l b2 _ hne hb2 hl p hk2 hSp
    have hFp:∀ k,F k->k≠p:=λk hk e=>h.dG l _ hl p hSp (e ▸ hk)
    have hy':Rep F (w.setCells p o es) d.ty m' y es Rw:=aP (Sub.refl _) (λk hk=>u2 k (hFp k hk)) _ _ _ _ _ _ hy (Sub.refl _) (λk hk=>u2 k (λe=>hRp (e ▸ hk)))
    have bh:=jZ F (w.setCells p o es) ⟨d.ty,y⟩ es Rw v' m' cS (Sub.refl _) hy' qh
     (λk hk hs=>by obtain⟨l2,b2,hne,hb2,_,hk2⟩:=hR k hk;exact(h.dis l2 l b2 _ hne hb2 hl k hk2 hs).elim)
     (λk _ _ hne=>u2 k hne) u1 (λk hk=>u2 k (hFp k hk))
    have qi:=ux hg (by rw[hjt];rfl) hat cS (cg l)
    refine⟨_,_,bE,h.pj u4 u5 u6 (by rw[u3];exact ar _) hl (λk _ hn=>u2 k (λe=>hn (e ▸ hSp))) (b':=⟨v0+1,v'.t,ff m0 (.deref::π0) m',v'.x⟩) qi.1 qi.2 (cG _) (Sub.refl _) bh L' hLl hL (λk hk=>.inl hk) (λk hk=>?_)⟩
    rcases hk with hk|hk
    ·exact .inl hk.1
    ·exact .inr (.inl (hR k hk))
   split at hk1
   ·rename_i l2 n2 π2 c2
    cases hb:π2.isEmpty&&!(Nat.beq l l2)
    ·rw[hb]at hk1;cases hk1
    rw[hb]at hk1
    simp only[cond_true]at hk1
    simp only[ag,bq]at hb
    have hp2:π2=[]:=by cases π2 <;> simp_all
    subst hp2
    have hne:l≠l2:=λe=>by subst e;simp[cr]at hb
    cases hl2:σ.L l2 with
    |none=>rw[hl2]at hk1;cases hk1
    |some b2=>
    rw[hl2]at hk1
    simp only at hk1
    cases hud:decide (b2.t=d.ty)
    ·rw[hud]at hk1;cases hk1
    rw[hud]at hk1
    simp only[cond_true]at hk1
    have hud:=of_decide_eq_true hud
    have hv2:=(hv.2 b2 hl2).2.1 rfl
    have kC:=h.lab l2 b2 hl2
    cases cS:cf (.box t0) x0 (.deref::π0) ⟨b2.t,b2.x⟩with
    |none=>rw[cS]at hk1;cases hk1
    |some v'=>
    rw[cS]at hk1
    simp only at hk1
    obtain⟨d1,d2,dty,d4⟩:=d
    simp only at hud
    subst hud
    obtain⟨w',Sg',e1,e2⟩:=fin (cg l2) b2.x b2.m v' (Sg l2) (upd (upd σ.L l2 none) l (some ⟨v0+1,v'.t,ff m0 (.deref::π0) b2.m,v'.x⟩)) kC hv2 cS
     (λk hk=>⟨l2,_,Ne.symm hne,hl2,by rw[aI _ _ (Ne.symm hne),ay],hk⟩) (ay _ _ _)
     (λj hj=>by
      rw[aI _ _ hj]
      by_cases e:j=l2
      ·subst e;rw[ay];exact .inl rfl
      ·rw[aI _ _ e];exact .inr rfl)
    exact⟨_,w',Sg',hk1,e1,e2,rfl⟩
   ·obtain⟨y,es,hk2,hy,hvr⟩:=mU hk1 hv
    cases cS:cf (.box t0) x0 (.deref::π0) ⟨d.ty,y⟩with
    |none=>rw[cS]at hk2;cases hk2
    |some v'=>
    rw[cS]at hk2
    simp only at hk2
    obtain⟨w',Sg',e1,e2⟩:=fin es y _ v' ae.none (upd σ.L l (some ⟨v0+1,v'.t,ff m0 (.deref::π0) (qg ev d.ty),v'.x⟩)) hy hvr cS (λk hk=>hk.elim) (ay _ _ _) (λj hj=>by rw[aI _ _ hj];exact .inr rfl)
    exact⟨_,w',Sg',hk2,e1,e2,rfl⟩
  |_=>simp at hk1
 |_=>simp at hk1
end
def uy:Ty->Bool
 |.sl _=>true
 |_=>false
theorem sU{t:Ty}(h:uy t=true):∃ t',t=.sl t':=by cases t <;> simp[uy]at h;exact⟨_,rfl⟩
section
variable {α:Type} {R:α->List Value->ae->Prop}
theorem zx(hw:∀ y c S,R y c S->c.length=1):∀ {x:List α} {cs:List Value} {S:ae},aY R x cs S->aY (Ej R) (x.map some) cs S:=by
 intro x
 induction x with
 |nil=>intro cs S h;exact h
 |cons y ys ih=>
  rintro cs S ⟨c1,c2,S1,S2,rfl,h1,h2,r⟩
  exact⟨c1,c2,S1,S2,rfl,⟨h1,hw _ _ _ h1⟩,ih h2,r⟩
theorem uz:∀ {x:List α} {cs:List Value} {S:ae},aY (Ej R) (x.map some) cs S->aY R x cs S:=by
 intro x
 induction x with
 |nil=>intro cs S h;exact h
 |cons y ys ih=>
  rintro cs S ⟨c1,c2,S1,S2,rfl,h1,h2,r⟩
  exact⟨c1,c2,S1,S2,rfl,h1.1,ih h2,r⟩
theorem zy(x:List α)(j:Nat)(y:α):(iB x j).set j (some y)=(x.set j y).map some:=by
 unfold iB
 rw[List.set_set,List.map_set]
end
theorem w6{F:ae}{w:World}{t:Ty}(ht:t.width=1){m:Md}{x:List t.T}{cs:List Value}{S:ae}(h:Rep F w (.sl t) (.own m) x cs S):Rep F w (.sl (.may t)) (.own m) (x.map some) cs S:=by
 obtain⟨a,cap,rfl,h1,h2,h3⟩:=h
 refine⟨a,cap,by rw[bG],by rw[bG];exact h1,h2,h3.imp id ?_⟩
 rintro⟨b,off,c,e,rfl,hb,hc,hS,S1,hr,s1,n1⟩
 rw[ht]at hc hr
 refine⟨b,off,c,e.any,rfl,hb,hc,hS,S1,?_,s1,n1⟩
 rw[bG]
 exact zx (λy c S h=>by rw[aL _ _ _ _ _ _ _ h,ht]) hr
theorem w7{F:ae}{w:World}{t:Ty}(ht:t.width=1){m:Md}{x:List t.T}{cs:List Value}{S:ae}(h:Rep F w (.sl (.may t)) (.own m) (x.map some) cs S):Rep F w (.sl t) (.own m) x cs S:=by
 obtain⟨a,cap,rfl,h1,h2,h3⟩:=h
 refine⟨a,cap,by rw[bG],by rw[bG]at h1;exact h1,h2,h3.imp id ?_⟩
 rintro⟨b,off,c,e,rfl,hb,hc,hS,S1,hr,s1,n1⟩
 rw[bG]at hr
 refine⟨b,off,c,e.cast ht,rfl,hb,by rw[ht];exact hc,hS,S1,?_,s1,n1⟩
 rw[ht]
 exact uz hr
theorem Es{F:ae}{w:World}{t:Ty}{m:Md}{x:List t.T}{j:Nat}(hj:j<x.length){cs:List Value}{S:ae}(h:Rep F w (.sl (.may t)) (.own m) (iB x j) cs S):Rep F w (.hol t) (.own m) (x,j) cs S:=⟨hj,h⟩
theorem Et{F:ae}{w:World}{t:Ty}{m:Md}{x:List t.T×Nat}{cs:List Value}{S:ae}(h:Rep F w (.hol t) (.own m) x cs S):x.2<x.1.length/\Rep F w (.sl (.may t)) (.own m) (iB x.1 x.2) cs S:=h
theorem uA{w:World}{t:Ty}(ht:t.width=1)(cs:List Value)(s:Option (Nat×Nat))(i:Int):resolve w (.sl t) cs s [.idx i]=resolve w (.sl (.may t)) cs s [.idx i]:=by
 have e:(Ty.may t).width=1:=rfl
 simp only[resolve,ht,e,ek]
section
variable {P:Program} {B:dh} {F:ae} {Sg:Nat->ae} {cg:Nat->List Value} {σ:St} {a:Act} {w:World}
theorem aJ.JD(h:aJ B F Sg cg σ a w){l:Nat}{v0:Nat}{t0:Ty}{m0:Md}{x0:List t0.T}(hl:σ.L l=some ⟨v0,.sl t0,.own m0,x0⟩){i:Int}(hi:0<=i){y:t0.T}(hy:x0[i.toNat]?=some y)(ht:∃ t',t0=.sl t'){d:Nat}(hU:σ.U d=false):
 ∃ ds s Sg' cg',resolve w (.sl t0) (cg l) none [.idx i]=some (ds,s)/\
  aJ B F Sg' cg' {σ with L:=upd (upd σ.L l (some ⟨v0+1,.hol t0,.own m0,(x0,i.toNat)⟩)) d (some ⟨0,t0,m0,y⟩),U:=λj=>Nat.beq j d||σ.U j} a w/\cg' d=ds/\(∀ j,j≠d->cg' j=cg j):=by
 have hw1:t0.width=1:=by obtain⟨t',rfl⟩:=ht;rfl
 have hm:=w6 hw1 (h.lab l _ hl)
 have hlen:i.toNat<x0.length:=(bB.1 hy).1
 have hg:get? (.sl (.may t0)) (x0.map some) [.idx i]=some ⟨.may t0,some y⟩:=by simp[get?,eM,hi,hy]
 obtain⟨ds,s',S',h1,h2,h3,h4⟩:=focus F w [.idx i] (.sl (.may t0)) (.own m0) (x0.map some) (cg l) (Sg l) none (.may t0) (some y) hm hg rfl
 obtain⟨⟨p,o⟩,rfl⟩:=gK [.idx i] _ _ _ _ _ rfl h1
 have hdl:l≠d:=λe=>by subst e;rw[h.used l _ hl]at hU;cases hU
 have h2':Rep F w t0 m0 y ds S':=h2.1
 obtain⟨z,rfl,hz⟩:∃ z,ds=[z]/\z.oneCell'=true:=by
  obtain⟨t',rfl⟩:=ht
  exact eB rfl h2'
 rcases h4 with⟨_,_,_,h5,_⟩|⟨p',o',h5,hSp,hnp,eN,jZ⟩
 ·simp at h5
 injection h5 with h5
 injection h5 with e1 e2
 subst e1;subst e2
 have cS:gV (.sl (.may t0)) (x0.map some) [.idx i] (.may t0) none=some ((x0.map some).set i.toNat none):=by simp[gV,gu,hi,hy]
 have JF:=jZ F w none [z] ae.none _ m0 (.own m0) ⟨m0,rfl,rfl,rfl⟩ (Sub.refl _) cS ⟨z,rfl,hz⟩ rfl (λk hk=>hk.elim) (λ_ _ _ _=>rfl) (uw eN) (λ_ _=>rfl)
 have bh:=Es (t:=t0) hlen JF
 have i1:=h.pj rfl rfl rfl (ar _) hl (λ_ _ _=>rfl) (b':=⟨v0+1,.hol t0,.own m0,(x0,i.toNat)⟩) (λu hu=>hu) (λρ q ha=>by
  cases ρ with
  |nil=>simp[aU]at ha
  |cons s ρ=>cases s <;> simp only[aU,reduceCtorEq]at ha |-;exact ha) (cG _) (Sub.refl _) bh (upd σ.L l (some ⟨v0+1,.hol t0,.own m0,(x0,i.toNat)⟩)) (ay _ _ _) (λj hj=>by rw[aI _ _ hj];exact .inr rfl) (λk hk=>.inl hk)
  (λk hk=>by rcases hk with hk|hk;exact .inl hk.1;exact hk.elim)
 have i2:=i1.iH (w':=w) rfl rfl rfl (ar _) (l:=d) (b:=⟨0,t0,m0,y⟩) hU (upd (upd σ.L l (some ⟨v0+1,.hol t0,.own m0,(x0,i.toNat)⟩)) d (some ⟨0,t0,m0,y⟩)) (λ_ _ _=>rfl) h2' (ay _ _ _)
  (λj hj=>by rw[aI _ _ hj];exact .inr rfl)
  (λk hk=>⟨λj bj hj hbj hs=>by
   rw[aI _ _ hj]at hbj
   by_cases e:j=l
   ·subst e;rw[if_pos rfl]at hs;rcases hs with hs|hs;exact hs.2 hk;exact hs.elim
   ·rw[if_neg e]at hs;rw[aI _ _ e]at hbj;exact h.dis j l bj _ e hbj hl k hs (h3 k hk),
   λhf=>h.dG l _ hl k (h3 k hk) hf,h.lt l _ hl k (h3 k hk),h.may l _ hl k (h3 k hk)⟩)
 exact⟨[z],some (p,o),_,_,(uA hw1 _ _ _).trans h1,i2,by simp,λj hj=>by simp[hj]⟩
def sV(σ:St)(ep:aj):Bool:=match ep with
 |.adr l _ [.idx _] _=>(match σ.L l with
  |some ⟨_,.hol _,_,_⟩=>true
  |_=>false)
 |_=>false
def qj{R:Type}(d:TD)(σ:St)(ep ev:aj)(K:St->Option R):Option R:=
 match ep with
 |.adr l _ [.idx i] _=>(match σ.L l with
  |some ⟨v0,.hol t0,.own m0,x0⟩=>(match ev with
   |.hdr l2 _ [] _=>(match σ.L l2 with
    |some b2=>bif !(Nat.beq l l2)&&uy t0&&decide (d.ty=t0)&&decide (b2.m=m0)then
     (if h:b2.t=t0 then(if 0<=i/\i.toNat=x0.2 then K (σ.iI (upd (upd σ.L l2 none) l (some ⟨v0+1,.sl t0,.own m0,(x0.1.set x0.2 (h ▸ b2.x):List t0.T)⟩)))else none)else none)else none
    |none=>none)
   |_=>none)
  |_=>none)
 |_=>none
theorem BF(h:aJ B F Sg cg σ a w){R:Type}{t:TypeId}{d:TD}(hd:TOk P t d){ep ev:aj}{K:St->Option R}{r:R}(hk:qj d σ ep ev K=some r){vp v:Value}(hp:aw F w σ.L σ.U cg ep vp)(hv:aw F w σ.L σ.U cg ev v):
 ∃ σ' w' Sg',K σ'=some r/\(Instr.storeAt t vp v).run P w=.ok () w'/\aJ B F Sg' cg σ' a w'/\σ'.E=σ.E:=by
 unfold qj at hk
 split at hk
 case h_2=>cases hk
 rename_i l n i c
 split at hk
 case h_2=>cases hk
 rename_i v0 t0 m0 x0 hl
 split at hk
 case h_2=>cases hk
 rename_i l2 n2 c2
 cases hl2:σ.L l2 with
 |none=>rw[hl2]at hk;cases hk
 |some b2=>
 rw[hl2]at hk
 simp only at hk
 cases hud:!(Nat.beq l l2)&&uy t0&&decide (d.ty=t0)&&decide (b2.m=m0)
 ·rw[hud]at hk;cases hk
 rw[hud]at hk
 simp only[cond_true]at hk
 simp only[ag,bq,decide_eq_true_eq]at hud
 obtain⟨⟨⟨hne,hsl⟩,hdt⟩,hm2⟩:=hud
 have hne:l≠l2:=λe=>by subst e;simp[cr]at hne
 split at hk
 case isFalse=>cases hk
 rename_i ht2
 split at hk
 case isFalse=>cases hk
 rename_i Lf
 obtain⟨hi0,hij⟩:=Lf
 have hw1:t0.width=1:=by obtain⟨t',rfl⟩:=sU hsl;rfl
 obtain⟨hj,bh⟩:=Et (h.lab l _ hl)
 obtain⟨v2,t2,m2,x2⟩:=b2
 simp only at ht2 hm2
 subst ht2
 subst hm2
 have hlen:x0.2<(iB x0.1 x0.2).length:=by unfold iB;simpa using hj
 have zz:(iB x0.1 x0.2)[i.toNat]?=some none:=by
  rw[hij];unfold iB;simp[hj]
 have hg:get? (.sl (.may t2)) (iB x0.1 x0.2) [.idx i]=some ⟨.may t2,none⟩:=by simp[get?,eM,hi0,zz]
 obtain⟨ds,s',S',h1,h2,h3,h4⟩:=focus F w [.idx i] (.sl (.may t2)) (.own m2) (iB x0.1 x0.2) (cg l) (Sg l) none (.may t2) none bh hg rfl
 obtain⟨⟨p,o⟩,rfl⟩:=gK [.idx i] _ _ _ _ _ rfl h1
 obtain⟨z,rfl,hz⟩:=h2
 rcases h4 with⟨_,_,_,h5,_⟩|⟨p',o',h5,hSp,hnp,eN,jZ⟩
 ·simp at h5
 injection h5 with h5
 injection h5 with e1 e2
 subst e1;subst e2
 have hvp:vp=.pointer (some ⟨p,o,none⟩):=by
  refine(hp.2 _ hl).2.1 rfl p o ?_
  have e:(Ty.may t2).width=1:=rfl
  simp only[resolve,e,gr]at h1
  simp only[aU,hw1,gr]
  split at h1
  ·rename_i b off len _ hcs
   simp only[hcs]
   split at h1
   ·rename_i hlt
    rw[if_pos hlt]
    injection h1 with h1
    injection h1 with _ h1
   ·cases h1
  ·cases h1
 have hv2:=(hv.2 _ hl2).2.1 rfl
 have kC:=h.lab l2 _ hl2
 have hel:=aL _ _ _ _ _ _ _ kC
 simp only[hw1]at hel
 have qh:(cg l2).length=[z].length:=hel
 obtain⟨u1,u2,u3,u4,u5,u6⟩:=qe eN qh
 have bE:=mF eN hd hv2.cells (by rw[hdt,hw1];exact hel) qh (mR _ _ _ _ _ kC)
 have hRp:¬Sg l2 p:=λhk2=>h.dis l2 l _ _ (Ne.symm hne) hl2 hl p hk2 hSp
 have hFp:∀ k,F k->k≠p:=λk hk e=>h.dG l _ hl p hSp (e ▸ hk)
 have hy':Rep F (w.setCells p o (cg l2)) t2 m2 x2 (cg l2) (Sg l2):=aP (Sub.refl _) (λk hk=>u2 k (hFp k hk)) _ _ _ _ _ _ kC (Sub.refl _) (λk hk=>u2 k (λe=>hRp (e ▸ hk)))
 have cS:gV (.sl (.may t2)) (iB x0.1 x0.2) [.idx i] (.may t2) (some x2)=some ((iB x0.1 x0.2).set i.toNat (some x2)):=by simp[gV,gu,hi0,zz]
 have Hl:=jZ F (w.setCells p o (cg l2)) (some x2) (cg l2) (Sg l2) _ m2 (.own m2) ⟨m2,rfl,rfl,rfl⟩ (Sub.refl _) cS ⟨hy',hel⟩ qh
  (λk hk hs=>(h.dis l2 l _ _ (Ne.symm hne) hl2 hl k hk hs).elim) (λk _ _ hne=>u2 k hne) u1 (λk hk=>u2 k (hFp k hk))
 rw[hij,zy]at Hl
 have JG:=w7 hw1 Hl
 refine⟨_,_,_,hk,by rw[hvp];exact bE,h.pj u4 u5 u6 (by rw[u3];exact ar _) hl (λk _ hn=>u2 k (λe=>hn (e ▸ hSp))) (b':=⟨v0+1,.sl t2,.own m2,x0.1.set x0.2 x2⟩) (λu hu=>hu) (λρ q ha=>by
  cases ρ with
  |nil=>simp[aU]at ha
  |cons s ρ=>cases s <;> simp only[aU,reduceCtorEq]at ha |-;exact ha) (cG _) (Sub.refl _) JG _ (ay _ _ _) (λj hj=>by
   rw[aI _ _ hj]
   by_cases e:j=l2
   ·subst e;rw[ay];exact .inl rfl
   ·rw[aI _ _ e];exact .inr rfl) (λk hk=>.inl hk) (λk hk=>?_),rfl⟩
 rcases hk with hk|hk
 ·exact .inl hk.1
 ·exact .inr (.inl ⟨l2,_,Ne.symm hne,hl2,by rw[aI _ _ (Ne.symm hne),ay],hk⟩)
def xSt{R:Type}(d:TD)(σ:St)(ep ev:aj)(K:St->Option R):Option R:=bif sV σ ep then qj d σ ep ev K else j7 d σ ep ev K
theorem HJ(h:aJ B F Sg cg σ a w){R:Type}{t:TypeId}{d:TD}(hd:TOk P t d){ep ev:aj}{K:St->Option R}{r:R}(hk:xSt d σ ep ev K=some r){vp v:Value}(hp:aw F w σ.L σ.U cg ep vp)(hv:aw F w σ.L σ.U cg ev v):
 ∃ σ' w' Sg',K σ'=some r/\(Instr.storeAt t vp v).run P w=.ok () w'/\aJ B F Sg' cg σ' a w'/\σ'.E=σ.E:=by
 unfold xSt at hk
 cases hh:sV σ ep
 ·rw[hh]at hk;exact zu h hd hk hp hv
 ·rw[hh]at hk;exact BF h hd hk hp hv
def BG(σ:St)(ex:aj):Bool:=match ex with
 |.hdr l _ [] _=>(match σ.L l with
  |some ⟨_,.hol _,_,_⟩=>true
  |_=>false)
 |_=>false
def ix{R:Type}(TT:Tab)(σ:St)(t:TypeId)(ex ei:aj)(K:aj->Option R):Option R:=
 match ex with
 |.hdr l _ [] _=>(match σ.L l with
  |some ⟨v0,.hol t0,.own _,x0⟩=>iG ei λi=>(match TT t with
   |some d=>(match d.kd with
    |.slice e=>(match TT e with
     |some de=>bif Nat.blt 0 v0&&decide (de.ty=t0)then(if 0<=i/\i.toNat=x0.2 then K (.adr l 0 [.idx i] ⟨.iz,()⟩)else none)else none
     |none=>none)
    |_=>none)
   |none=>none)
  |_=>none)
 |_=>none
theorem sW(h:aJ B F Sg cg σ a w){R:Type}{TT:Tab}(hT:cd P TT){t:TypeId}{ex ei:aj}{K:aj->Option R}{r:R}(hk:ix TT σ t ex ei K=some r){v vi:Value}(he:aw F w σ.L σ.U cg ex v)(hi:aw F w σ.L σ.U cg ei vi):
 ∃ e' z,K e'=some r/\(Instr.indexAt t v vi).run P w=.ok z w/\aw F w σ.L σ.U cg e' z:=by
 unfold ix at hk
 split at hk
 case h_2=>cases hk
 rename_i l n c
 split at hk
 case h_2=>cases hk
 rename_i v0 t0 m0 x0 hl
 obtain⟨k,i,hk,rfl,_⟩:=fQ hk hi
 cases h1:TT t with
 |none=>rw[h1]at hk;cases hk
 |some d=>
 rw[h1]at hk
 simp only at hk
 have hd:=(hT t d h1).desc
 split at hk
 case h_2=>cases hk
 rename_i e hkd
 rw[hkd]at hd
 simp only at hd
 cases h2:TT e with
 |none=>rw[h2]at hk;cases hk
 |some de=>
 rw[h2]at hk
 simp only at hk
 have hde:=hT e de h2
 cases hb:Nat.blt 0 v0&&decide (de.ty=t0)
 ·rw[hb]at hk;cases hk
 rw[hb]at hk
 simp only[cond_true]at hk
 simp only[ag,decide_eq_true_eq]at hb
 obtain⟨hv0,hty⟩:=hb
 have hv0:0<v0:=fH hv0
 split at hk
 case isFalse=>cases hk
 rename_i hij
 obtain⟨i0,hij⟩:=hij
 obtain⟨hj,ao,cap,hcs,hlc,_,h3⟩:=h.lab l _ hl
 have hlen:List.length (iB x0.1 x0.2)=x0.1.length:=by unfold iB;simp
 simp only at hj
 have hvr:=(he.2 _ hl).2.1 rfl
 simp only[VR,Ty.agg]at hvr
 rcases h3 with h3|⟨b,off,c',e',rfl,_⟩
 ·simp only[hlen]at hlc;omega
 simp only[hlen]at hcs
 have hvv:v=.slice (some ⟨b,off,none⟩) x0.1.length cap:=by
  have:=hvr.1
  rw[hcs]at this
  injection this with this
  exact this.symm
 subst hvv
 refine⟨_,_,hk,run_indexAt_slice hd hde i0 (by omega),he.1,λbb hbb=>?_⟩
 rw[hl]at hbb
 injection hbb with hbb
 subst hbb
 refine⟨bT _,λ_ p o hr=>?_,λh0=>absurd h0 (Nat.ne_of_lt hv0)⟩
 simp only[hcs,aU]at hr
 rw[if_pos ⟨i0,by omega⟩]at hr
 have hr':(b,off+i.toNat*t0.width)=(p,o):=cP hr
 injection hr' with e1 e2
 rw[cq,hty,<-e1,<-e2]
def zA{R:Type}(TT:Tab)(σ:St)(t:TypeId)(ex ei:aj)(K:aj->Option R):Option R:=bif BG σ ex then ix TT σ t ex ei K else fA TT σ t ex ei K
theorem Eu(h:aJ B F Sg cg σ a w){R:Type}{TT:Tab}(hT:cd P TT){t:TypeId}{ex ei:aj}{K:aj->Option R}{r:R}(hk:zA TT σ t ex ei K=some r){v vi:Value}(he:aw F w σ.L σ.U cg ex v)(hi:aw F w σ.L σ.U cg ei vi):
 ∃ e' z,K e'=some r/\(Instr.indexAt t v vi).run P w=.ok z w/\aw F w σ.L σ.U cg e' z:=by
 unfold zA at hk
 cases hh:BG σ ex
 ·rw[hh]at hk;exact mn h hT hk he hi
 ·rw[hh]at hk;exact sW h hT hk he hi
end
end
end Go.Proofs.YtphipehmbefejaaGreat.Rf
