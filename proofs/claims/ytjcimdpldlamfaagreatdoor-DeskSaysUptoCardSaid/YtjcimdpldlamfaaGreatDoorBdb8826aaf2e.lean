import Derived.Test.YtjcimdpldlamfaaGreatDoorBd3b933c0500
import Derived.Test.YtjcimdpldlamfaaGreatDoorBdcff4fabb7e
namespace Go.Proofs.YtjcimdpldlamfaaGreatDoor
set_option maxRecDepth 100000
set_option maxHeartbeats 16000000
open Go.RowKit
theorem jr{P:Program}{I:Array Oper}{rest:List Oper}{o:Oper}{a:Act}{Q:Exit->Act->World->Prop}{A:World}{α:Type}{enc:α->List Value}(O:o.guard=none)(s x:Operand)(t:TypeId)
  (d:o.op=.call { callee:=.builtin .append,args:=#[s,x],argTypes:=#[t,t]})
  (base:Nat) (e:TypeId) (i:TypeInfo) (z:Value) (size bytes:Nat) (m:P.underlying t=some (.slice e)) (hi:P.info? e=some i) (q:i.zero=some z)
  (F:i.size=size) (L:i.bytes=bytes) (T:z.cells.size=size) (S:0<size)
  (v:Value) (l:List α) (y:α) (f:a.eval s=v) (C:Own enc size A base e v l) (cs:Array Value) (N:cs.toList=enc y) (k:Nat) (R:k=A.heap.size) (p:a.eval x=.slice (some ⟨k,0,none⟩) 1 1) (M:cs.size=size)
  (h1:∀u∈cs.toList,u.oneCell'=true) (J:l.length+1<=3000000) (H:bytes<=1000) (E:base<=A.heap.size)
  (h:∀g B G,Own enc size G base e (.slice (some ⟨g,0,none⟩) (l.length+1) B) (l++[y])->Below base A G->(∀b U D,zj A b U D->some b≠v.ownBlock->zj G b U D)->(v.ownBlock=some g∨A.heap.size<g) ->
   wpList P I Q rest (a.put o.dst (.slice (some ⟨g,0,none⟩) (l.length+1) B)) G):wpList P I Q (o::rest) a (A.alloc (.cells cs e)):=by
 subst R;have K:(l.length+1)*bytes<=140737488355328:=Ai (Nat.mul_le_mul J H) (by decide);refine wpList_append_lies (A.alloc (.cells cs e)) O s x t d base e i z size bytes m hi q F L T S v l.length (l.flatMap enc) f (World.ownsRow.alloc C _) ⟨A.heap.size,0,none⟩ 1 1 cs.toList p (by simp[M])
  ?_ h1 (by omega) (by unfold maxLen;omega) K (by simp;omega) (A.heap.size+1) (by simp) ?_
 ·intro j u n
  rw[Go.WideShapes.add_plain,cell_of_row _ _ _ cs e (0,0) (heap_alloc_new A _)];simpa using n
 intro g B G W V X _;refine h g B G ?_ ?_ (λb U D Y c=>(Y.alloc _).grown V c) (X.imp id λe=>by omega)
 ·show G.ownsRow base e size _ (l++[y]).length ((l++[y]).flatMap enc)
  rw[List.flatMap_append,Ag];simpa[N]using W
 have Z:Below base A (A.alloc (.cells cs e)):=(Ae _ _).alloc E _;exact Z.grown V (by simp;omega) λk R=>(World.ownsRow.lt C k R).1
theorem kG(l:List UInt8)(c:UInt8)(w:World)(hl:l.length<=2000000):Calls Tryz.prog 18 #[.string (bs l),.int .u8 c.toNat] w (jw (zk c l) w):=by
 have L:=xT l;obtain⟨s,p⟩:∃s,bs l=s:=⟨_,rfl⟩;have HB:Hid (∀k b,l[k]?=some b->yl s k=b.toNat/\s.extract k (k+1)=bs [b]):=zc λk b h=>by rw[<-p];exact⟨UL h,RP h⟩
 rw[p]at L⊢;have N:=zc L;have b0:s.size<=2000000:=by omega
 clear p L hl;obtain⟨i0,hi,q,r,x⟩:=td
 go_enter Tryz.func18,Tryz.ntmps18
 go_wp2_with fail
 go_loopw [5,6] (λu v wr=>∃(k:Nat) (A:List (List UInt8)) (B:List UInt8) (g O:Nat),k<=s.size/\v=.int .i64 k/\u=.slice (some ⟨g,0,none⟩) (A.length+1) O/\Hid (zk c (l.take k)=A++[B]/\A.length<=k/\B.length<=k)/\Own yp 1 wr w.heap.size 9 (.slice (some ⟨g,0,none⟩) (A.length+1) O) (A++[B])/\Below w.heap.size w wr) (λ_ v _=>s.size-(intOf v).toNat)
 case atStart=>
  refine⟨0,[],[],w.heap.size,1,AA _,rfl,rfl,zc ⟨rfl,by simp,by simp⟩,?_,by go_grown⟩;exact Own.lit (enc:=yp) (l:=[[]]) rfl (Ay _) rfl rfl rfl (by decide)
 obtain⟨k,A,B,g,O,hk,rfl,rfl,G,f,X⟩:=hrel;have y:=X.size;have O0:=G.out.2.1;have c0:=G.out.2.2
 by_cases J:k<s.size
 case neg=>
  obtain rfl:k=s.size:=by omega
  have z:Hid (zk c l=A++[B]):=zc (by
   have:=G.out.1
   rwa[N.out,AL]at this)
  clear G;go_wp2_with fail;go_ret;refine⟨g,O,?_,?_,X⟩
  ·rw[z.out,Ag];rfl
  rw[z.out,Ag];exact f
 obtain⟨b,C⟩:=zl (show k<l.length by rw[<-N.out];exact J);obtain⟨F,T⟩:=HB.out k b C;have g1:((s[k]'J).toNat)=yl s k:=(rf J).symm;have K0:=lF s k;have L0:A.length+1+1<=3000000:=by omega
 by_cases M:b=c
 ·have hq:((yl s k:Int)== (c.toNat:Int))=true:=by rw[F,M];simp
  have a:Hid (zk c (l.take (k+1))=(A++[B])++[[]]):=zc (by rw[pH C G.out.1,Aq M]);have Q:(A++[B]).length+1<=3000000:=by simp;omega
  clear M C F T G;go_wp2_with (at_builtin;refine jr (enc:=yp) rfl (.tmp 19) (.tmp 20) 23 rfl w.heap.size 9 i0 _ 1 16 Tryz.underlying23 hi q r x rfl (by decide) _ (A++[B]) [] rfl f _ rfl wr.heap.size rfl rfl rfl uE Q (by decide) y ?_;intro gn d w6 D j X0 M0;rw[Ag]at D⊢);go_roundw
  case rel=>exact⟨k+1,A++[B],[],gn,d,by omega,by go_num,by simp,zc ⟨a.out,by simp;omega,by simp⟩,by simpa using D,X.trans j⟩
  case measure=>simp[intOf];omega
 have hq:((yl s k:Int)== (c.toNat:Int))=false:=by
  rw[F];simp;intro e;exact M (UInt8.toNat_inj.1 (by omega))
 have a:Hid (zk c (l.take (k+1))=A++[B++[b]]):=zc (by rw[pH C G.out.1,Au M]);obtain⟨o,U,V,n,cs,H,R,E⟩:=f.cells ud;have W:(A++[B])[A.length]?=some B:=by simp
 have z0:cs[A.length]?=some (.string (bs B)):=by have:=E _ B W 0 (by decide);simpa[yp]using this
 have Q0:IntKind.i64.wrap (A.length:Int)=A.length:=AQ _ (by omega);have Y0:IntKind.i64.wrap ((k:Int)+1)=(k:Int)+1:=AQ _ (by omega);have P0:A.length<A.length+1:=by omega
 have R0:(A.length:Int)<(A.length:Int)+1:=by omega
 have S0:k+1<=s.size:=by omega
 have T0:(k:Int)+1<=(s.size:Int):=by omega
 have U0:(k:Int)<=(k:Int)+1:=by omega
 have V0:(0:Int)<=(k:Int)+1:=by omega
 have W0:((k:Int)+1).toNat=k+1:=by omega
 obtain⟨c1,c2,c3⟩:=H.facts;have HR:=zc E;have Z:=zc V;have Y:=zc R;have Z0:=zc z0;clear M C F G E V o W R;have D0:=wl B [b] (by simp;omega);go_wp2_with fail;obtain⟨S,P⟩:∃S:World->Prop,Hid (S=λw'=>w'.cell? ⟨g,A.length,none⟩=some (.string (bs B))):=⟨_,zc rfl⟩;have J0:S wr.drew:=by rw[P.out];exact(H.cell _).trans z0
 refine zV.begin (S:=S) 13 (by kernel_rfl) ?_;refine tN 0 ?_ ?_<|tN 1 ?_ ?_<|tN 2 ?_ ?_<|tN 3 ?_ ?_<|tN 4 ?_ ?_<|tN 5 ?_ ?_<|tN 6 ?_ ?_<|tN 7 ?_ ?_<|tN 8 ?_ ?_<|tN 9 ?_ ?_<|tN 10 ?_ ?_<|tN 11 ?_ ?_<|tN 12 ?_ ?_ ?_
 iterate 13
  rotate_left;intro w I;rw[P.out]at I;have h0:=I;clear I;(try simp only[pS]);go_simp;try with_reducible rfl
 try simp only[pS]
 refine zV.one (i:=13) rfl (by kernel_rfl) λK hK=>?_;go_wp2_with fail;refine hK.out _ _ ⟨λh=>by omega,?_⟩;clear hK K;refine zV.done (by kernel_rfl) ?_ _;go_wp2_with fail;go_roundw
 case rel=>
  refine⟨k+1,A,B++[b],g,O,by omega,by go_num,rfl,zc ⟨a.out,by omega,by simp;omega⟩,?_,by exact(zi X).setCell U _⟩;have h2:=Own.of_cells (enc:=yp) (m:=A++[B++[b]]) ud (by decide) ((H.drew).set_ A.length (.string (bs (B++[b])))) U (by have:=Z.out;simpa using this) n (by simpa using Y.out) (by
   have e:(A++[B]).set A.length (B++[b])=A++[B++[b]]:=by simp
   rw[<-e];refine HR.out.set (by simp) (λt ht=>by rw[Aj (by omega)]) (λt ht=>?_);have k1:A.length<cs.size:=(Array.getElem?_eq_some_iff.1 Z0.out).1;obtain rfl:t=0:=by omega
   simp only[Nat.mul_one,Nat.add_zero];rw[Ak k1];rfl)
  rw[show(A++[B++[b]]).length=A.length+1 by simp]at h2;exact h2
 case measure=>simp[intOf];omega
def wP(s:List UInt8):List (List UInt8):=if (zk 10 s).getLast?=some [] then (zk 10 s).dropLast else zk 10 s
def vL(l:List UInt8):List (List UInt8):=(zk 32 l).filter λp=>decide (p≠[])
def ae:List UInt8:=[101,114,114,111,114,32,50,10]
noncomputable def xk(st:List UInt8×List UInt8)(l:List UInt8):List UInt8×List UInt8:=
 match vL l with
 |[]=>st
 |v::w=>if v.head?=some 35 then st else ((kq st.1 v w).1,st.2++((kq st.1 v w).2++[10]))
noncomputable def vj(l:List (List UInt8)):List UInt8×List UInt8:=l.foldl xk ([],[])
noncomputable def tJ(s:List UInt8):List UInt8:=if 65536<s.length∨200<(wP s).length then ae else (vj (wP s)).2
section
variable {l:List (List UInt8)}{k:Nat}{x:List UInt8}{st:List UInt8×List UInt8}
theorem oy(h:l[k]?=some x):vj (l.take (k+1))=xk (vj (l.take k)) x:=by
 unfold vj;rw[AO,h,List.foldl_append];rfl
theorem gN(h:vL x=[]):xk st x=st:=by unfold xk;rw[h]
theorem gM{v:List UInt8}{w:List (List UInt8)}(h:vL x=v::w)(A:v.head?=some 35):xk st x=st:=by unfold xk;rw[h];simp only;rw[Aq A]
theorem Ye{v:List UInt8}{w:List (List UInt8)}(h:vL x=v::w)(A:¬v.head?=some 35):xk st x=((kq st.1 v w).1,st.2++((kq st.1 v w).2++[10])):=by unfold xk;rw[h];simp only;rw[Au A]
end
open Go.Lib
def xG(c:UInt8):List (List UInt8)->List (List UInt8)
 |[]=>[]
 |[p]=>[p]
 |p::q::r=>(p++[c])::xG c (q::r)
theorem nu(c:UInt8):∀l:List (List UInt8),(xG c l).length=l.length
 |[]=>rfl
 |[_]=>rfl
 |p::q::r=>by rw[xG,Ap,nu c (q::r)];rfl
theorem mT{c:UInt8}:∀{s:List UInt8} {i:Nat},index s [c]=i->s.take (i+1)=s.take i++[c]
 |[],i,h=>by rw[kB]at h;omega
 |b::l,i,h=>by
  rw[qP]at h
  by_cases hb:b=c
  ·rw[Aq hb]at h
   obtain rfl:i=0:=by omega
   subst hb;rfl
  rw[Au hb]at h
  by_cases A:index l [c]=-1
  ·rw[Aq A]at h;omega
  rw[Au A]at h;have:=index_ge l [c];obtain⟨j,rfl⟩:∃j,i=j+1:=⟨i-1,by omega⟩;have B:=mT (c:=c) (s:=l) (i:=j) (by omega);rw[List.take_succ_cons,B];rfl
theorem iJ(c:UInt8):∀(n:Nat) (s:List UInt8),s.length<=n->splitK [c] 1 (count s [c]) s=xG c (zk c s)
 |n,s,hn=>by
  by_cases hi:index s [c]=-1
  ·rw[count_miss hi,uD hi]
   rfl
  have hg:=index_ge s [c];obtain⟨i,hi'⟩:∃i:Nat,index s [c]=i:=⟨(index s [c]).toNat,by omega⟩;have hr:=index_room s [c] (by omega);rw[hi']at hr;simp only[Ap,AC]at hr;have hlen:(s.drop (i+1)).length<s.length:=by rw[List.length_drop];omega
  obtain⟨p,C,A⟩:=wg c (s.drop (i+1));rw[count_hit (by simp) hi',Nat.add_comm,splitK,Au (by simp[hi]),hi',vk hi',A,xG,<-A]
  cases n with
  |zero=>omega
  |succ n=>
   have B:=iJ c n (s.drop (i+1)) (by omega);simp only[Ap,AC,Int.toNat_natCast,Nat.zero_add];rw[B,mT hi']
theorem fd{c:UInt8}:∀{l:List (List UInt8)},l≠[]->(xG c l).getLast?=l.getLast?
 |[],h=>absurd rfl h
 |[_],_=>rfl
 |p::q::r,_=>by
  have h:=fd (c:=c) (l:=q::r) (by simp);have hne:xG c (q::r)≠[]:=λe=>by have:=nu c (q::r);rw[e]at this;simp at this
  obtain⟨a,m,hm⟩:=List.exists_cons_of_ne_nil hne;rw[xG,hm,List.getLast?_cons_cons,<-hm,h,List.getLast?_cons_cons]
theorem Pc{c:UInt8}(p:List UInt8):Lib.trimSuffix (p++[c]) [c]=p:=by
 unfold Lib.trimSuffix Lib.hasSuffix;rw[Aq (by simp)];simp
theorem Pd{c:UInt8}{p:List UInt8}(h:c∉p):Lib.trimSuffix p [c]=p:=by
 unfold Lib.trimSuffix Lib.hasSuffix;rw[Au];intro A;rw[List.isSuffixOf_iff_suffix]at A;obtain⟨t,B⟩:=A;exact h (by rw[<-B];simp)
theorem ff{c:UInt8}:∀{l:List (List UInt8)},(∀p,p∈l->c∉p)->(xG c l).map (λx=>Lib.trimSuffix x [c])=l
 |[],_=>rfl
 |[p],h=>by simp only[xG,List.map_cons,List.map_nil];rw[Pd (h p (by simp))]
 |p::q::r,h=>by
  rw[xG,List.map_cons,Pc,ff λx hx=>h x (by simp[hx])]
def tw(s:List UInt8):List (List UInt8):=if (xG 10 (zk 10 s)).getLast?=some [] then (xG 10 (zk 10 s)).dropLast else xG 10 (zk 10 s)
theorem fC(s:List UInt8):(tw s).map (λx=>Lib.trimSuffix x [10])=wP s:=by
 have h:=ff (c:=10) (l:=zk 10 s) (dW 10 s);unfold tw wP;rw[fd (su 10 s)]
 split
 ·rw[List.map_dropLast,h]
 exact h
theorem dE(s:List UInt8):(tw s).length=(wP s).length:=by
 rw[<-fC s,Az]
theorem dD{s:List UInt8}{k:Nat}{x:List UInt8}(h:(tw s)[k]?=some x):(wP s)[k]?=some (Lib.trimSuffix x [10]):=by
 rw[<-fC s,AU,h];rfl
theorem uQ(c:UInt8):∀(l p:List UInt8),p∈zk c l->p.length<=l.length
 |[],p,h=>by simp[zk]at h;subst h;simp
 |b::l,p,h=>by
  obtain⟨q,ps,hq⟩:=wg c l;have ih:=uQ c l;rw[hq]at ih
  by_cases hb:b=c
  ·subst hb
   rw[xf,hq]at h;rcases List.mem_cons.1 h with rfl|h
   ·simp
   have:=ih p h;simp only[Ap];omega
  rw[yc hb hq]at h;rcases List.mem_cons.1 h with rfl|h
  ·have:=ih q (by simp);simp only[Ap];omega
  have:=ih p (by simp[h]);simp only[Ap];omega
theorem fe(c:UInt8):∀{l:List (List UInt8)} {m:Nat},(∀p,p∈l->p.length<=m)->∀x,x∈xG c l->x.length<=m+1
 |[],_,_,x,hx=>by simp[xG]at hx
 |[p],m,h,x,hx=>by
  simp only[xG,List.mem_singleton]at hx;subst hx;have:=h x (by simp);omega
 |p::q::r,m,h,x,hx=>by
  rw[xG]at hx;rcases List.mem_cons.1 hx with rfl|hx
  ·have:=h p (by simp);simp only[Ag,Ap,AC];omega
  exact fe c (λy hy=>h y (by simp[hy])) x hx
theorem fB{s x:List UInt8}(A:x∈tw s):x.length<=s.length+1:=by
 refine fe 10 (uQ 10 s) x ?_;unfold tw at A
 split at A
 ·exact List.mem_of_mem_take (by rwa[List.dropLast_eq_take]at A)
 exact A
theorem Zc(x:List UInt8)(c:UInt8):(Lib.trimSuffix x [c]).length<=x.length:=by
 unfold Lib.trimSuffix
 split
 ·rw[AE];omega
 exact Ay _
theorem Zh{l:List (List UInt8)}{j:Nat}{p:List UInt8}(h:l[j]?=some p):(l.take (j+1)).filter (λp=>decide (p≠[]))=(l.take j).filter (λp=>decide (p≠[]))++(if p=[] then [] else [p]):=by
 rw[AO,h,List.filter_append]
 congr 1
 by_cases A:p=[] <;> simp[A]
theorem sP(c:UInt8)(p:List UInt8)(l:List (List UInt8)):(zO c l).length<=(zO c (p::l)).length:=by
 cases l with
 |nil=>simp[zO]
 |cons q r=>rw[zO,Ag,Ap];omega
theorem ib(c:UInt8):∀l:List (List UInt8),(zO c (l.filter λp=>decide (p≠[]))).length<=(zO c l).length
 |[]=>by simp
 |p::l=>by
  have ih:=ib c l
  by_cases hp:p=[]
  ·subst hp
   have e:(([]:List UInt8)::l).filter (λp=>decide (p≠[]))=l.filter λp=>decide (p≠[]):=by simp
   rw[e];exact Ai ih (sP c [] l)
  have e:(p::l).filter (λp=>decide (p≠[]))=p::l.filter λp=>decide (p≠[]):=by simp[hp]
  rw[e]
  cases A:l.filter λp=>decide (p≠[])with
  |nil=>
   cases l with
   |nil=>simp
   |cons q r=>simp only[zO,Ag];omega
  |cons q r=>
   rw[A]at ih
   cases l with
   |nil=>simp at A
   |cons q' r'=>simp only[zO,Ag,Ap]at ih⊢;omega
theorem jq(p:List UInt8):(zO 32 (vL p)).length<=p.length:=by
 have h:=ib 32 (zk 32 p);rw[mV]at h;exact h
theorem Zs(c:UInt8)(l:List UInt8):(Lib.splitB (bs [c]) 1 (Lib.countB (bs l) (bs [c])) (bs l)).map Value.string=(xG c (zk c l)).map λx=>Value.string (bs x):=by
 have h:=Lib.splitB_data (bs [c]) 1 (Lib.countB (bs l) (bs [c])) (bs l);have e:Lib.countB (bs l) (bs [c])=Lib.count l [c]:=by unfold Lib.countB;rw[tV,tV]
 rw[tV,tV,e,iJ c _ l (Ay _)]at h;rw[e,<-h,List.map_map];refine List.map_congr_left λs _=>?_;simp only[Function.comp]
theorem cE(c:UInt8)(l:List UInt8)(w:World)(O:l.length<=4000000)(G:mE w) :
  Calls Tryz.prog 12 #[.string (bs l),.string ⟨#[c]⟩] w λe K=>e=.returned (.slice (some ⟨w.heap.size,0,none⟩) (zk c l).length (zk c l).length)/\zS K (some ⟨w.heap.size,0,none⟩) (zk c l).length (xG c (zk c l))/\Below w.heap.size w K:=by
 obtain⟨m,G⟩:=G;have F:=ll c l;have M:(zk c l).length<=l.length+1:=xU c l;have I:(((zk c l).length:Nat):Int)=min (if (-1:Int)<0 then (Lib.countB (bs l) (bs [c]):Int)+1 else -1) (((bs l).size:Int)+1):=by
  rw[Aq (by decide),xT];omega
 have D:=Dsk.strings_genSplit (bs l) (bs [c]) 1 (-1) (zk c l).length m w (by rw[xT];omega) G (by simp[ByteArray.size]) (by simp[ByteArray.size]) (by decide) (by decide) I;have J:(zk c l).length-1=Lib.countB (bs l) (bs [c]):=by omega
 rw[J]at D;have B:(Lib.splitB (bs [c]) 1 (Lib.countB (bs l) (bs [c])) (bs l)).length=(zk c l).length:=by rw[Lib.splitB_all (bs [c]) (by simp[ByteArray.size]) 1 _ (bs l) rfl];omega
 rw[B]at D;have A:Lib.cellsOf (Lib.splitB (bs [c]) 1 (Lib.countB (bs l) (bs [c])) (bs l)) (zk c l).length=((xG c (zk c l)).map λx=>Value.string (bs x)).toArray:=by
  unfold Lib.cellsOf;rw[B,Nat.sub_self,List.replicate_zero,AR,Zs]
 rw[A]at D;have C:=nu c (zk c l);obtain⟨n,N⟩:∃n,(zk c l).length=n:=⟨_,rfl⟩;rw[N]at D C⊢;have L:=zc D;have E:=zc C;clear D I J B A F G C
 go_enter Tryz.func12,Tryz.ntmps12
 go_wp2_with fail;refine L.out.mono ?_;rintro e P ⟨rfl,rfl⟩;go_wp2_with fail;go_ret;have H:=pM (l:=xG c (zk c l)) (zj.new w 9 _) rfl (by have:=E.out;unfold maxLen;omega);rw[E.out]at H;exact⟨rfl,H,ze (Ae _ w) _⟩
theorem Wx(c:UInt8)(l:List UInt8)(w:World)(A:l.length<=9223372036854775807) :
  Calls Tryz.prog 14 #[.string (bs l),.string ⟨#[c]⟩] w λe B=>e=.returned (.string (bs (Lib.trimSuffix l [c])))/\B=w:=by
 have h:=Dsk.strings_TrimSuffix (bs l) (bs [c]) w (by rw[xT];exact A);rw[tV,tV]at h;exact h
set_option maxHeartbeats 4000000
def Pn(l:List (List UInt8))(w:World)(e:Ending)(w':World):Prop:=∃A c,e=.returned (.slice A l.length c)/\zS w' A c l/\Below w.heap.size w w'
theorem Ya(s:List UInt8)(w:World)(f:s.length<=2000000):Calls Tryz.prog 7 #[.string (bs s)] w (Pn (wP s) w):=by
 have T:Calls Tryz.prog 18 #[.string (bs s),.int .u8 10] w (jw (zk 10 s) w):=kG s 10 w f;have J:0<(zk 10 s).length:=List.length_pos_iff.2 (su 10 s);have K:=xU 10 s;have P:Hid (wP s=if (zk 10 s).getLast?=some [] then (zk 10 s).dropLast else zk 10 s):=zc rfl;obtain⟨B,L⟩:∃B,zk 10 s=B:=⟨_,rfl⟩;rw[L]at T J P K;have Y:=zc T
 clear T L
 go_enter Tryz.func7,Tryz.ntmps7
 go_wp2_with fail;refine Y.out.mono ?_;rintro e l ⟨g,c,rfl,V,G⟩;obtain⟨h,j,X,F⟩:=vG V;simp only[Value.slice.injEq]at X;obtain⟨rfl,_,rfl⟩:=X;obtain⟨U,D⟩:=zl (show B.length-1<B.length by omega);have A:B.getLast?=some U:=by rw[List.getLast?_eq_getElem?];exact D
 obtain⟨i,k,W,Z,N⟩:=F.get D;simp only[Option.some.injEq,Addr.mk.injEq,and_true]at W;obtain⟨rfl,rfl⟩:=W;rw[Nat.zero_add]at N;have O:=zc F;obtain⟨n,S⟩:∃n,B.length=n:=⟨_,rfl⟩;have Q:=zc S;rw[S]at J N K⊢;have I:IntKind.i64.wrap ((n:Int)-1)=((n-1:Nat):Int):=by rw[AQ _ (by omega)];omega
 have b:n<=c:=by have:=F.lc;omega
 have a:=F.cm;clear F V D S
 by_cases M:U=[]
 ·have E:Hid (wP s=B.take (n-1)):=zc (by rw[P.out,Aq (by rw[A,M]),List.dropLast_eq_take,Q.out])
  have C:Hid ((B.take (n-1)).length=n-1):=zc (by rw[AE,Q.out];omega);subst M;clear A;obtain⟨m,H⟩:∃m,n-1=m:=⟨_,rfl⟩;have R:m<n:=by omega
  rw[H]at I N E C;clear H;go_wp2_with fail;go_ret;refine⟨_,_,?_,by rw[E.out];exact⟨by rw[C.out];omega,O.out.cm,O.out.sl.take m⟩,G⟩;rw[E.out,C.out];rfl
 have E:Hid (wP s=B):=zc (by rw[P.out,Au (by rw[A];simpa using M)]);have d:(U== ([]:List UInt8))=false:=AH.2 M;clear A M;obtain⟨m,H⟩:∃m,n-1=m:=⟨_,rfl⟩;have R:m<n:=by omega
 rw[H]at I N;clear H;go_wp2_with fail;go_ret;refine⟨_,_,?_,by rw[E.out];exact O.out,G⟩;rw[E.out,Q.out];rfl
theorem Yb(s:List UInt8)(w:World)(hs:s.length<=900000):Calls Tryz.prog 8 #[.string (bs s)] w λe d=>∃v,e=.returned v/\Own yp 1 d w.heap.size 9 v (vL s)/\Below w.heap.size w d:=by
 have L:Calls Tryz.prog 18 #[.string (bs s),.int .u8 32] w (jw (zk 32 s) w):=kG s 32 w (by omega);have M:=xU 32 s;have I:Hid (vL s=(zk 32 s).filter λp=>decide (p≠[])):=zc rfl;obtain⟨D,N⟩:∃D,zk 32 s=D:=⟨_,rfl⟩;rw[N]at L I M;have f:=zc L;have r:D.length<=900001:=by omega
 clear L N M;obtain⟨y,l,W,X,Y⟩:=td
 go_enter Tryz.func8,Tryz.ntmps8
 go_wp2_with fail;refine f.out.mono ?_;rintro e O ⟨g,c,rfl,F,J⟩;obtain⟨z,c',b,R⟩:=vG F;simp only[Value.slice.injEq]at b;obtain⟨rfl,_,rfl⟩:=b;have P:=zc R;have m1:=R.len;clear R F;go_wp2_with fail
 go_loopw [3,5] (λu v wr=>∃(j:Nat),v=.int .i64 j/\j<=D.length/\Own yp 1 wr O.heap.size 9 u ((D.take j).filter λp=>decide (p≠[]))/\Below O.heap.size O wr) (λ_ v _=>D.length-(intOf v).toNat)
 case atStart=>exact⟨0,rfl,AA _,Own.nil,Ae _ _⟩
 obtain⟨j,rfl,hj,F,B⟩:=hrel;obtain⟨A,G⟩:∃o,((D.take j).filter λp=>decide (p≠[]))=o:=⟨_,rfl⟩;have n:A.length<=j:=by rw[<-G];exact Ai (List.length_filter_le _ _) (by rw[AE];omega)
 rw[G]at F
 by_cases U:j<D.length
 case pos=>
  obtain⟨q,V⟩:=zl U;obtain⟨bq,oq,K,T,a⟩:=P.out.get V;simp only[Option.some.injEq,Addr.mk.injEq,and_true]at K;obtain⟨rfl,rfl⟩:=K;rw[Nat.zero_add]at a;have a:wr.cell? ⟨g,j,none⟩=some (.string (bs q)):=(B.cell (p:=⟨g,j,none⟩) T).trans a;have Z:=B.size;have E:Hid ((D.take (j+1)).filter (λp=>decide (p≠[]))=A++(if q=[] then [] else [q])):=zc (by
   rw[AO,V,List.filter_append,G]
   congr 1
   by_cases L:q=[] <;> simp[L])
  clear V G
  by_cases C:q=[]
  ·subst C
   rw[Aq rfl,AR]at E;go_wp2_with fail;go_roundw
   case rel=>exact⟨j+1,by go_num,by omega,by rw[E.out];exact F,B⟩
   case measure=>simp[intOf];omega
  rw[Au C]at E;have x:(q != ([]:List UInt8))=true:=by simpa using C
  have t:q.isEmpty=false:=by simpa using C
  clear C;go_wp2_with (at_builtin;refine zr (enc:=yp) rfl (.tmp 19) (.tmp 24) 23 rfl O.heap.size 9 y _ 1 16 Tryz.underlying23 l W X Y rfl (by decide) _ A q rfl F _ rfl wr.heap.size rfl rfl rfl uE (by omega) (by decide) Z ?_;intro gn i w6 H S m k);go_roundw
  case rel=>exact⟨j+1,by go_num,by omega,by rw[E.out];exact H,B.trans S⟩
  case measure=>simp[intOf];omega
 obtain rfl:j=D.length:=by omega
 rw[AL]at G;have Q:Hid (vL s=A):=zc (by rw[I.out,G]);have h:=zc J.size;obtain⟨Ao,co,rfl⟩:=F.form;clear G;go_wp2_with fail;go_ret;exact⟨_,rfl,by rw[Q.out];exact F.since h.out,za J B⟩
theorem nM(c:UInt8)(x:List UInt8):∀l:List (List UInt8),zO c (l++[x])=if l=[] then x else zO c l++[c]++x
 |[]=>by simp[zO]
 |[p]=>by simp[zO]
 |p::q::r=>by
  have ih:=nM c x (q::r);rw[Au (by simp)]at ih⊢;have e:(p::q::r)++[x]=p::q::(r++[x]):=rfl;rw[e,zO,zO];have e2:q::(r++[x])=(q::r)++[x]:=rfl;rw[e2,ih];simp
theorem dl(c:UInt8)(l:List (List UInt8)):∀k,(zO c (l.take k)).length<=(zO c (l.take (k+1))).length:=λk=>by
 by_cases hk:k<l.length
 ·obtain⟨x,hx⟩:=zl hk
  rw[AO,hx,Option.toList_some,nM]
  split
  ·next h=>rw[h];simp[zO]
  simp only[Ag];omega
 rw[AJ (show l.length<=k by omega),AJ (show l.length<=k+1 by omega)];exact Ay _
theorem bA(c:UInt8)(l:List (List UInt8))(k:Nat):(zO c (l.take k)).length<=(zO c l).length:=by
 have h:∀m,(zO c (l.take k)).length<=(zO c (l.take (k+m))).length:=λm=>by
  induction m with
  |zero=>exact Ay _
  |succ m ih=>exact Ai ih (dl c l (k+m))
 have:=h l.length
 rwa[AJ (show l.length<=k+l.length by omega)]at this
theorem tL(A:Option Addr)(c:Nat)(l:List (List UInt8))(B:UInt8)(w:World)(J:zS w A c l)(O:(zO B l).length<=100000000) :
  Calls Tryz.prog 23 #[.slice A l.length c,.string (bs [B])] w λe U=>e=.returned (.string (bs (zO B l)))/\Below w.heap.size w U:=by
 have P:=zc J;have X:=J.len;have N:Hid (∀k,(zO B (l.take k)).length<=100000000):=zc λk=>Ai (bA B l k) O;clear J O
 go_enter Tryz.func23,Tryz.ntmps23
 go_wp2_with fail
 go_loopw [5,6] (λu v wr=>∃(k:Nat) (t:List UInt8),v=.int .i64 k/\k<=l.length/\u=.string (bs t)/\Hid (zO B (l.take k)=t)/\Below w.heap.size w wr) (λ_ v _=>l.length-(intOf v).toNat)
 case atStart=>exact⟨0,[],rfl,AA _,rfl,zc rfl,Ae _ _⟩
 obtain⟨k,t,rfl,W,rfl,F,G⟩:=hrel;have R:t.length<=100000000:=by have C:=N.out k;rwa[F.out]at C
 by_cases L:k<l.length
 case neg=>
  obtain rfl:k=l.length:=by omega
  have Q:Hid (zO B l=t):=zc (by have C:=F.out;rwa[AL]at C);go_wp2_with fail;go_ret;exact⟨by rw[Q.out];rfl,G⟩
 obtain⟨x,H⟩:=zl L;obtain⟨b,T,rfl,K,V⟩:=P.out.get H;rw[<-G.cell (by exact K)]at V;have E:Hid (zO B (l.take (k+1))=if l.take k=[] then x else t++[B]++x):=zc (by rw[AO,H,Option.toList_some,nM,F.out]);have S:x.length<=100000000:=by
  have C:=N.out (k+1);rw[E.out]at C
  split at C
  ·exact C
  simp only[Ag]at C;omega
 by_cases I:k=0
 ·have D:Hid (zO B (l.take (k+1))=t++x):=zc (by
   have C:=F.out;rw[I]at C;rw[E.out,<-C,I];simp[zO])
  have M:¬0<k:=by omega
  clear H E I;go_wp2_with fail;go_roundw
  case rel=>exact⟨k+1,t++x,by go_num,by omega,by rw[Zx],D,G⟩
  case measure=>simp[intOf];omega
 have D:Hid (zO B (l.take (k+1))=t++[B]++x):=zc (by rw[E.out,Au];intro h;have C:=congrArg List.length h;rw[AE,AC]at C;omega);have M:0<k:=by omega
 clear H E;go_wp2_with fail;go_roundw
 case rel=>exact⟨k+1,t++[B]++x,by go_num,by omega,by rw[Zx,Zx],D,G⟩
 case measure=>simp[intOf];omega
theorem zP(e:Int)(C:zM e)(w:World)(G:ITab w) :
  Calls Tryz.prog 24 #[.int .i64 e] w λD H=>D=.returned (.string (bs (yO e)))/\Below w.heap.size w H:=by
 have F:=Lib.itoa_length_le e C.1 C.2;have uF:=wO e C w G;obtain⟨t,A⟩:∃t,Lib.itoa e=t:=⟨_,rfl⟩;have E:Hid (yO e=Ym++t):=zc (by unfold yO;rw[A]);rw[A]at F uF;clear A
 go_enter Tryz.func24,Tryz.ntmps24
 go_wp2_with fail;refine uF.mono ?_;rintro D I ⟨rfl,B⟩;clear uF;go_wp2_with fail;go_ret;refine⟨?_,B⟩;rw[E.out];rfl
theorem vm(A:Option Addr)(c0 c:Nat)(l:List Int)(F:Int)(w:World)(V:zI w A c0 l)(hl:l.length<=100000)(he:zM F)(W:ITab w) :
  Calls Tryz.prog 81 #[.slice A l.length c,.int .i64 F] w λe w'=>e=.returned (.string (bs (yb l F)))/\Below w.heap.size w w':=by
 have t:=zc V;have HT:=zc W;have m1:=V.len;have X:=zc V.i64;clear V;obtain⟨i0,hi,R,S,T⟩:=td
 by_cases U:F=0
 case neg=>
  have P0:(F != 0)=true:=by simp[U]
  have HR:Hid (yb l F=yO F):=zc (by unfold yb;rw[Au U]);have K:=zP F he w W;clear U W
  go_enter Tryz.func81,Tryz.ntmps81
  go_wp2_with fail;refine K.mono ?_;rintro e w1 ⟨rfl,d⟩;clear K;go_wp2_with fail;go_ret;exact⟨by rw[HR.out];rfl,d⟩
 subst U;clear he W
 cases l with
 |nil=>
  go_enter Tryz.func81,Tryz.ntmps81
  go_wp2_with fail;go_ret;exact⟨rfl,Ae _ _⟩
 |cons x r=>
 have H:Hid (yb (x::r) 0=zO 32 ((x::r).map qW)):=zc (by unfold yb;rw[Aq rfl,Au (by simp)]);have j:((((x::r).length:Nat):Int)== 0)=false:=by simp;omega
 obtain⟨l,O⟩:∃l,x::r=l:=⟨_,rfl⟩;rw[O]at t m1 X hl H j⊢;clear O
 go_enter Tryz.func81,Tryz.ntmps81
 go_wp2_with fail
 go_loopw [5,6] (λu v wr=>∃k:Nat,k<=l.length/\v=.int .i64 k/\Own yp 1 wr w.heap.size 9 u ((l.take k).map qW)/\Below w.heap.size w wr) (λ_ v _=>l.length-(intOf v).toNat)
 case atStart=>exact⟨0,AA _,rfl,Own.nil,Ae _ _⟩
 obtain⟨k,hk,rfl,G,M⟩:=hrel;have q:=M.size;have C:((l.take k).map qW).length+1<=1000000:=by rw[Az,AE];omega
 by_cases i:k<l.length
 case neg=>
  obtain rfl:k=l.length:=by omega
  rw[AL]at G C;obtain⟨out,E⟩:∃out,l.map qW=out:=⟨_,rfl⟩;have P:out.length=l.length:=by rw[<-E,Az]
  rw[E]at G C H;obtain⟨Ao,co,rfl,hS⟩:=vG G;have hj:=tL Ao co out 32 wr hS (by
   have h1:=si (c:=32) (m:=21) (l:=out) λy hy=>by
    rw[<-E]at hy;obtain⟨n,L,rfl⟩:=AD.1 hy;exact dM (X.out n L)
   rw[P]at h1;omega)
  have HJ:=zc hj;clear G E P hS hj;go_wp2_with fail;refine HJ.out.mono ?_;rintro e w2 ⟨rfl,f⟩;go_wp2_with fail;go_ret;exact⟨by rw[H.out];rfl,za M f⟩
 obtain⟨n,L⟩:=zl i;obtain⟨b,R0,rfl,a,x0⟩:=t.out.get L;rw[<-M.cell (by exact a)]at x0;have o:=X.out n (Ad L);have uF:=wO n o wr (HT.out.ext M);obtain⟨out,E⟩:∃out,(l.take k).map qW=out:=⟨_,rfl⟩;have z:Hid (out++[qW n]=(l.take (k+1)).map qW):=zc (by rw[<-E];exact lT L);rw[E]at G C
 by_cases K:n=1099511627776
 case pos=>
  subst K;have D:Hid (qW 1099511627776=[45]):=zc rfl;clear L E uF;go_wp2_with (at_builtin;refine zr (enc:=yp) rfl (.tmp 25) (.tmp 26) 23 rfl w.heap.size 9 i0 _ 1 16 Tryz.underlying23 hi R S T rfl (by decide) _ out [45] rfl G _ rfl wr.heap.size rfl rfl rfl uE C (by decide) q ?_;intro gn Y w6 B J h g);go_roundw
  case rel=>exact⟨k+1,by omega,by go_num,by rw[<-z.out,D.out];exact B,M.trans J⟩
  case measure=>simp[intOf];omega
 have hq:(n== 1099511627776)=false:=by simpa using K
 have D:Hid (qW n=Lib.itoa n):=zc (by unfold qW;rw[Au K]);obtain⟨s,Q⟩:∃s,Lib.itoa n=s:=⟨_,rfl⟩;rw[Q]at uF D;clear L E Q K;go_wp2_with fail;refine uF.mono ?_;rintro e w3 ⟨rfl,I⟩;have Z:=G.ext I;have N:=za M I;have p:w.heap.size<=w3.heap.size:=N.size;clear uF G I;go_wp2_with (at_builtin;refine zr (enc:=yp) rfl (.tmp 28) (.tmp 34) 23 rfl w.heap.size 9 i0 _ 1 16 Tryz.underlying23 hi R S T rfl (by decide) _ out s rfl Z _ rfl w3.heap.size rfl rfl rfl uE C (by decide) p ?_;intro gn Y w6 B J h g)
 go_roundw
 case rel=>exact⟨k+1,by omega,by go_num,by rw[<-z.out,D.out];exact B,N.trans J⟩
 case measure=>simp[intOf];omega
