import Derived.Lib.SplitLaws
import Derived.Lib.Join
import Derived.Test.YtjcimdpldlamfaaGreatDoorBd0b12453847
namespace Go.Proofs.YtjcimdpldlamfaaGreatDoor
open Go.Lib
def zk(c:UInt8):List UInt8->List (List UInt8)
 |[]=>[[]]
 |b::l=>if b=c then []::zk c l else (b::(zk c l).headD [])::(zk c l).tail
theorem su(c:UInt8)(l:List UInt8):zk c l≠[]:=by
 cases l with
 |nil=>simp[zk]
 |cons b l=>simp only[zk];split <;> simp
theorem wg(c:UInt8)(l:List UInt8):∃p A,zk c l=p::A:=by
 cases h:zk c l with
 |nil=>exact absurd h (su c l)
 |cons p A=>exact⟨p,A,rfl⟩
theorem XW(c:UInt8)(l:List UInt8):∃init last,zk c l=init++[last]:=⟨_,_,(List.dropLast_concat_getLast (su c l)).symm⟩
theorem xf(c:UInt8)(l:List UInt8):zk c (c::l)=[]::zk c l:=by simp[zk]
theorem yc{b c:UInt8}{l p:List UInt8}{ps:List (List UInt8)}(h:b≠c)(A:zk c l=p::ps):zk c (b::l)=(b::p)::ps:=by simp[zk,h,A]
theorem mn(c:UInt8):∀l:List UInt8,zk c (l++[c])=zk c l++[[]]
 |[]=>by simp[zk]
 |b::l=>by
  have ih:=mn c l;obtain⟨p,ps,hp⟩:=wg c l;rw[List.cons_append]
  by_cases h:b=c
  ·subst h;rw[xf,xf,ih];rfl
  rw[hp]at ih;rw[yc h ih,yc h hp];rfl
theorem tj{b c:UInt8}(A:b≠c):∀(l:List UInt8) (init:List (List UInt8)) (last:List UInt8),zk c l=init++[last]->zk c (l++[b])=init++[last++[b]]
 |[],init,last,h=>by
  cases init with
  |nil=>
   have e:last=[]:=by simpa[zk]using h.symm
   subst e;simp[zk,A]
  |cons q init=>simp[zk]at h
 |x::l,init,last,h=>by
  obtain⟨p,ps,B⟩:=wg c l;rw[List.cons_append]
  by_cases C:x=c
  ·subst C
   rw[xf]at h⊢
   cases init with
   |nil=>rw[B]at h;simp at h
   |cons q init=>
    simp only[List.cons_append,List.cons.injEq]at h;rw[tj A l init last h.2,<-h.1];rfl
  rw[yc C B]at h
  cases init with
  |nil=>
   simp only[List.nil_append,List.cons.injEq]at h;have e:=tj A l [] p (by rw[B,h.2];rfl);rw[yc C (p:=p++[b]) (ps:=[]) (by rw[e];rfl),<-h.1];rfl
  |cons q init=>
   simp only[List.cons_append,List.cons.injEq]at h;have e:=tj A l (p::init) last (by rw[B,h.2];rfl);rw[yc C (p:=p) (ps:=init++[last++[b]]) (by rw[e];rfl),h.1];rfl
theorem pH{c b:UInt8}{s:List UInt8}{i:Nat}{init:List (List UInt8)}{last:List UInt8}(A:s[i]?=some b)(h:zk c (s.take i)=init++[last]) :
  zk c (s.take (i+1))=if b=c then (init++[last])++[[]] else init++[last++[b]]:=by
 have e:s.take (i+1)=s.take i++[b]:=by rw[List.take_add_one,A];rfl
 rw[e]
 split
 ·next hc=>subst hc;rw[mn,h]
 next hc=>exact tj hc _ _ _ h
theorem dW(c:UInt8):∀(l p:List UInt8),p∈zk c l->c∉p
 |[],p,h=>by simp[zk]at h;subst h;simp
 |b::l,p,h=>by
  obtain⟨q,ps,hq⟩:=wg c l;have ih:=dW c l;rw[hq]at ih
  by_cases hb:b=c
  ·subst hb
   rw[xf,hq]at h;rcases List.mem_cons.1 h with rfl|h
   ·simp
   exact ih p h
  rw[yc hb hq]at h;rcases List.mem_cons.1 h with rfl|h
  ·intro hc
   rcases List.mem_cons.1 hc with e|hc
   ·exact hb e.symm
   exact ih q (by simp) hc
  exact ih p (by simp[h])
def zO(c:UInt8):List (List UInt8)->List UInt8
 |[]=>[]
 |[p]=>p
 |p::q::r=>p++c::zO c (q::r)
theorem Si{c:UInt8}{p:List UInt8}{l:List (List UInt8)}(h:l≠[]):zO c (p::l)=p++c::zO c l:=by
 cases l with
 |nil=>exact absurd rfl h
 |cons q r=>rfl
theorem mV(c:UInt8):∀l:List UInt8,zO c (zk c l)=l
 |[]=>rfl
 |b::l=>by
  have ih:=mV c l;obtain⟨q,ps,hq⟩:=wg c l
  by_cases hb:b=c
  ·subst hb;rw[xf,Si (su _ _),ih];rfl
  rw[yc hb hq];rw[hq]at ih
  cases ps with
  |nil=>simp only[zO]at ih⊢;rw[ih]
  |cons r ps=>simp only[zO]at ih⊢;rw[<-ih];rfl
theorem kB(c:UInt8):index [] [c]=-1:=by simp[index]
theorem qP(b c:UInt8)(l:List UInt8):index (b::l) [c]=if b=c then 0 else if index l [c]=-1 then -1 else index l [c]+1:=by
 rw[index]
 by_cases h:b=c
 ·simp[h,List.isPrefixOf]
 have A:¬c=b:=λe=>h e.symm;simp[h,A,List.isPrefixOf]
theorem uD{c:UInt8}:∀{s:List UInt8},index s [c]=-1->zk c s=[s]
 |[],_=>rfl
 |b::l,h=>by
  rw[qP]at h
  by_cases hb:b=c
  ·rw[if_pos hb]at h;omega
  rw[if_neg hb]at h
  by_cases hl:index l [c]=-1
  ·rw[yc hb (uD hl)]
  rw[if_neg hl]at h;have:=index_ge l [c];omega
theorem vk{c:UInt8}:∀{s:List UInt8} {i:Nat},index s [c]=i->zk c s=s.take i::zk c (s.drop (i+1))
 |[],i,h=>by rw[kB]at h;omega
 |b::l,i,h=>by
  rw[qP]at h
  by_cases hb:b=c
  ·rw[if_pos hb]at h
   obtain rfl:i=0:=by omega
   subst hb;rw[xf];rfl
  rw[if_neg hb]at h
  by_cases A:index l [c]=-1
  ·rw[if_pos A]at h;omega
  rw[if_neg A]at h;have:=index_ge l [c];obtain⟨j,rfl⟩:∃j,i=j+1:=⟨i-1,by omega⟩;rw[yc hb (vk (i:=j) (by omega))];rfl
theorem YP{c:UInt8}{s:List UInt8}(h:zk c s=[s]):cut s [c]=(s,[],false):=by
 unfold cut
 by_cases B:0<=index s [c]
 ·obtain⟨i,A⟩:∃i:Nat,index s [c]=i:=⟨(index s [c]).toNat,by omega⟩
  have e:=vk A;rw[h]at e;have:=su c (s.drop (i+1));simp only[List.cons.injEq]at e;exact absurd e.2.symm this
 rw[if_neg B]
theorem eF{c:UInt8}{s p:List UInt8}{q:List UInt8}{ps:List (List UInt8)}(h:zk c s=p::q::ps):∃r,cut s [c]=(p,r,true)/\zk c r=q::ps/\r.length+1<=s.length:=by
 unfold cut
 by_cases B:0<=index s [c]
 ·obtain⟨i,A⟩:∃i:Nat,index s [c]=i:=⟨(index s [c]).toNat,by omega⟩
  have e:=vk A;have C:=index_room s [c] B;rw[h]at e;simp only[List.cons.injEq]at e;rw[if_pos B,A];refine⟨s.drop (i+1),?_,e.2.symm,?_⟩
  ·rw[e.1];rfl
  rw[List.length_drop];rw[A]at C;simp only[List.length_cons,List.length_nil]at C;omega
 have D:=index_ge s [c];rw[uD (by omega)]at h;simp at h
theorem kI(c:UInt8):∀(n:Nat) (s:List UInt8),s.length<=n->splitK [c] 0 (count s [c]) s=zk c s
 |n,s,hn=>by
  by_cases hi:index s [c]=-1
  ·rw[count_miss hi]
   rw[uD hi];rfl
  have hg:=index_ge s [c];obtain⟨i,hi'⟩:∃i:Nat,index s [c]=i:=⟨(index s [c]).toNat,by omega⟩;have hr:=index_room s [c] (by omega);rw[hi']at hr;simp only[List.length_cons,List.length_nil]at hr;have hlen:(s.drop (i+1)).length<s.length:=by rw[List.length_drop];omega
  rw[count_hit (by simp) hi',Nat.add_comm,splitK,if_neg (by simp[hi]),hi',vk hi']
  cases n with
  |zero=>omega
  |succ n=>
   have A:=kI c n (s.drop (i+1)) (by omega);simp only[List.length_cons,List.length_nil,Int.toNat_natCast,Nat.add_zero,Nat.zero_add];rw[A]
def vC(b:UInt8):Bool:=decide (48<=b.toNat/\b.toNat<=57)
def yL(s:List UInt8):Int:=if (1<=s.length/\s.length<=4/\¬(s[0]?=some 48/\1<s.length))/\s.all vC=true then (vU s:Int) else -1
def yn(w:List (List UInt8)):Option (List Int):=if w.all (λs=>decide (0<=yL s))=true then some (w.map yL) else none
theorem UW{s:List UInt8}(h:1<=s.length/\s.length<=4/\¬(s[0]?=some 48/\1<s.length))(A:s.all vC=true):yL s=(vU s:Int):=by unfold yL;rw[if_pos ⟨h,A⟩]
theorem eo{s:List UInt8}(h:¬(1<=s.length/\s.length<=4/\¬(s[0]?=some 48/\1<s.length))):yL s=-1:=by unfold yL;rw[if_neg (λe=>h e.1)]
theorem XN{s:List UInt8}(h:s.all vC=false):yL s=-1:=by unfold yL;rw[if_neg (by simp[h])]
theorem cj:∀(s:List UInt8),s.all vC=true->vU s<10 ^ s.length:=by
 have A:∀(s:List UInt8) (a k:Nat),s.all vC=true->a<10 ^ k->s.foldl (λa b=>10*a+(b.toNat-48)) a<10 ^ (k+s.length):=by
  intro s
  induction s with
  |nil=>intro a k _ h;exact h
  |cons b s ih=>
   intro a k h B;simp only[List.all_cons,Bool.and_eq_true,vC,decide_eq_true_eq]at h;have e:k+(b::s).length=(k+1)+s.length:=by simp only[List.length_cons];omega
   rw[List.foldl_cons,e];refine ih _ _ h.2 ?_;rw[Nat.pow_succ];omega
 intro s h;have:=A s 0 0 h (by decide);rw[Nat.zero_add]at this;exact this
theorem nQ(s:List UInt8):-1<=yL s/\yL s<10000:=by
 unfold yL
 split
 ·next h=>
  have A:=cj s h.2;have B:10 ^ s.length<=10 ^ 4:=Nat.pow_le_pow_right (by decide) h.1.2.1;omega
 omega
theorem dL(s:List UInt8):zM (yL s):=by have:=nQ s;constructor <;> omega
theorem SC:yn []=some []:=rfl
theorem jg{w:List (List UInt8)}(h:w.all (λs=>decide (0<=yL s))=true):yn w=some (w.map yL):=by unfold yn;rw[if_pos h]
theorem jf{w:List (List UInt8)}(h:w.all (λs=>decide (0<=yL s))=false):yn w=none:=by unfold yn;rw[if_neg (by simp[h])]
abbrev qn:zf:=⟨0,[],[]⟩
def yX(g:zf)(v:List UInt8)(n:List Int):Option zf:=
 match n with
 |[a]=>if v=yz then some { g with h:=a } else none
 |[a,b]=>if v=xV then (if g.edges=[] then some { g with lives:=g.lives++[⟨a,b⟩]} else none)
  else if v=xt then some { g with edges:=g.edges++[⟨a,b,[]⟩]} else none
 |[a,b,c,d]=>if v=qf then
   match g.edges.getLast? with
   |none=>none
   |some x=>some { g with edges:=g.edges.dropLast++[⟨x.a,x.b,x.legs++[⟨a,b,c,d⟩]⟩]}
  else none
 |_=>none
def xJ(g:zf)(first:Bool):List (List UInt8)->Option zf
 |[]=>none
 |v::w=>match yn w with
  |none=>none
  |some n=>if first=decide (v=yz) then yX g v n else none
def gd(g:zf):zf×Int×Int:=if zz g=0 then (g,0,0) else (qn,0,zz g)
def yE:Nat->zf->List (List UInt8)->zf×Int×Int
 |_,g,[]=>gd g
 |i,g,[p]=>if 0<i/\p=[] then gd g else (qn,(i:Int)+1,3)
 |i,g,p::q::l=>match xJ g (decide (i=0)) (zk 32 p)with
  |none=>(qn,(i:Int)+1,3)
  |some g'=>yE (i+1) g' (q::l)
def zY(s:List UInt8):zf×Int×Int:=if 8192<s.length then (qn,0,2) else yE 0 qn (zk 10 s)
theorem fJ{i:Nat}{g:zf}(h:0<i):yE i g [[]]=gd g:=by rw[yE,if_pos ⟨h,rfl⟩]
theorem fI{i:Nat}{g:zf}{p:List UInt8}(h:¬(0<i/\p=[])):yE i g [p]=(qn,(i:Int)+1,3):=by rw[yE,if_neg h]
theorem aX{g:zf}{l:List zA}{x:zA}{a b c d:Int}(h:g.edges=l++[x]):yX g qf [a,b,c,d]=some { g with edges:=l++[⟨x.a,x.b,x.legs++[⟨a,b,c,d⟩]⟩]}:=by
 simp[yX,h]
theorem cL{g:zf}{a b c d:Int}(h:g.edges=[]):yX g qf [a,b,c,d]=none:=by
 simp[yX,h]
def Ym:List UInt8:=[101,114,114,111,114,32]
def yO(e:Int):List UInt8:=Ym++Lib.itoa e
def qW(n:Int):List UInt8:=if n=1099511627776 then [45] else Lib.itoa n
def cU:List UInt8:=[110,111,110,101]
def Uw:List UInt8:=[111,107]
def yb(l:List Int)(e:Int):List UInt8:=if e=0 then (if l=[] then cU else zO 32 (l.map qW)) else yO e
def ux(p:zg):List UInt8:=Lib.itoa p.f++[45]++Lib.itoa p.t++[58]++Lib.itoa p.v
def xe(m:List zg):List UInt8:=if m=[] then [45] else zO 44 (m.map ux)
theorem Xw(c:UInt8):∀l:List (List UInt8),Lib.join l [c]=zO c l
 |[]=>rfl
 |[p]=>Lib.join_one p [c]
 |p::q::r=>by
  have ih:=Xw c (q::r);rw[zO,<-ih];simp[Lib.join,List.intercalate,List.intersperse]
theorem si{c:UInt8}{m:Nat}:∀{l:List (List UInt8)},(∀x,x∈l->x.length<=m)->(zO c l).length<=l.length*(m+1)
 |[],_=>by simp[zO]
 |[p],h=>by have:=h p (by simp);simp[zO];omega
 |p::q::r,h=>by
  have h1:=h p (by simp);have h2:=si (c:=c) (l:=q::r) λx hx=>h x (by simp[hx]);rw[zO,List.length_append,List.length_cons];rw[List.length_cons,Nat.succ_mul];omega
theorem dq(c:UInt8):∀l:List (List UInt8),l.length<=(zO c l).length+1
 |[]=>by simp
 |[p]=>by simp
 |p::q::r=>by
  have h:=dq c (q::r);have e:(zO c (p::q::r)).length=p.length+((zO c (q::r)).length+1):=by rw[zO,List.length_append,List.length_cons]
  have A:(p::q::r).length=(q::r).length+1:=rfl;omega
theorem dM{n:Int}(h:zM n):(qW n).length<=21:=by
 unfold qW
 split
 ·simp
 exact Lib.itoa_length_le n h.1 h.2
theorem oN{e:Int}(h:zM e):(yO e).length<=27:=by
 have:=Lib.itoa_length_le e h.1 h.2;have A:Ym.length=6:=rfl;unfold yO;rw[List.length_append,A];omega
theorem rt{l:List Int}{e:Int}(h:∀n,n∈l->zM n)(A:zM e):(yb l e).length<=l.length*22+27:=by
 unfold yb
 split
 ·split
  ·simp[cU]
  have:=si (c:=32) (m:=21) (l:=l.map qW) λx C=>by
   obtain⟨n,B,rfl⟩:=List.mem_map.1 C;exact dM (h n B)
  rw[List.length_map]at this;omega
 have:=oN A;omega
theorem dU{p:zg}(h1:zM p.f)(A:zM p.t)(B:zM p.v):(ux p).length<=65:=by
 have a:=Lib.itoa_length_le p.f h1.1 h1.2;have b:=Lib.itoa_length_le p.t A.1 A.2;have c:=Lib.itoa_length_le p.v B.1 B.2;unfold ux;simp only[List.length_append,List.length_cons,List.length_nil];omega
theorem fG{m:List zg}(h:∀p,p∈m->zM p.f/\zM p.t/\zM p.v):(xe m).length<=m.length*66+1:=by
 unfold xe
 split
 ·simp
 have:=si (c:=44) (m:=65) (l:=m.map ux) λx B=>by
  obtain⟨p,A,rfl⟩:=List.mem_map.1 B;exact dU (h p A).1 (h p A).2.1 (h p A).2.2
 rw[List.length_map]at this;omega
def vN:Int:=1099511627776
def uy(s:zH)(v:Int):Bool:=decide (0<=v) && (s.alive[v.toNat]?== some true)
def wD(s:zH)(a:xz):Bool:=uy s a.a && uy s a.b
def ri(a:xz):Bool:=decide (0<=a.cost/\a.cost<=1000)
def zW(s:zH):Int:=if 12<s.alive.length∨30<s.arcs.length then 2 else if s.arcs.all (wD s)=false then 4 else if s.arcs.all ri=false then 1 else 0
theorem kH{s:zH}(h:12<s.alive.length∨30<s.arcs.length):zW s=2:=by unfold zW;rw[if_pos h]
theorem iG{s:zH}(h:¬(12<s.alive.length∨30<s.arcs.length))(A:s.arcs.all (wD s)=false):zW s=4:=by unfold zW;rw[if_neg h,if_pos A]
theorem Yd{s:zH}(h:¬(12<s.alive.length∨30<s.arcs.length))(A:s.arcs.all (wD s)=true)(B:s.arcs.all ri=false):zW s=1:=by
 unfold zW;rw[if_neg h,if_neg (by simp[A]),if_pos B]
theorem cB{s:zH}(h:¬(12<s.alive.length∨30<s.arcs.length))(A:s.arcs.all (wD s)=true)(B:s.arcs.all ri=true):zW s=0:=by
 unfold zW;rw[if_neg h,if_neg (by simp[A]),if_neg (by simp[B])]
structure OH(s:zH)(a:xz):Prop where
 a0:0<=a.a
 a1:a.a.toNat<s.alive.length
 al:s.alive[a.a.toNat]?=some true
 b0:0<=a.b
 b1:a.b.toNat<s.alive.length
 bl:s.alive[a.b.toNat]?=some true
 c0:0<=a.cost
 c1:a.cost<=1000
structure pZ(s:zH):Prop where
 nv:s.alive.length<=12
 na:s.arcs.length<=30
 arcs:∀a,a∈s.arcs->OH s a
theorem sw{s:zH}(h:zW s=0):pZ s:=by
 unfold zW at h
 split at h
 ·simp at h
 rename_i h1
 split at h
 ·simp at h
 rename_i h2
 split at h
 ·simp at h
 rename_i h3
 simp only[Bool.not_eq_false,List.all_eq_true]at h2 h3;refine⟨by omega,by omega,λa B=>?_⟩;have C:=h2 a B;have A:=h3 a B;simp only[wD,uy,Bool.and_eq_true,decide_eq_true_eq,beq_iff_eq]at C;simp only[ri,decide_eq_true_eq]at A;obtain⟨⟨F,D⟩,G,E⟩:=C;exact⟨F,zy D,D,G,zy E,E,A.1,A.2⟩
def rc(wt:xz->Int)(a:xz):pU Nat:=⟨a.a.toNat,a.b.toNat,λt=>t+wt a⟩
def iU(wt:xz->Int)(a:xz):pU Nat:=⟨a.b.toNat,a.a.toNat,λt=>t+wt a⟩
def qJ(s:zH)(wt:xz->Int):List (pU Nat):=s.arcs.map (rc wt)
def sA(s:zH)(wt:xz->Int)(back:Bool)(x:pU Nat):Prop:=∃a,a∈s.arcs/\(x=rc wt a∨back=true/\x=iU wt a)
def gS(_:xz):Int:=1
def mq(a:xz):Int:=a.cost
def nb(_:xz):Int:=0
def wS(s:zH)(v:Int):List Int:=(List.range s.alive.length).map λ(k:Nat)=>if s.alive[k]?=some true/\(k:Int)=v then 0 else vN
def wy(s:zH):List Int:=(List.range s.alive.length).map λ(k:Nat)=>if s.alive[k]?=some true then (k:Int) else vN
theorem uL{n:Nat}{f:Nat->Int}{k:Nat}(h:k<n):gi ((List.range n).map f) k=f k:=vE (by simp[h])
theorem ta{n:Nat}{f:Nat->Int}{k:Nat}(h:n<=k):gi ((List.range n).map f) k=0:=nF (by simpa using h)
theorem VM{s:zH}{wt:xz->Int}:(λx=>x∈qJ s wt)=sA s wt false:=by
 funext x
 simp only[qJ,sA,List.mem_map,eq_iff_iff]
 constructor
 ·rintro⟨a,h,rfl⟩;exact⟨a,h,.inl rfl⟩
 rintro⟨a,h,rfl|⟨A,_⟩⟩
 ·exact⟨a,h,rfl⟩
 simp at A
theorem rK(n:Int):kj λt=>t+n:=λs t h=>by simp only;omega
def jx(s:zH)(wt:xz->Int)(v:Int)(l:List Int):Prop:=l.length=s.alive.length/\qp (sA s wt false) (gi (wS s v)) (gi l)
def tR(s:zH)(l:List Int):Prop:=l.length=s.alive.length/\qp (sA s nb true) (gi (wy s)) (gi l)
theorem jx.eq{s:zH}{wt:xz->Int}{v:Int}{l r:List Int}(h:jx s wt v l)(k:jx s wt v r):l=r:=eU (h.1.trans k.1.symm) (h.2.eq k.2)
theorem tR.eq{s:zH}{l r:List Int}(h:tR s l)(k:tR s r):l=r:=eU (h.1.trans k.1.symm) (h.2.eq k.2)
def iv(v:Nat):List xz->Int
 |[]=>0
 |a::l=>if a.a.toNat=v then iv v l+1 else iv v l
def jH(s:zH):List Int:=(List.range s.alive.length).map λ(k:Nat)=>if s.alive[k]?=some true then iv k s.arcs else vN
def yk(s:zH)(v:Int):Int:=if zW s=0 then (if 0<=v/\v<s.alive.length then 0 else 4) else zW s
theorem lu{s:zH}{v:Int}(h:¬zW s=0):yk s v=zW s:=by unfold yk;rw[if_neg h]
theorem sT{s:zH}{v:Int}(h:zW s=0)(A:¬(0<=v/\v<s.alive.length)):yk s v=4:=by unfold yk;rw[if_pos h,if_neg A]
theorem pl{s:zH}{v:Int}(h:zW s=0)(A:0<=v/\v<s.alive.length):yk s v=0:=by unfold yk;rw[if_pos h,if_pos A]
section
variable {s:zH}{v:Int}
theorem gK(s:zH)(v:Int)(i:Nat):gi (wS s v) i<=vN:=by
 by_cases h:i<s.alive.length
 ·unfold wS;rw[uL h];split <;> simp[vN]
 unfold wS;rw[ta (by omega)];simp[vN]
theorem ax(s:zH)(A:s.alive.length<=12)(i:Nat):gi (wy s) i<=vN:=by
 by_cases h:i<s.alive.length
 ·unfold wy;rw[uL h];split <;> (simp only[vN];omega)
 unfold wy;rw[ta (by omega)];simp[vN]
theorem gL(s:zH)(v:Int)(i:Nat):0<=gi (wS s v) i:=by
 by_cases h:i<s.alive.length
 ·unfold wS;rw[uL h];split <;> simp[vN]
 unfold wS;rw[ta (by omega)];simp
theorem gy(s:zH)(i:Nat):0<=gi (wy s) i:=by
 by_cases h:i<s.alive.length
 ·unfold wy;rw[uL h];split <;> first|(unfold vN;omega)|omega
 unfold wy;rw[ta (by omega)];simp
theorem qy{ι:Type}{A:pU ι->Prop}{init d:ι->Int}(h:wV A init d)(hi:∀i,0<=init i)(hf:∀x,A x->0<=x.f 0):∀i,0<=d i:=
 h (λ_=>0) ⟨hi,λx hx=>hf x hx⟩
end
theorem kU{p q:Nat->Bool}(h:∀u,p u=true->q u=true):∀(l:List Nat),(∃u,u∈l/\q u=true/\p u=false)->l.countP p+1<=l.countP q
 |[],⟨u,hu,_⟩=>by simp at hu
 |x::l,⟨u,hu,h1,h2⟩=>by
  have hle:l.countP p<=l.countP q:=List.countP_mono_left λy _ hy=>h y hy;rcases List.mem_cons.1 hu with rfl|hu
  ·simp[h1,h2];omega
  have ih:=kU h l ⟨u,hu,h1,h2⟩;have hx:=h x
  cases hp:p x <;> cases hq:q x <;> simp[hp,hq] <;> simp[hp,hq]at hx <;> omega
section
variable {s:zH}{v:Int}{c h lb:List Int}
theorem Ph{wt:xz->Int}(hc:jx s wt v c)(i:Nat):gi c i<=vN:=Int.le_trans (hc.2.1.1 i) (gK s v i)
theorem Pi{wt:xz->Int}(hw:∀a,a∈s.arcs->0<=wt a)(hc:jx s wt v c)(i:Nat):0<=gi c i:=
 qy hc.2.2 (gL s v) (λx hx=>by
  obtain⟨a,ha,rfl|⟨hb,_⟩⟩:=hx
  ·have:=hw a ha;simp only[rc];omega
  simp at hb) i
theorem ay{i:Nat}(hi:i<s.alive.length):gi (wy s) i=if s.alive[i]?=some true then (i:Int) else vN:=by unfold wy;rw[uL hi]
theorem WZ{k:Nat}(A:k<s.alive.length):gi (jH s) k=if s.alive[k]?=some true then iv k s.arcs else vN:=by unfold jH;rw[uL A]
end
structure iR(A:pU Nat->Prop)(init now d:Nat->Int)(T:pU Nat->Prop):Prop where
 le:∀i,d i<=now i
 above:wV A init d
 told:∀x,T x->d x.b<=x.f (now x.a)
theorem iR.start{A:pU Nat->Prop}{init now:Nat->Int}(h:wV A init now):iR A init now now (λ_=>False):=⟨λ_=>Int.le_refl _,h,λ_ h=>h.elim⟩
theorem iR.step{A T:pU Nat->Prop}{init B d:Nat->Int}(h:iR A init B d T)(G:wV A init B){x:pU Nat}(H:A x)(F:kj x.f):iR A init B (upd d x.b (min (d x.b) (x.f (B x.a)))) (λy=>T y∨y=x):=by
 have C:∀i,upd d x.b (min (d x.b) (x.f (B x.a))) i<=d i:=λi=>by
  by_cases E:i=x.b
  ·subst E;rw[yD];omega
  rw[yx _ _ E];exact Int.le_refl _
 refine⟨λi=>Int.le_trans (C i) (h.le i),h.above.upd G H F (Int.le_refl _),λy D=>?_⟩;rcases D with D|rfl
 ·exact Int.le_trans (C _) (h.told y D)
 rw[yD];omega
theorem iR.mono{A T T':pU Nat->Prop}{init now d:Nat->Int}(h:iR A init now d T)(ht:∀x,T' x->T x):iR A init now d T':=⟨h.le,h.above,λx hx=>h.told x (ht x hx)⟩
def km(s:zH)(wt:xz->Int)(back:Bool)(j:Nat)(x:pU Nat):Prop:=∃a,a∈s.arcs.take j/\(x=rc wt a∨back=true/\x=iU wt a)
theorem WQ{s:zH}{wt:xz->Int}{A:Bool}(x:pU Nat)(h:km s wt A 0 x):False:=by
 obtain⟨a,B,_⟩:=h;simp at B
theorem WP{s:zH}{wt:xz->Int}{j:Nat}{y:xz}(C:s.arcs[j]?=some y)(x:pU Nat)(h:km s wt false (j+1) x):km s wt false j x∨x=rc wt y:=by
 obtain⟨a,A,B⟩:=h;rw[List.take_add_one,C]at A;rcases List.mem_append.1 A with A|A
 ·exact .inl ⟨a,A,B⟩
 obtain rfl:a=y:=by simpa using A
 rcases B with B|⟨hf,_⟩
 ·exact .inr B
 simp at hf
theorem WO{s:zH}{wt:xz->Int}{j:Nat}{y:xz}(C:s.arcs[j]?=some y)(x:pU Nat)(h:km s wt true (j+1) x):(km s wt true j x∨x=rc wt y)∨x=iU wt y:=by
 obtain⟨a,A,B⟩:=h;rw[List.take_add_one,C]at A;rcases List.mem_append.1 A with A|A
 ·exact .inl (.inl ⟨a,A,B⟩)
 obtain rfl:a=y:=by simpa using A
 rcases B with B|⟨_,B⟩
 ·exact .inl (.inr B)
 exact .inr B
theorem Tm{s:zH}{wt:xz->Int}{A:Bool}{j:Nat}(D:s.arcs.length<=j)(x:pU Nat)(h:sA s wt A x):km s wt A j x:=by
 obtain⟨a,B,C⟩:=h;exact⟨a,by rw[List.take_of_length_le D];exact B,C⟩
theorem Uh{s:zH}{wt:xz->Int}{back:Bool}{init now d:Nat->Int}{j:Nat}(hle:∀i,now i<=init i)(hn:wV (sA s wt back) init now)(h:iR (sA s wt back) init now d (km s wt back j))(hj:s.arcs.length<=j)(he:d=now):qp (sA s wt back) init now:=
 ⟨⟨hle,λx hx=>by have:=h.told x (Tm hj x hx);rwa[he]at this⟩,hn⟩
def mh(p:Int)(a:xz):Int:=if p=1 then 1 else if p=2 then a.cost else 0
theorem Rk{s:zH}(hs:pZ s)(p:Int):∀a,a∈s.arcs->0<=mh p a/\mh p a<=1000:=λa ha=>by
 have:=(hs.arcs a ha).c0;have:=(hs.arcs a ha).c1;unfold mh
 split
 ·omega
 split <;> omega
def vo(s:zH)(p v:Int):List Int:=(List.range s.alive.length).map λ(k:Nat)=>if s.alive[k]?=some true/\p=3 then (k:Int) else if s.alive[k]?=some true/\(k:Int)=v then 0 else vN
theorem Zv(s:zH)(v:Int):vo s 3 v=wy s:=by
 unfold vo wy;refine List.map_congr_left λk _=>?_
 by_cases h:s.alive[k]?=some true <;> simp[h]
theorem nA(s:zH){p:Int}(A:p≠3)(v:Int):vo s p v=wS s v:=by
 unfold vo wS;refine List.map_congr_left λk _=>?_;rw[if_neg (λh=>A h.2)]
theorem bW(s:zH)(B:s.alive.length<=12)(p v:Int)(i:Nat):gi (vo s p v) i<=vN:=by
 by_cases A:p=3
 ·rw[A,Zv];exact ax s B i
 rw[nA s A];exact gK s v i
theorem bY(s:zH)(p v:Int)(i:Nat):0<=gi (vo s p v) i:=by
 by_cases A:p=3
 ·rw[A,Zv];exact gy s i
 rw[nA s A];exact gL s v i
theorem bX(s:zH)(p v:Int):(vo s p v).length=s.alive.length:=by simp[vo]
theorem YE{s:zH}{wt:xz->Int}{A:Bool}(B:∀a,a∈s.arcs->0<=wt a):∀x,sA s wt A x->0<=x.f 0:=by
 rintro x ⟨a,C,rfl|⟨_,rfl⟩⟩ <;> (have:=B a C;simp only[rc,iU];omega)
structure Bf(A:pU Nat->Prop)(d e:Nat->Int):Prop where
 le:∀v,e v<=d v
 arc:∀x,A x->e x.b<=x.f (d x.a)
 from_:∀v,e v=d v∨∃x,A x/\x.b=v/\e v=x.f (d x.a)
theorem Bf.eq{A:pU Nat->Prop}{d e B:Nat->Int}(h:Bf A d e)(k:Bf A d B):e=B:=by
 have C:∀{e B:Nat->Int},Bf A d e->Bf A d B->∀v,e v<=B v:=λ{e B} h k v=>by
  rcases k.from_ v with D|⟨x,hx,rfl,D⟩
  ·rw[D];exact h.le v
  rw[D];exact h.arc x hx
 exact funext λv=>Int.le_antisymm (C h k v) (C k h v)
inductive ly(A:pU Nat->Prop)(init:Nat->Int):Nat->(Nat->Int)->Prop
 |zero:ly A init 0 init
 |succ {k:Nat} {d e:Nat->Int}:ly A init k d->Bf A d e->ly A init (k+1) e
section
variable {A:pU Nat->Prop}{init d e d':Nat->Int}{k m n:Nat}
theorem ly.eq(h:ly A init k d):∀{d':Nat->Int},ly A init k d'->d=d':=by
 induction h with
 |zero=>intro d' B;cases B;rfl
 |succ h hb ih=>
  intro d' B
  cases B with
  |succ B hb'=>
   obtain rfl:=ih B;exact hb.eq hb'
theorem ly.le(h:ly A init k d):∀v,d v<=init v:=by
 induction h with
 |zero=>intro v;exact Int.le_refl _
 |succ h hb ih=>intro v;exact Int.le_trans (hb.le v) (ih v)
theorem wV.bf(hm:∀x,A x->kj x.f)(h:wV A init d)(hb:Bf A d e):wV A init e:=λs hs v=>by
 rcases hb.from_ v with h1|⟨x,hx,rfl,h1⟩
 ·rw[h1];exact h s hs v
 rw[h1];exact Int.le_trans (hs.2 x hx) (hm x hx _ _ (h s hs x.a))
theorem ly.above(B:∀x,A x->kj x.f)(h:ly A init k d):wV A init d:=by
 induction h with
 |zero=>exact wM
 |succ h hb ih=>exact ih.bf B hb
theorem ly.best(hm:∀x,A x->kj x.f)(h:ly A init k d)(hs:Bf A d d):qp A init d:=⟨⟨h.le,hs.arc⟩,h.above hm⟩
theorem ly.stay(h:ly A init k d)(B:Bf A d d):∀{m:Nat},k<=m->ly A init m d
  | 0, hk => by obtain rfl : k = 0 := by omega
                exact h
  |m+1,hk=>by
    rcases Nat.lt_or_ge m k with h1|h1
    · obtain rfl:k=m+1:=by omega
      exact h
    exact .succ (ly.stay h B h1) B
theorem ly.first(h:ly A init k d)(C:Bf A d d)(D:ly A init m d')(H:m=0∨∃p c,m=p+1/\ly A init p c/\c≠d'):m<=k:=by
 refine Classical.byContradiction λI=>?_;rcases H with rfl|⟨p,c,rfl,G,B⟩
 ·omega
 have E:=ly.stay h C (show k<=p by omega);have F:=ly.stay h C (show k<=p+1 by omega);exact B (by rw[G.eq E,D.eq F])
def Zj(A:pU Nat->Prop)(n:Nat):Prop:=∀x,A x->x.a<n/\x.b<n/\∃c:Int,0<=c/\c<=1000/\x.f=λt=>t+c
theorem Zj.mono(h:Zj A n):∀x,A x->kj x.f:=λx hx=>by
 obtain⟨_,_,c,_,_,e⟩:=h x hx;rw[e];exact rK c
theorem Zj.best(h:Zj A n)(h0:∀v,0<=init v):∃b,qp A init b:=qp.ex h.mono ⟨λ_=>0,h0,λx hx=>by
 obtain⟨_,_,c,h1,_,e⟩:=h x hx;rw[e];simp only;omega⟩
theorem RL(P:Zj A n){b:Nat->Int}(D:qp A init b)(I:∀v,d v<=init v)(G:wV A init d)(K:∃v,v<n/\d v≠b v):∃x,A x/\d x.a=b x.a/\d x.b≠b x.b/\b x.b=x.f (b x.a):=by
 refine Classical.byContradiction λR=>?_;have J:∀x,A x->d x.a=b x.a->d x.b≠b x.b->b x.b≠x.f (b x.a):=λx E N B C=>R ⟨x,E,N,B,C⟩;have H:∀v,b v<=d v:=G b D.1
 let e:Nat->Int:=λv=>if v<n/\d v≠b v then b v+1 else b v
 have Q:Ob A init e:=by
  refine⟨λv=>?_,λx M=>?_⟩
  ·show(if v<n/\d v≠b v then b v+1 else b v)<=init v
   split
   ·next h=>have:=H v;have:=I v;omega
   exact D.1.1 v
  obtain⟨E,N,c,_,_,O⟩:=P x M;have B:=D.1.2 x M;have C:=J x M;show(if x.b<n/\d x.b≠b x.b then b x.b+1 else b x.b)<=x.f (if x.a<n/\d x.a≠b x.a then b x.a+1 else b x.a);rw[O]at B C⊢;simp only at B C⊢
  by_cases F:d x.a=b x.a
  ·rw[if_neg (show ¬(x.a<n/\d x.a≠b x.a) from λh=>h.2 F)]
   split
   ·next h=>have:=C F h.2;omega
   exact B
  rw[if_pos (show x.a<n/\d x.a≠b x.a from⟨E,F⟩)]
  split <;> omega
 obtain⟨v,S,L⟩:=K;have:=D.2 e Q v;have T:e v=b v+1:=if_pos ⟨S,L⟩;omega
theorem ly.count(E:Zj A n){b:Nat->Int}(P:qp A init b)(h:ly A init k d):(∀v,v<n->d v=b v)∨k<=(List.range n).countP λv=>decide (d v=b v):=by
 induction h with
 |zero=>exact .inr (Nat.zero_le _)
 |@succ k d e h hs ih=>
  by_cases B:∀v,v<n->e v=b v
  ·exact .inl B
  refine .inr ?_;have C:=(h.above E.mono).bf E.mono hs b P.1;have H:=h.le;have F:∃v,v<n/\d v≠b v:=by
   refine Classical.byContradiction λR=>B λv J=>?_;have G:d v=b v:=Classical.byContradiction λD=>R ⟨v,J,D⟩;have D:=hs.le v;have O:=C v;omega
  have T:k<=(List.range n).countP λv=>decide (d v=b v):=by
   rcases ih with G|G
   ·obtain⟨v,J,K⟩:=F
    exact absurd (G v J) K
   exact G
  obtain⟨x,Q,L,M,N⟩:=RL E P H (h.above E.mono) F;have I:=kU (p:=λv=>decide (d v=b v)) (q:=λv=>decide (e v=b v)) (λu S=>by
   simp only[decide_eq_true_eq]at S⊢;have D:=hs.le u;have O:=C u;omega) (List.range n) ⟨x.b,List.mem_range.2 (E x Q).2.1,by
    simp only[decide_eq_true_eq];have D:=hs.arc x Q;have O:=C x.b;rw[L,<-N]at D;omega,by simpa using M⟩
  omega
theorem ly.few(C:Zj A n)(h0:∀v,0<=init v)(h:ly A init k d)(G:Bf A d e){v:Nat}(K:e v≠d v):k+1<=n:=by
 obtain⟨b,H⟩:=C.best h0;have F:=(h.above C.mono).bf C.mono G b H.1;have E:v<n:=by
  rcases G.from_ v with B|⟨x,hx,rfl,_⟩
  ·exact absurd B K
  exact(C x hx).2.1
 have D:d v≠b v:=λB=>by
  have I:=G.le v;have J:=F v;omega
 rcases h.count C H with B|B
 ·exact absurd (B v E) D
 have I:=kU (p:=λv=>decide (d v=b v)) (q:=λ_=>true) (λ_ _=>rfl) (List.range n) ⟨v,List.mem_range.2 E,rfl,by simpa using D⟩;have J:(List.range n).countP (λ_=>true)<=n:=by
  have:=List.countP_le_length (p:=λ_:Nat=>true) (l:=List.range n);simp at this⊢
 omega
theorem ly.bound(D:Zj A n)(h0:∀v,0<=init v/\(init v=vN∨init v<=12))(h:ly A init k d):∀v,0<=d v/\(d v=vN∨d v<=12+1000*k):=by
 induction h with
 |zero=>intro v;have:=h0 v;omega
 |@succ k d e h hs ih=>
  intro v;rcases hs.from_ v with B|⟨x,hx,rfl,B⟩
  ·rw[B];have:=ih v;omega
  obtain⟨_,_,c,E,F,C⟩:=D x hx;have G:=ih x.a;have H:=ih x.b;have I:=hs.le x.b;rw[C]at B;simp only at B;unfold vN at *;omega
end
open Go.RowKit
def wn(g:zf)(t:Int):List Bool:=(List.range g.lives.length).map λ(k:Nat)=>zn g (k:Int) t
def pB(g:zf)(t:Int)(x:zA):List xz:=match yC t x.legs with
 |some l=>if zn g x.a t=true/\zn g x.b t=true then [⟨x.a,x.b,l.cost⟩] else []
 |none=>[]
def wX(g:zf)(t:Int)(l:List zA):List xz:=l.flatMap (pB g t)
def xR(g:zf)(t:Int):zH:=⟨wn g t,wX g t g.edges⟩
def wF(g:zf)(t:Int):Int:=if zz g=0 then (if 0<=t/\t<=g.h-1 then 0 else 1) else zz g
def pu(g:zf)(t:Int):zH:=if wF g t=0 then xR g t else ⟨[],[]⟩
theorem wu(g:zf)(t:Int):(wn g t).length=g.lives.length:=by simp[wn]
theorem gI{g:zf}{t:Int}{k:Nat}(h:k<g.lives.length):(wn g t)[k]?=some (zn g k t):=by simp[wn,h]
theorem lj{g:zf}{t v:Int}(h0:0<=v)(h:v<g.lives.length):(wn g t)[v.toNat]?=some (zn g v t):=by
 rw[gI (by omega),Int.toNat_of_nonneg h0]
theorem cD{g:zf}{t:Int}{k:Nat}(h:k<g.lives.length):(wn g t).take (k+1)=(wn g t).take k++[zn g k t]:=by
 rw[List.take_add_one,gI h];rfl
theorem aT{g:zf}{t:Int}{k:Nat}(h:g.lives.length<=k):(wn g t).take k=wn g t:=List.take_of_length_le (by rw[wu];exact h)
theorem YC{g:zf}{t:Int}{x:zA}(h:yC t x.legs=none):pB g t x=[]:=by simp[pB,h]
theorem UD{g:zf}{t:Int}{x:zA}(h:zn g x.a t=false):pB g t x=[]:=by
 unfold pB;split <;> simp[h]
theorem UE{g:zf}{t:Int}{x:zA}(h:zn g x.b t=false):pB g t x=[]:=by
 unfold pB;split <;> simp[h]
theorem iW{g:zf}{t:Int}{x:zA}{l:zR}(h:yC t x.legs=some l)(A:zn g x.a t=true)(B:zn g x.b t=true):pB g t x=[⟨x.a,x.b,l.cost⟩]:=by simp[pB,h,A,B]
theorem eB(g:zf)(t:Int){l:List zA}{j:Nat}{x:zA}(h:l[j]?=some x):wX g t (l.take (j+1))=wX g t (l.take j)++pB g t x:=by
 rw[List.take_add_one,h];simp[wX]
theorem oK{g:zf}{t:Int}{l:List zA}{y:xz}(h:y∈wX g t l):∃x B,x∈l/\yC t x.legs=some B/\B∈x.legs/\zn g x.a t=true/\zn g x.b t=true/\y=⟨x.a,x.b,B.cost⟩:=by
 simp only[wX,List.mem_flatMap]at h;obtain⟨x,C,A⟩:=h;unfold pB at A
 split at A
 ·rename_i B hl
  split at A
  ·rename_i hab
   exact⟨x,B,C,hl,(rn hl).1,hab.1,hab.2,by simpa using A⟩
  simp at A
 simp at A
theorem OJ{g:zf}{t:Int}(h:wF g t=0):pu g t=xR g t:=by unfold pu;rw[if_pos h]
theorem RK{g:zf}{t:Int}(h:¬wF g t=0):pu g t=⟨[],[]⟩:=by unfold pu;rw[if_neg h]
structure yT(α:Type) where
 f:Int
 t:Int
 v:α
def ko{α:Type}:List (yT α)->Int->Option α
 |[],_=>none
 |x::l,t=>if x.f<=t/\t<x.t then some x.v else ko l t
def vw{α:Type}(l:List (yT α)):Prop:=l.Pairwise (λx y=>x.t<=y.f/\(x.t=y.f->x.v≠y.v))/\∀x,x∈l->x.f<x.t
section
variable {α:Type}{l r out:List (yT α)}{x y z:yT α}{t:Int}{v:α}
theorem jD:ko ([]:List (yT α)) t=none:=rfl
theorem qs(h:x.f<=t/\t<x.t):ko (x::l) t=some x.v:=by rw[ko,if_pos h]
theorem tI(h:¬(x.f<=t/\t<x.t)):ko (x::l) t=ko l t:=by rw[ko,if_neg h]
theorem mI:∀{l:List (yT α)},ko l t=some v->∃x,x∈l/\x.f<=t/\t<x.t/\x.v=v
 |[],h=>by simp[ko]at h
 |x::l,h=>by
  by_cases hx:x.f<=t/\t<x.t
  ·rw[qs hx]at h
   exact⟨x,by simp,hx.1,hx.2,by simpa using h⟩
  rw[tI hx]at h;obtain⟨y,hy,h1⟩:=mI h;exact⟨y,List.mem_cons_of_mem _ hy,h1⟩
theorem jE:∀{l:List (yT α)},(∀x,x∈l->¬(x.f<=t/\t<x.t))->ko l t=none
 |[],_=>rfl
 |x::l,h=>by rw[tI (h x (by simp)),jE λy hy=>h y (List.mem_cons_of_mem _ hy)]
theorem nz:∀{l r:List (yT α)},ko (l++r) t=(ko l t).or (ko r t)
 |[],r=>by simp[ko]
 |x::l,r=>by
  rw[List.cons_append]
  by_cases hx:x.f<=t/\t<x.t
  ·rw[qs hx,qs hx];rfl
  rw[tI hx,tI hx,nz]
theorem vw.nil:vw ([]:List (yT α)):=⟨.nil,λx h=>by simp at h⟩
theorem vw.tail(h:vw (x::l)):vw l:=⟨(List.pairwise_cons.1 h.1).2,λy hy=>h.2 y (List.mem_cons_of_mem _ hy)⟩
theorem vw.past(h:vw (x::l))(C:ko l t=some v):x.t<=t/\(t=x.t->v≠x.v):=by
 obtain⟨y,D,E,_,A⟩:=mI C;have B:=(List.pairwise_cons.1 h.1).1 y D;refine⟨by omega,λe=>?_⟩;rw[<-A];exact(B.2 (by omega)).symm
theorem vw.low(h:vw (x::l))(A:ko (x::l) t=some v):x.f<=t:=by
 by_cases B:x.f<=t/\t<x.t
 ·exact B.1
 rw[tI B]at A;have:=(h.past A).1;have:=h.2 x (by simp);omega
theorem vw.head(h:vw (x::l)):ko (x::l) x.f=some x.v:=qs ⟨Int.le_refl _,h.2 x (by simp)⟩
theorem vw.init(h:vw (out++[z])):vw out:=⟨(List.pairwise_append.1 h.1).1,λy hy=>h.2 y (List.mem_append_left _ hy)⟩
theorem vw.snoc_lt(h:vw (out++[z])){y:yT α}(hy:y∈out):y.t<=z.f/\(y.t=z.f->y.v≠z.v):=(List.pairwise_append.1 h.1).2.2 y hy z (by simp)
theorem vw.snoc(h:vw out)(D:x.f<x.t)(B:∀y,y∈out->y.t<=x.f/\(y.t=x.f->y.v≠x.v)):vw (out++[x]):=by
 refine⟨List.pairwise_append.2 ⟨h.1,by simp,λy A u C=>?_⟩,λy A=>?_⟩
 ·obtain rfl:u=x:=by simpa using C
  exact B y A
 rcases List.mem_append.1 A with A|A
 ·exact h.2 y A
 obtain rfl:y=x:=by simpa using A
 exact D
theorem vw.grow(h:vw (out++[z])){n:Int}(hn:z.t<=n):vw (out++[⟨z.f,n,z.v⟩]):=
 h.init.snoc (by have:=h.2 z (by simp);simp only;omega) λ_ hy=>h.snoc_lt hy
theorem vw.rise(h:vw (out++[z])):∀y,y∈out++[z]->y.t<=z.t:=λy A=>by
 rcases List.mem_append.1 A with A|A
 ·have:=h.snoc_lt A;have:=h.2 z (by simp);omega
 obtain rfl:y=z:=by simpa using A
 exact Int.le_refl _
theorem vw.ahead(h:vw (out++[z])){y:yT α}(A:y∈out):y.t<z.t:=by
 have:=h.snoc_lt A;have:=h.2 z (by simp);omega
end
structure oI{α:Type}(fn:Int->Option α)(b a:Int)(out:List (yT α)):Prop where
 map:vw out
 tells:∀t,ko out t=if b<=t/\t<a then fn t else none
 low:∀y,y∈out->y.t<=a
section
variable {α:Type}{fn:Int->Option α}{b a c:Int}{v:α}{out o:List (yT α)}{z:yT α}
theorem oI.start:oI fn a a []:=⟨.nil,λt=>by rw[jD,if_neg (by omega)],λy h=>by simp at h⟩
theorem oI.skip(h:oI fn b a out)(C:a<c)(A:∀t,a<=t->t<c->fn t=fn a)(D:fn a=none):oI fn b c out:=by
 refine⟨h.map,λt=>?_,λy E=>by have:=h.low y E;omega⟩;rw[h.tells t]
 by_cases B:b<=t/\t<a
 ·rw[if_pos B,if_pos (by omega)]
 rw[if_neg B]
 split
 ·rw[A t (by omega) (by omega),D]
 rfl
theorem oI.grow(h:oI fn b a (o++[z]))(_:b<=a)(I:a<c)(F:∀t,a<=t->t<c->fn t=fn a)(L:fn a=some z.v)(O:z.t=a):oI fn b c (o++[⟨z.f,c,z.v⟩]):=by
 have G:=h.map.2 z (by simp);have M:b<=z.f:=by
  have A:=h.tells z.f;have H:ko (o++[z]) z.f=some z.v:=by
   rw[nz,jE λy B=>by have:=h.map.snoc_lt B;omega];exact qs ⟨Int.le_refl _,G⟩
  rw[H]at A;refine Classical.byContradiction λN=>?_;rw[if_neg (by omega)]at A;simp at A
 refine⟨h.map.grow (by omega),λt=>?_,λy B=>?_⟩
 ·have A:=h.tells t
  rw[nz]at A⊢
  cases E:ko o t with
  |some u=>
   rw[E]at A;obtain⟨q,J,P,Q,_⟩:=mI E;have:=h.low q (List.mem_append_left _ J);simp only[Option.or]at A⊢;rw[A]
   by_cases C:b<=t/\t<a
   ·rw[if_pos C,if_pos (by omega)]
   rw[if_neg C]at A;simp at A
  |none=>
   rw[E]at A;simp only[Option.none_or]at A⊢
   by_cases D:z.f<=t/\t<c
   ·rw[qs (by simpa using D),if_pos (by omega)]
    by_cases K:t<a
    ·rw[qs ⟨D.1,by omega⟩,if_pos (by omega)]at A
     simp only;exact A
    rw[F t (by omega) D.2,L]
   rw[tI (by simpa using D),jD];rw[tI (by omega),jD]at A
   by_cases C:b<=t/\t<c
   ·rw[if_pos C]
    rw[if_pos (by omega)]at A;exact A
   rw[if_neg C]
 rcases List.mem_append.1 B with B|B
 ·have:=h.low y (List.mem_append_left _ B);omega
 obtain rfl:y=_:=by simpa using B
 exact Int.le_refl _
theorem oI.next(h:oI fn b a out)(G:b<=a)(B:a<c)(C:∀t,a<=t->t<c->fn t=fn a)(H:fn a=some v)(I:∀y,y∈out->y.t=a->y.v≠v):oI fn b c (out++[⟨a,c,v⟩]):=by
 refine⟨h.map.snoc B λy A=>⟨h.low y A,λe=>I y A e⟩,λt=>?_,λy A=>?_⟩
 ·have F:=h.tells t
  rw[nz,F]
  by_cases D:b<=t/\t<a
  ·rw[if_pos D,if_pos (by omega),tI (by simp only;omega),jD]
   simp
  rw[if_neg D];simp only[Option.none_or]
  by_cases E:b<=t/\t<c
  ·rw[if_pos E,qs (by simp only;omega),C t (by omega) (by omega),H]
  rw[if_neg E,tI (by simp only;omega),jD]
 rcases List.mem_append.1 A with A|A
 ·have:=h.low y A;omega
 obtain rfl:y=_:=by simpa using A
 exact Int.le_refl _
end
end Go.Proofs.YtjcimdpldlamfaaGreatDoor
