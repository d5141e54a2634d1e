import Derived.Test.YtjcimdpldlamfaaGreatDoorBd6c1408187f
namespace Go.Proofs.YtjcimdpldlamfaaGreatDoor
def val(m:List zg)(t:Int):Int:=(xN m t).getD vN
structure wK(h:Int)(m:List zg):Prop where
 map:wL m
 in_:∀x,x∈m->(0<=x.f/\x.t<=h)/\0<=x.v/\x.v<=100000
def sD(h:Int)(x:zg):Prop:=(0<=x.f/\x.f<x.t/\x.t<=h)/\0<=x.v/\x.v<=100000
theorem pe:∀{l:List (Int×Int)} {lo hi:Int},l.Pairwise (λx y=>x.2<=y.1)->(∀x∈l,x.1<x.2/\lo<=x.1/\x.2<=hi)->lo<=hi->(l.length:Int)<=hi-lo
 |[],lo,hi,_,_,h=>by simp;omega
 |x::l,lo,hi,hp,hb,_=>by
  obtain⟨h1,h2,h3⟩:=hb x (by simp);have ih:=pe (l:=l) (lo:=x.2) (hi:=hi) (List.pairwise_cons.1 hp).2 (λy hy=>⟨(hb y (by simp[hy])).1,(List.pairwise_cons.1 hp).1 y hy,(hb y (by simp[hy])).2.2⟩) h3;simp only[Ap];omega
section
variable {h t v d er:Int}{m out S batch l r:List zg}{x p q:zg}
theorem wK.len(A:wK h m)(h0:0<=h):(m.length:Int)<=h:=by
 have:=pe (l:=m.map λx=>(x.f,x.t)) (lo:=0) (hi:=h) (List.pairwise_map.2 (A.map.1.imp λk=>k.1)) (λy C=>by
  obtain⟨x,B,rfl⟩:=AD.1 C;exact⟨A.map.2 x B,(A.in_ x B).1.1,(A.in_ x B).1.2⟩) h0
 simpa using this
theorem ua{n:Int}(h1:0<=n)(h2:n<=100000):zL n=true:=wQ.2 (by omega)
theorem wK.ok(A:wK h m)(h1:1<=h)(D:h<=100):xP m/\yd m=0:=by
 have F:=A.len (by omega);have:xP m:=⟨A.map,λx C=>by
  have B:=A.in_ x C;have E:=A.map.2 x C;exact⟨ua B.1.1 (by omega),ua (by omega) (by omega),ua B.2.1 B.2.2⟩⟩
 exact⟨this,gA (by omega) this⟩
theorem wK.nil:wK h []:=⟨.nil,λx hx=>by simp at hx⟩
theorem wK.at_(A:wK h m)(B:xN m t=some v):(0<=t/\t<h)/\0<=v/\v<=100000:=by
 obtain⟨x,C,D,E,rfl⟩:=rz B;have:=A.in_ x C;omega
theorem PJ(hm:wL m)(hi:∀t v,xN m t=some v->(0<=t/\t<h)/\0<=v/\v<=100000):wK h m:=⟨hm,λx hx=>by
 have h1:=hm.2 x hx;have h2:=hi x.f x.v (hm.mem_at hx (Int.le_refl _) h1);have h3:=hi (x.t-1) x.v (hm.mem_at hx (by omega) (by omega));omega⟩
theorem lp(h:xN m t=some v):val m t=v:=by unfold val;rw[h];rfl
theorem iN(h:xN m t=none):val m t=vN:=by unfold val;rw[h];rfl
theorem wK.val_cases(B:wK h m)(t:Int):(val m t=vN/\xN m t=none)∨(val m t<=100000/\0<=val m t/\(0<=t/\t<h)/\xN m t=some (val m t)):=by
 cases A:xN m t with
 |none=>exact .inl ⟨iN A,rfl⟩
 |some v=>rw[lp A];have:=B.at_ A;exact .inr ⟨this.2.2,this.2.1,this.1,rfl⟩
theorem wK.eq(hm:wK h m)(hl:wK h l)(he:∀t,val m t=val l t):m=l:=qU hm.map hl.map λt=>by
 have h1:=he t;rcases hm.val_cases t with⟨k1,k2⟩|⟨k1,_,_,k2⟩
 ·rcases hl.val_cases t with⟨k3,k4⟩|⟨k3,_,_,k4⟩
  ·rw[k2,k4]
  rw[k1]at h1;unfold vN at h1;omega
 rcases hl.val_cases t with⟨k3,k4⟩|⟨k3,_,_,k4⟩
 ·rw[k3]at h1;unfold vN at h1;omega
 rw[k2,k4,h1]
def um(l:List zg)(t d:Int):Int:=l.foldl (λm x=>if ng x t=true then min m x.v else m) d
theorem jd:um (x::l) t d=um l t (if ng x t=true then min d x.v else d):=rfl
theorem ZT:um (l++r) t d=um r t (um l t d):=List.foldl_append
theorem oU:∀{l:List zg} {d:Int},um l t d<=d
 |[],_=>Int.le_refl _
 |x::l,d=>by
  rw[jd];refine Int.le_trans oU ?_
  split <;> omega
theorem gB:∀{l:List zg} {d:Int},x∈l->ng x t=true->um l t d<=x.v
 |y::l,d,hx,hp=>by
  rw[jd];rcases List.mem_cons.1 hx with rfl|hx
  ·rw[Aq hp]
   exact Int.le_trans oU (by omega)
  exact gB hx hp
theorem qV:∀{l:List zg} {d:Int},um l t d=d∨∃x,x∈l/\ng x t=true/\um l t d=x.v
 |[],_=>.inl rfl
 |y::l,d=>by
  rw[jd];rcases qV (l:=l) (d:=if ng y t=true then min d y.v else d)with h1|⟨x,hx,hp,h1⟩
  ·rw[h1]
   by_cases hp:ng y t=true
   ·rw[Aq hp]
    rcases Int.le_total d y.v with h2|h2
    ·left;omega
    right;exact⟨y,by simp,hp,by omega⟩
   rw[Au hp];exact .inl rfl
  exact .inr ⟨x,by simp[hx],hp,h1⟩
theorem VO(h:∀x,x∈l->ng x t=false):um l t d=d:=by
 rcases qV (l:=l) (t:=t) (d:=d)with A|⟨x,hx,hp,_⟩
 ·exact A
 rw[h x hx]at hp;cases hp
theorem St(h1:∀x,x∈l->ng x t=true->v<=x.v)(A:∃x,x∈l/\ng x t=true/\x.v=v):um l t d=min d v:=by
 obtain⟨x,D,C,rfl⟩:=A;have E:=oU (l:=l) (t:=t) (d:=d);have F:=gB (d:=d) D C;rcases qV (l:=l) (t:=t) (d:=d)with B|⟨y,hy,hq,B⟩
 ·omega
 have:=h1 y hy hq;omega
theorem cQ:∀(is:List Int) (v:Int),(oZ l 1 v is<=v/\∀i,i∈is->oZ l 1 v is<=cP l i)/\(oZ l 1 v is=v∨∃i,i∈is/\oZ l 1 v is=cP l i)
 |[],v=>⟨⟨Int.le_refl _,λi h=>by simp at h⟩,.inl rfl⟩
 |j::is,v=>by
  have e:oZ l 1 v (j::is)=oZ l 1 (min v (cP l j)) is:=rfl;obtain⟨⟨h1,h2⟩,h3⟩:=cQ is (min v (cP l j));rw[e];refine⟨⟨by omega,λi hi=>?_⟩,?_⟩
  ·rcases List.mem_cons.1 hi with rfl|hi
   ·omega
   exact h2 i hi
  rcases h3 with h3|⟨i,hi,h3⟩
  ·rcases Int.le_total v (cP l j)with h4|h4
   ·left;omega
   right;exact⟨j,by simp,by omega⟩
  exact .inr ⟨i,by simp[hi],h3⟩
theorem WA{is:List Int}(E:is≠[]):(∀i,i∈is->rP l 1 is<=cP l i)/\∃i,i∈is/\rP l 1 is=cP l i:=by
 cases is with
 |nil=>exact absurd rfl E
 |cons j is=>
  obtain⟨⟨C,D⟩,A⟩:=cQ (l:=l) is (cP l j);refine⟨λi B=>?_,?_⟩
  ·rcases List.mem_cons.1 B with rfl|B
   ·exact C
   exact D i B
  rcases A with A|⟨i,B,A⟩
  ·exact⟨j,by simp,A⟩
  exact⟨i,by simp[B],A⟩
theorem PU{i:Nat}(h:l[i]?=some x):cP l (i:Int)=x.v:=by unfold cP;rw[Int.toNat_natCast,h];rfl
theorem lU(h:bD l 1 t=some v):(∀x,x∈l->ng x t=true->v<=x.v)/\∃x,x∈l/\ng x t=true/\x.v=v:=by
 unfold bD at h
 split at h
 ·cases h
 next hw=>
 obtain rfl:=AB h;obtain⟨D,i,F,E⟩:=WA (l:=l) hw;refine⟨λx A C=>?_,?_⟩
 ·obtain⟨j,B⟩:=AM A
  have:=D j (gW (n:=l.length) (zy B) B C)
  rwa[PU B]at this
 obtain⟨G,_,x,A,C⟩:=se F;refine⟨x,Ad A,C,?_⟩;rw[E];unfold cP;rw[A];rfl
theorem QH(h:bD l 1 t=some v):um l t d=min d v:=St (lU h).1 (lU h).2
def ec(c:vt):Bool:=!c.has || decide (c.v<c.s)
def PP(c:vt):zg:=⟨c.f,c.t,c.v⟩
def uK(f:Int->Option Int)(c:vt):Int->Option Int:=if ec c=true then λt=>if c.f<=t/\t<c.t then some c.v else f t else f
def rX(f:Int->Option Int)(l:List vt):Int->Option Int:=l.foldl uK f
theorem YK{f:Int->Option Int}{l:List vt}{c:vt}{k:Nat}(h:l[k]?=some c):rX f (l.take (k+1))=uK (rX f (l.take k)) c:=by
 have e:l.take (k+1)=l.take k++[c]:=by rw[AO,h];rfl
 rw[e];unfold rX;rw[List.foldl_append];rfl
theorem mL:∀{l:List vt} {f:Int->Option Int},(∀c,c∈l->¬(c.f<=t/\t<c.t))->rX f l t=f t
 |[],_,_=>rfl
 |c::l,f,hn=>by
  show rX (uK f c) l t=f t;rw[mL (l:=l) λd hd=>hn d (by simp[hd])];unfold uK
  split
  ·simp only;rw[Au (hn c (by simp))]
  rfl
theorem eD{b:Bool}{v:Int}:∀{l:List vt} {f:Int->Option Int},(∀c,c∈l->c.f<=t/\t<c.t->ec c=b/\c.v=v)->(∃c,c∈l/\c.f<=t/\t<c.t)->rX f l t=if b=true then some v else f t
 |[],_,_,h=>by obtain⟨c,hc,_⟩:=h;simp at hc
 |c::l,f,hs,_=>by
  show rX (uK f c) l t=_;have hs':∀c,c∈l->c.f<=t/\t<c.t->ec c=b/\c.v=v:=λd A=>hs d (by simp[A]);have hstep:uK f c t=if c.f<=t/\t<c.t then (if b=true then some v else f t) else f t:=by
   unfold uK
   by_cases hc:c.f<=t/\t<c.t
   ·obtain⟨C,D⟩:=hs c (by simp) hc
    rw[C,Aq hc]
    split
    ·simp only;rw[Aq hc,D]
    rfl
   rw[Au hc]
   split
   ·simp only;rw[Au hc]
   rfl
  by_cases B:∃d,d∈l/\d.f<=t/\t<d.t
  ·rw[eD hs' B,hstep]
   cases b <;> simp
  rw[mL λd A hc=>B ⟨d,A,hc⟩,hstep]
  rename_i hex
  have hc:c.f<=t/\t<c.t:=by
   obtain⟨d,A,hc⟩:=hex;rcases List.mem_cons.1 A with rfl|A
   ·exact hc
   exact absurd ⟨d,A,hc⟩ B
  rw[Aq hc]
theorem cW(hw:yQ batch t=[]):∀x,x∈batch->ng x t=false:=λx hx=>by
 cases hp:ng x t
 ·rfl
 exact absurd hw (gT.2 ⟨x,hx,hp⟩)
theorem Oz{U:List (yT fS)}(hm:∀x,x∈batch->sD h x)(hU:vw U)(hk:∀t,ko U t=sd S batch t):∀y,y∈U->0<=y.f/\y.f<y.t/\y.t<=h:=λy hy=>by
 have h1:=hU.2 y hy;have key:∀t,y.f<=t->t<y.t->0<=t/\t<h:=λt k1 k2=>by
  have h2:=hU.mem_at hy k1 k2;rw[hk]at h2;unfold sd at h2
  split at h2
  ·cases h2
  next hw=>
  obtain⟨x,hx,hp⟩:=gT.1 hw;have:=(hm x hx).1;simp only[ng,decide_eq_true_eq]at hp;omega
 have h2:=key y.f (Int.le_refl _) h1;have h3:=key (y.t-1) (by omega) (by omega);omega
theorem WV{cs:List vt}(Q:wK h S)(h1:1<=h)(D:h<=100)(V:batch.length<=200)(M:∀x,x∈batch->sD h x)(L:yM S batch 1 er cs) :
  er=0/\cs.length<=100/\∀c,c∈cs->sD h (PP c):=by
 unfold yM at L;have N:mF batch:=λx I=>by
  obtain⟨C,J⟩:=M x I;exact⟨⟨ua C.1 (by omega),ua (by omega) (by omega),ua J.1 J.2⟩,C.2.1⟩
 rw[Aq (Q.ok h1 D).2,Aq (aJ (by omega) N),Aq (by decide)]at L;obtain⟨U,C,J,T,P,_⟩:=L;have H:=Oz M C J;have O:(U.length:Int)<=h:=by
  have:=pe (l:=U.map λx=>(x.f,x.t)) (lo:=0) (hi:=h) (List.pairwise_map.2 (C.1.imp λk=>k.1)) (λy A=>by
   obtain⟨x,I,rfl⟩:=AD.1 A;have:=H x I;exact⟨this.2.1,this.1,this.2.2⟩) (by omega)
  simpa using this
 have B:∀y,y∈U->0<=rP batch 1 y.v.1/\rP batch 1 y.v.1<=100000:=λy A=>by
  have E:=C.mem_at A (Int.le_refl _) (C.2 y A);rw[J]at E;unfold sd at E
  split at E
  ·cases E
  next hw=>
  rw[<-AB E];have:=lU (l:=batch) (t:=y.f) (v:=rP batch 1 (yQ batch y.f)) (by unfold bD;rw[Au hw]);obtain⟨x,I,_,R⟩:=this.2;rw[<-R];exact(M x I).2
 have G:U.any (mw batch 1)=false:=by
  rw[List.any_eq_false];intro y A;have:=B y A;have:=ua this.1 this.2;simp[mw,vp,this]
 have K:er=0:=by rw[T,Au (by simp[G]),Au (by omega)]
 refine⟨K,by rw[P K,Az];omega,λc F=>?_⟩;rw[P K]at F;obtain⟨y,A,rfl⟩:=AD.1 F;exact⟨H y A,B y A⟩
theorem Tv{cs:List vt}(_a:wK h S)(T:∀x,x∈batch->sD h x)(R:yM S batch 1 0 cs)(t:Int):(rX (xN S) cs t).getD vN=um batch t (val S t):=by
 obtain⟨U,G,N,rfl⟩:=R.zero;have Z:vN=1099511627776:=rfl
 cases B:ko U t with
 |none=>
  have W:yQ batch t=[]:=by
   rw[N]at B;unfold sd at B
   split at B
   ·assumption
   cases B
  rw[mL,VO (cW W)]
  ·rfl
  intro c C A;obtain⟨y,E,rfl⟩:=AD.1 C;rw[G.mem_at E A.1 A.2]at B
  cases B
 |some q=>
  obtain⟨y,E,I,J,V⟩:=mI B;obtain⟨O,P,H⟩:=RR G N E rfl I J (k:=1);have F:=lU H;obtain⟨x,X,_,d⟩:=F.2;have M:=(T x X).2;rw[QH H,eD (b:=ec (yP batch 1 y)) (v:=(yP batch 1 y).v)]
  ·unfold ec
   rw[P,O]
   cases L:xN S t with
   |none=>
    rw[iN L];simp only[Option.isSome_none,Bool.not_false,Bool.true_or,if_true,Option.getD_some];omega
   |some s=>
    rw[lp L];simp only[Option.isSome_some,Bool.not_true,Bool.false_or,Option.getD_some]
    by_cases D:(yP batch 1 y).v<s
    ·rw[Aq (by simpa using D)]
     simp only[Option.getD_some];omega
    rw[Au (by simpa using D)];simp only[Option.getD_some];omega
  ·intro c C A
   obtain⟨z,Y,rfl⟩:=AD.1 C;have K:=G.mem_at Y A.1 A.2;rw[B,<-V]at K;have Q:y.v=z.v:=AB K;unfold ec yP;rw[Q];exact⟨rfl,rfl⟩
  exact⟨_,AD.2 ⟨y,E,rfl⟩,I,J⟩
theorem Wa(G:wK h m)(h1:1<=h)(C:h<=100)(J:sD h p)(D:xY m p er out):er=0/\wK h out/\∀t,xN out t=pd m p t:=by
 unfold xY at D;obtain⟨K,H⟩:=J;rw[Aq (G.ok h1 C).2,Aq ⟨ua K.1 (by omega),ua (by omega) (by omega),ua H.1 H.2⟩]at D;have B:∀t v,pd m p t=some v->(0<=t/\t<h)/\0<=v/\v<=100000:=λt v A=>by
  unfold pd at A
  split at A
  ·obtain rfl:=AB A
   omega
  exact G.at_ A
 obtain⟨U,L,I,M,N,_⟩:=D;have F:wK h U:=PJ L λt v A=>B t v (by rw[<-I];exact A);have O:=F.len (by omega);have E:er=0:=by rw[M];exact mf (λt v A=>by have:=(B t v A).2;exact ua this.1 this.2) (by omega)
 rw[N E];exact⟨E,F,I⟩
theorem WT{cs:List vt}(hS:wK h S)(hb:∀x,x∈batch->sD h x)(hc:yM S batch 1 0 cs)(ho:∀t,xN out t=rX (xN S) cs t):∀t,val out t=um batch t (val S t):=λt=>by
 rw[<-Tv hS hb hc t];unfold val;rw[ho]
structure sB(h:Int)(now:List zg)(was:Int->Int)(F:List zg):Prop where
 rise:F.Pairwise (λx y=>x.t<=y.f)
 in_:∀x,x∈F->sD h x
 tells:∀q,q∈F->∀t,q.f<=t->t<q.t->val now t=q.v/\q.v<was t
 all:∀t,val now t<was t->∃q,q∈F/\q.f<=t/\t<q.t
theorem sB.len{A F:List zg}{was:Int->Int}(B:sB h A was F)(h0:0<=h):(F.length:Int)<=h:=by
 have:=pe (l:=F.map λx=>(x.f,x.t)) (lo:=0) (hi:=h) (List.pairwise_map.2 B.rise) (λy D=>by
  obtain⟨x,C,rfl⟩:=AD.1 D;have:=(B.in_ x C).1;exact⟨this.2.1,this.1,this.2.2⟩) h0
 simpa using this
theorem Xd(C:wK h m):sB h m (λ_=>vN) m:=by
 refine⟨C.map.1.imp λk=>k.1,λx F=>?_,λq D t A B=>?_,λt E=>?_⟩
 ·have A:=C.in_ x F
  have B:=C.map.2 x F;exact⟨⟨A.1.1,B,A.1.2⟩,A.2⟩
 ·have A:=C.map.mem_at D A B
  have B:=C.in_ q D;have I:vN=1099511627776:=rfl;rw[lp A];exact⟨rfl,by omega⟩
 rcases C.val_cases t with⟨G,_⟩|⟨_,_,_,H⟩
 ·rw[G]at E;exact absurd E (Int.lt_irrefl _)
 obtain⟨q,D,A,B,_⟩:=rz H;exact⟨q,D,A,B⟩
def vr(p:zg)(was:List zg):List zw:=was.flatMap λq=>if max p.f q.f<min p.t q.t/\q.v<=p.v then [⟨max p.f q.f,min p.t q.t⟩] else []
theorem Wp{was:List zg}{k:Nat}(A:was[k]?=some q):vr p (was.take (k+1))=vr p (was.take k)++if max p.f q.f<min p.t q.t/\q.v<=p.v then [⟨max p.f q.f,min p.t q.t⟩] else []:=by
 have e:was.take (k+1)=was.take k++[q]:=by rw[AO,A];rfl
 rw[e];unfold vr;rw[List.flatMap_append];simp
theorem jn(p:zg):∀was:List zg,(vr p was).length<=was.length
 |[]=>Ay _
 |q::was=>by
  have:=jn p was;have e:vr p (q::was)=(if max p.f q.f<min p.t q.t/\q.v<=p.v then [(⟨max p.f q.f,min p.t q.t⟩:zw)] else [])++vr p was:=rfl;rw[e,Ag,Ap]
  split <;> simp <;> omega
theorem Um{was:List zg}:zE (vr p was) t=true↔∃q,q∈was/\q.f<=t/\t<q.t/\q.v<=p.v/\p.f<=t/\t<p.t:=by
 rw[xD];unfold vr
 constructor
 ·rintro⟨x,A,C,D⟩
  obtain⟨q,B,A⟩:=List.mem_flatMap.1 A
  split at A
  ·next hc=>
   obtain rfl:x=_:=by simpa using A
   simp only at C D;exact⟨q,B,by omega,by omega,hc.2,by omega,by omega⟩
  simp at A
 rintro⟨q,B,C,D,E,F,G⟩;refine⟨⟨max p.f q.f,min p.t q.t⟩,List.mem_flatMap.2 ⟨q,B,?_⟩,by simp only;omega,by simp only;omega⟩;rw[Aq ⟨by omega,E⟩];simp
theorem aQ{was:List zg}(B:0<=p.f/\p.t<=h):∀x,x∈vr p was->0<=x.f/\x.f<x.t/\x.t<=h:=λx A=>by
 unfold vr at A;obtain⟨q,hq,A⟩:=List.mem_flatMap.1 A
 split at A
 ·obtain rfl:x=_:=by simpa using A
  simp only;omega
 simp at A
def pG(v:Int)(x:zw):zg:=⟨x.f,x.t,v⟩
def iT(p:zg)(was:List zg)(rest:List zw):Prop:=ya rest/\∀t,zE rest t=true↔(p.f<=t/\t<p.t)/\¬zE (vr p was) t=true
theorem es{was:List zg}{rest:List zw}(hr:iT p was rest):∀x,x∈rest->p.f<=x.f/\x.f<x.t/\x.t<=p.t:=λx hx=>by
 have h1:=hr.1.2 x hx;have h2:=(hr.2 x.f).1 (xD.2 ⟨x,hx,Int.le_refl _,h1⟩);have h3:=(hr.2 (x.t-1)).1 (xD.2 ⟨x,hx,by omega,by omega⟩);omega
theorem PR{same rest:List zw}{B:List zg}{K R:Int}(F:(0<=p.f/\p.f<p.t/\p.t<=h))(h1:1<=h)(L:h<=100)(W:(B.length:Int)<=h)
  (E:vy (vr p B) K same) (I:yu kE [⟨p.f,p.t⟩] same R rest):iT p B rest:=by
 have H:=aQ (was:=B) (p:=p) (h:=h) ⟨F.1,F.2.2⟩;have V:=jn p B;have Q:K=0:=by
  unfold vy at E;rw[Au (by omega)]at E;rw[Au (by
   simp only[Bool.not_eq_true,List.any_eq_false];intro x A;have k:=H x A;simp[eP,vp,ua k.1 (by omega),ua (n:=x.t) (by omega) (by omega)])]at E
  exact E.1
 obtain⟨M,J⟩:=E.of Q;have C:Of (λt=>decide (p.f<=t/\t<p.t)) 1 [⟨p.f,p.t⟩]:=⟨⟨by simp,λx A=>by
  obtain rfl:x=_:=by simpa using A
  exact F.2.1⟩,λt=>by simp[zE],λx A=>by
  obtain rfl:x=_:=by simpa using A
  exact⟨ua (n:=p.f) F.1 (by omega),ua (n:=p.t) (by omega) (by omega)⟩,Ay _⟩
 unfold yu at I;rw[Aq (C.ok (by omega)),Aq (M.ok J)]at I;obtain⟨U,O,T,X,P⟩:=I;have G:∀t,zE U t=true↔(p.f<=t/\t<p.t)/\¬zE (vr p B) t=true:=λt=>by
  rw[T,C.has,M.has];simp[kE]
 have N:iT p B U:=⟨O,G⟩;have D:=pe (l:=U.map λx=>(x.f,x.t)) (lo:=p.f) (hi:=p.t) (List.pairwise_map.2 (O.1.imp λk=>Int.le_of_lt k)) (λy S=>by
  obtain⟨x,A,rfl⟩:=AD.1 S;have:=es N x A;exact⟨this.2.1,this.1,this.2.2⟩) (by omega)
 rw[Az]at D;rw[Au (by omega)]at P;rw[P];exact N
structure mi(h:Int)(now was F:List zg)(k:Nat):Prop where
 rise:F.Pairwise (λx y=>x.t<=y.f)
 in_:∀x,x∈F->sD h x
 ends:∀x,x∈F->∃p,p∈now.take k/\x.t<=p.t
 tells:∀q,q∈F->∀t,q.f<=t->t<q.t->val now t=q.v/\q.v<val was t
 all:∀p,p∈now.take k->∀t,p.f<=t->t<p.t->p.v<val was t->∃q,q∈F/\q.f<=t/\t<q.t
theorem mi.start{now was:List zg}:mi h now was [] 0:=⟨.nil,λx hx=>by simp at hx,λx hx=>by simp at hx,λx hx=>by simp at hx,λx hx=>by simp at hx⟩
theorem mi.next{D was F:List zg}{rest:List zw}{k:Nat}(N:mi h D was F k)(C:wK h D)(L:wK h was)(W:D[k]?=some p)(Q:iT p was rest):mi h D was (F++rest.map (pG p.v)) (k+1):=by
 have M:=Ad W;have X:=C.in_ p M;have b:=C.map.2 p M;have J:=es Q;have R:D.take (k+1)=D.take k++[p]:=by rw[AO,W];rfl
 have u:vN=1099511627776:=rfl;have G:∀t,p.f<=t->t<p.t->(zE (vr p was) t=true↔¬p.v<val was t):=λt E H=>by
  rw[Um]
  constructor
  ·rintro⟨q,A,Z,Y,l,_,_⟩
   rw[lp (L.map.mem_at A Z Y)];omega
  intro l;rcases L.val_cases t with⟨Z,_⟩|⟨_,_,_,Y⟩
  ·omega
  obtain⟨q,A,m,n,w⟩:=rz Y;exact⟨q,A,m,n,by omega,E,H⟩
 refine⟨List.pairwise_append.2 ⟨N.rise,List.pairwise_map.2 (Q.1.1.imp λk=>Int.le_of_lt k),λx B y c=>?_⟩,λx B=>?_,λx B=>?_,λq A t E H=>?_,λq A t E H S=>?_⟩
 ·obtain⟨z,I,rfl⟩:=AD.1 c
  obtain⟨o,V,E⟩:=N.ends x B;obtain⟨i,U⟩:=AM V;have O:i<k:=by
   have:=zy U;rw[AE]at this;omega
  rw[List.getElem?_take_of_lt O]at U;obtain⟨d,e⟩:=AW.1 U;obtain⟨g,j⟩:=AW.1 W;have H:=List.pairwise_iff_getElem.1 C.map.1 i k d g O;rw[e,j]at H;have S:=J z I;show x.t<=z.f;omega
 ·rcases AK.1 B with B|B
  ·exact N.in_ x B
  obtain⟨z,I,rfl⟩:=AD.1 B;have:=J z I;exact⟨⟨by show 0<=z.f;omega,this.2.1,by show z.t<=h;omega⟩,X.2⟩
 ·rcases AK.1 B with B|B
  ·obtain⟨o,V,E⟩:=N.ends x B
   exact⟨o,by rw[R];exact List.mem_append_left _ V,E⟩
  obtain⟨z,I,rfl⟩:=AD.1 B;exact⟨p,by rw[R];simp,(J z I).2.2⟩
 ·rcases AK.1 A with A|A
  ·exact N.tells q A t E H
  obtain⟨z,I,rfl⟩:=AD.1 A;have P:=J z I;have K:p.f<=t/\t<p.t:=by
   have r:(pG p.v z).f=z.f:=rfl;have s:(pG p.v z).t=z.t:=rfl;omega
  refine⟨lp (C.map.mem_at M K.1 K.2),?_⟩;have T:=((Q.2 t).1 (xD.2 ⟨z,I,E,H⟩)).2;exact Classical.byContradiction λa=>T ((G t K.1 K.2).2 a)
 rw[R]at A;rcases AK.1 A with A|A
 ·obtain⟨x,B,P⟩:=N.all q A t E H S
  exact⟨x,List.mem_append_left _ B,P⟩
 obtain rfl:q=p:=by simpa using A
 have P:zE rest t=true:=(Q.2 t).2 ⟨⟨E,H⟩,λK=>(G t E H).1 K S⟩;obtain⟨z,I,K,T⟩:=xD.1 P;exact⟨pG q.v z,List.mem_append_right _ (AD.2 ⟨z,I,rfl⟩),K,T⟩
theorem mi.fin{A was F:List zg}{k:Nat}(D:mi h A was F k)(B:wK h A)(C:wK h was)(I:A.length<=k):sB h A (val was) F:=by
 have E:A.take k=A:=AJ I;have N:vN=1099511627776:=rfl;refine⟨D.rise,D.in_,D.tells,λt O=>?_⟩;rcases B.val_cases t with⟨P,_⟩|⟨_,_,_,K⟩
 ·rcases C.val_cases t with⟨L,_⟩|⟨L,_⟩ <;> omega
 obtain⟨q,J,G,H,M⟩:=rz K;exact D.all q (by rw[E];exact J) t G H (by omega)
end
def moreL(p:Int)(l:zR):Int:=if p=1 then 1 else if p=2 then l.cost else 0
def oV(p:Int)(life:zw)(l:zR)(q:zg):zg:=⟨max (max q.f l.f) life.f,min (min q.t l.t) life.t,q.v+moreL p l⟩
def uV(p:Int)(life:zw)(l:zR)(q:zg):List zg:=if (oV p life l q).f<(oV p life l q).t then [oV p life l q] else []
def uJ(p:Int)(life:zw)(legs:List zR)(fresh:List zg):List zg:=legs.flatMap λl=>fresh.flatMap (uV p life l)
abbrev vP:=Int×zg
def qT(g:zf)(v:Int):zw:=(g.lives[v.toNat]?).getD ⟨0,0⟩
def uA(F:List (List zg))(v:Int):List zg:=(F[v.toNat]?).getD []
def sX(g:zf)(p:Int)(F:List (List zg))(x:zA):List vP:=(uJ p (qT g x.b) x.legs (uA F x.a)).map (Prod.mk x.b)
def sY(g:zf)(p:Int)(F:List (List zg))(x:zA):List vP:=(uJ p (qT g x.a) x.legs (uA F x.b)).map (Prod.mk x.a)
def QT(g:zf)(p:Int)(F:List (List zg))(x:zA):List vP:=sX g p F x++if p=3 then sY g p F x else []
def tM(g:zf)(p:Int)(F:List (List zg)):List vP:=g.edges.flatMap (QT g p F)
def oo(ms:List vP)(v:Int):List zg:=(ms.filter λm=>decide (m.1=v)).map Prod.snd
section
variable {p v t:Int}{g:zf}{F:List (List zg)}{x:zA}{q m:zg}{l:zR}{life:zw}{legs:List zR}{fresh:List zg}
theorem aH:m∈uJ p life legs fresh↔∃l q,l∈legs/\q∈fresh/\m=oV p life l q/\m.f<m.t:=by
 unfold uJ
 constructor
 ·intro h
  obtain⟨l,B,h⟩:=List.mem_flatMap.1 h;obtain⟨q,C,h⟩:=List.mem_flatMap.1 h;unfold uV at h
  split at h
  ·next A=>
   obtain rfl:m=_:=by simpa using h
   exact⟨l,q,B,C,rfl,A⟩
  simp at h
 rintro⟨l,q,B,C,rfl,A⟩;refine List.mem_flatMap.2 ⟨l,B,List.mem_flatMap.2 ⟨q,C,?_⟩⟩;unfold uV;rw[Aq A];simp
theorem bS(p:Int)(A:zw)(fresh:List zg):∀B:List zR,(uJ p A B fresh).length<=B.length*fresh.length
 |[]=>by simp[uJ]
 |l::B=>by
  have ih:=bS p A fresh B;have e:uJ p A (l::B) fresh=fresh.flatMap (uV p A l)++uJ p A B fresh:=rfl;have h1:∀C:List zg,(C.flatMap (uV p A l)).length<=C.length:=λC=>by
   induction C with
   |nil=>simp
   |cons q C ih2=>
    rw[List.flatMap_cons,Ag,Ap];have:(uV p A l q).length<=1:=by unfold uV;split <;> simp
    omega
  have:=h1 fresh;rw[e,Ag,Ap,Nat.succ_mul];omega
theorem el{C:List vP}:m∈oo C v↔(v,m)∈C:=by
 unfold oo;simp only[AD,List.mem_filter,decide_eq_true_eq]
 constructor
 ·rintro⟨⟨a,b⟩,⟨D,A⟩,B⟩
  simp only at A B;subst A B;exact D
 intro h;exact⟨(v,m),⟨h,rfl⟩,rfl⟩
theorem dI{A:vP}:A∈tM g p F↔∃x,x∈g.edges/\((A.1=x.b/\A.2∈uJ p (qT g x.b) x.legs (uA F x.a))∨(p=3/\A.1=x.a/\A.2∈uJ p (qT g x.a) x.legs (uA F x.b))):=by
 unfold tM;rw[List.mem_flatMap];refine exists_congr λx=>and_congr_right λ_=>?_;unfold QT sX sY;rw[AK,AD]
 constructor
 ·rintro(⟨m,B,rfl⟩|h)
  ·exact .inl ⟨rfl,B⟩
  split at h
  ·next h3=>
   obtain⟨m,B,rfl⟩:=AD.1 h;exact .inr ⟨h3,rfl,B⟩
  simp at h
 rintro(⟨h1,h2⟩|⟨h3,h1,h2⟩)
 ·exact .inl ⟨A.2,h2,by rw[<-h1]⟩
 refine .inr ?_;rw[Aq h3,AD];exact⟨A.2,h2,by rw[<-h1]⟩
end
def rY(sts:List (List zg))(t:Int):Nat->Int:=gi (sts.map λm=>val m t)
def rW(g:zf)(p t:Int):pU Nat->Prop:=sA (xR g t) (mh p) (decide (p=3))
def qb(g:zf)(p v t:Int):Nat->Int:=gi (vo (xR g t) p v)
structure rU(g:zf)(sts F:List (List zg))(was:Nat->Int->Int):Prop where
 len:sts.length=g.lives.length
 lenF:F.length=g.lives.length
 lies:∀m,m∈sts->wK g.h m
 alive:∀(v:Nat) m,sts[v]?=some m->∀t,xN m t≠none->zn g v t=true
 fresh:∀(v:Nat) m f,sts[v]?=some m->F[v]?=some f->sB g.h m (was v) f
section
variable {p v t:Int}{k:Nat}{g:zf}{sts F sts':List (List zg)}{was:Nat->Int->Int}
theorem sK{m:List zg}{i:Nat}(h:sts[i]?=some m):rY sts t i=val m t:=vE (by simp[h])
theorem ei{i:Nat}(h:sts.length<=i):rY sts t i=0:=nF (by simpa using h)
theorem eS{f:List zg}{a:Int}{i:Nat}(_h0:0<=a)(A:a.toNat=i)(h:F[i]?=some f):uA F a=f:=by unfold uA;rw[A,h];rfl
theorem UU{x:zw}{a:Int}(h:g.lives[a.toNat]?=some x):qT g a=x:=by unfold qT;rw[h];rfl
theorem dB{a:Int}(B:zx g)(h0:0<=a)(h1:a<g.lives.length):∃x,g.lives[a.toNat]?=some x/\qT g a=x/\(0<=x.f/\x.f<x.t/\x.t<=g.h)/\∀t,zn g a t=decide (x.f<=t/\t<x.t):=by
 obtain⟨x,A⟩:=zl (show a.toNat<g.lives.length by omega);exact⟨x,A,UU A,B.lives x (Ad A),λt=>lC A⟩
theorem pT(p a b:Int)(l:zR):mh p ⟨a,b,l.cost⟩=moreL p l:=by unfold mh moreL;rfl
theorem rU.mail(S:rU g sts F was)(r:zx g){D:vP}(J:D∈tM g p F):(0<=D.1/\D.1<g.lives.length)/\D.2.f<D.2.t/\∀t,D.2.f<=t->t<D.2.t ->
  (∃a,rW g p t a/\a.b=D.1.toNat/\D.2.v=a.f (rY sts t a.a)/\rY sts t a.a<=100000/\0<=rY sts t a.a/\∃c:Int,0<=c/\c<=1000/\a.f=λt=>t+c)/\(0<=t/\t<g.h)/\zn g D.1 t=true:=by
 obtain⟨to,m⟩:=D;obtain⟨x,w,J⟩:=dI.1 J;have B:=r.edges x w;have O:∀(a b:Int),0<=a/\a<g.lives.length->0<=b/\b<g.lives.length->m∈uJ p (qT g b) x.legs (uA F a)->m.f<m.t/\∀t,m.f<=t->t<m.t ->
   ∃l,yC t x.legs=some l/\l∈x.legs/\zn g a t=true/\zn g b t=true/\m.v=rY sts t a.toNat+moreL p l/\rY sts t a.toNat<=100000/\0<=rY sts t a.toNat/\(0<=t/\t<g.h):=λa b s u W=>by
  obtain⟨l,q,N,Y,rfl,V⟩:=aH.1 W;refine⟨V,λt G H=>?_⟩;obtain⟨xb,_,U,C0,T⟩:=dB r u.1 u.2;obtain⟨y,C⟩:=zl (show a.toNat<sts.length by rw[S.len];omega);obtain⟨z,L⟩:=zl (show a.toNat<F.length by rw[S.lenF];omega);rw[eS s.1 rfl L]at Y;have M:=S.fresh a.toNat y z C L;rw[U]at G H;simp only[oV]at G H;have E:=M.tells q Y t (by omega) (by omega)
  have K:=M.in_ q Y;have A0:=B.legs l N;refine⟨l,aB x.legs none B.err l N (by omega) (by omega),N,?_,?_,?_,?_,?_,by omega,by omega⟩
  ·have:=S.alive a.toNat y C t (λhn=>by
    have R:=iN hn;rw[E.1]at R;have:=K.2;unfold vN at R;omega)
   rwa[Int.toNat_of_nonneg s.1]at this
  ·rw[T];simp;omega
  ·rw[sK C,E.1];rfl
  ·rw[sK C,E.1];exact K.2.2
  rw[sK C,E.1];exact K.2.1
 have A:∀l,l∈x.legs->0<=moreL p l/\moreL p l<=1000:=λl N=>by
  have:=B.legs l N;unfold moreL
  split
  ·omega
  split <;> omega
 have I:∀t l,yC t x.legs=some l->zn g x.a t=true->zn g x.b t=true->(⟨x.a,x.b,l.cost⟩:xz)∈(xR g t).arcs:=λt l G H R=>by
  show _∈wX g t g.edges;unfold wX;exact List.mem_flatMap.2 ⟨x,w,by rw[iW G H R];simp⟩
 rcases J with⟨rfl,J⟩|⟨X,rfl,J⟩
 ·obtain⟨G,H⟩:=O x.a x.b ⟨B.a0,B.a1⟩ ⟨B.b0,B.b1⟩ J
  refine⟨⟨B.b0,B.b1⟩,G,λt Z d=>?_⟩;obtain⟨l,e,P,i,Q,j,k,n,o⟩:=H t Z d;refine⟨⟨rc (mh p) ⟨x.a,x.b,l.cost⟩,⟨_,I t l e i Q,.inl rfl⟩,rfl,?_,k,n,moreL p l,(A l P).1,(A l P).2,?_⟩,o,Q⟩
  ·show m.v=rY sts t x.a.toNat+mh p _
   rw[pT];exact j
  show(λt=>t+mh p _)=_;rw[pT]
 obtain⟨G,H⟩:=O x.b x.a ⟨B.b0,B.b1⟩ ⟨B.a0,B.a1⟩ J;refine⟨⟨B.a0,B.a1⟩,G,λt Z d=>?_⟩;obtain⟨l,e,P,i,Q,j,k,n,o⟩:=H t Z d;refine⟨⟨iU (mh p) ⟨x.a,x.b,l.cost⟩,⟨_,I t l e Q i,.inr ⟨by simp[X],rfl⟩⟩,rfl,?_,k,n,moreL p l,(A l P).1,(A l P).2,?_⟩,o,Q⟩
 ·show m.v=rY sts t x.b.toNat+mh p _
  rw[pT];exact j
 show(λt=>t+mh p _)=_;rw[pT]
theorem rU.told(L:rU g sts F was)(W:zx g){a:pU Nat}(O:rW g p t a)(Y:rY sts t a.a<was a.a t):∃m,((a.b:Int),m)∈tM g p F/\ng m t=true/\m.v=a.f (rY sts t a.a):=by
 obtain⟨y,i,B⟩:=O;obtain⟨x,l,U,d,R,P,Q,rfl⟩:=oK i;have A:=W.edges x U;have e:=(rn d).2;have K:∀(a b:Int),0<=a/\a<g.lives.length->0<=b/\b<g.lives.length->zn g b t=true->rY sts t a.toNat<was a.toNat t ->
   ∃m,m∈uJ p (qT g b) x.legs (uA F a)/\ng m t=true/\m.v=rY sts t a.toNat+moreL p l:=λa b O X C I=>by
  obtain⟨M,_,J,h,B⟩:=dB W X.1 X.2;obtain⟨c,E⟩:=zl (show a.toNat<sts.length by rw[L.len];omega);obtain⟨V,D⟩:=zl (show a.toNat<F.length by rw[L.lenF];omega);rw[sK E]at I⊢;obtain⟨q,Z,j,k⟩:=(L.fresh a.toNat c V E D).all t I;have T:=(L.fresh a.toNat c V E D).tells q Z t j k;rw[B]at C;have C:M.f<=t/\t<M.t:=by simpa using C
  refine⟨oV p (qT g b) l q,aH.2 ⟨l,q,R,by rw[eS O.1 rfl D];exact Z,rfl,?_⟩,?_,?_⟩
  ·rw[J];simp only[oV];omega
  ·rw[J]
   have G:(oV p M l q).f<=t:=by simp only[oV];omega
   have H:t<(oV p M l q).t:=by simp only[oV];omega
   simp[ng,G,H]
  rw[T.1];rfl
 rcases B with rfl|⟨S,rfl⟩
 ·obtain⟨m,G,H,N⟩:=K x.a x.b ⟨A.a0,A.a1⟩ ⟨A.b0,A.b1⟩ Q Y
  refine⟨m,dI.2 ⟨x,U,.inl ⟨?_,G⟩⟩,H,?_⟩
  ·show((x.b.toNat:Nat):Int)=x.b
   exact Int.toNat_of_nonneg A.b0
  show m.v=rY sts t x.a.toNat+mh p _;rw[pT];exact N
 obtain⟨m,G,H,N⟩:=K x.b x.a ⟨A.b0,A.b1⟩ ⟨A.a0,A.a1⟩ P Y;refine⟨m,dI.2 ⟨x,U,.inr ⟨by simpa using S,?_,G⟩⟩,H,?_⟩
 ·show((x.a.toNat:Nat):Int)=x.a
  exact Int.toNat_of_nonneg A.a0
 show m.v=rY sts t x.b.toNat+mh p _;rw[pT];exact N
def Na(g:zf)(p:Int)(sts:List (List zg))(was:Nat->Int->Int):Prop:=(∀v t,was v t=vN)∨∀t,Bf (rW g p t) (λv=>was v t) (rY sts t)
theorem UG(E:zx g){a:pU Nat}(F:rW g p t a):a.a<g.lives.length/\a.b<g.lives.length/\∃c:Int,0<=c/\c<=1000/\a.f=λt=>t+c:=by
 obtain⟨y,H,C⟩:=F;obtain⟨x,l,G,M,D,_,_,rfl⟩:=oK H;have B:=E.edges x G;have I:=B.a0;have J:=B.a1;have K:=B.b0;have L:=B.b1;have A:0<=moreL p l/\moreL p l<=1000:=by
  have:=B.legs l D;unfold moreL
  split
  ·omega
  split <;> omega
 rcases C with rfl|⟨_,rfl⟩
 ·refine⟨by show x.a.toNat<_;omega,by show x.b.toNat<_;omega,moreL p l,A.1,A.2,?_⟩
  show(λt=>t+mh p _)=_;rw[pT]
 refine⟨by show x.b.toNat<_;omega,by show x.a.toNat<_;omega,moreL p l,A.1,A.2,?_⟩;show(λt=>t+mh p _)=_;rw[pT]
theorem Om(hV:zx g)(p t:Int):Zj (rW g p t) g.lives.length:=λ_ ha=>UG hV ha
theorem rU.dAt_cases(B:rU g sts F was)(v:Nat):rY sts t v=vN∨(0<=rY sts t v/\rY sts t v<=100000):=by
 rcases Nat.lt_or_ge v sts.length with h|h
 ·obtain⟨m,A⟩:=zl h
  rw[sK A];rcases(B.lies m (Ad A)).val_cases t with⟨k,_⟩|⟨C,D,_⟩
  ·exact .inl k
  exact .inr ⟨D,C⟩
 rw[ei h];exact .inr ⟨by omega,by omega⟩
theorem rU.round(E:rU g sts F was)(L:zx g)(H:Na g p sts was)(R:sts'.length=g.lives.length)
  (V:∀(v:Nat) m m',sts[v]?=some m->sts'[v]?=some m'->∀t,val m' t=um (oo (tM g p F) v) t (val m t)) (t:Int):Bf (rW g p t) (rY sts t) (rY sts' t):=by
 have B:∀v:Nat,v<g.lives.length->rY sts' t v=um (oo (tM g p F) v) t (rY sts t v):=λv A=>by
  obtain⟨m,G⟩:=zl (show v<sts.length by rw[E.len];exact A);obtain⟨m',I⟩:=zl (show v<sts'.length by rw[R];exact A);rw[sK G,sK I,V v m m' G I]
 have C:∀v:Nat,g.lives.length<=v->rY sts' t v=rY sts t v:=λv A=>by
  rw[ei (by rw[R];exact A),ei (by rw[E.len];exact A)]
 have X:vN=1099511627776:=rfl;refine⟨λv=>?_,λx N=>?_,λv=>?_⟩
 ·rcases Nat.lt_or_ge v g.lives.length with A|A
  ·rw[B v A];exact oU
  rw[C v A];exact Int.le_refl _
 ·obtain⟨W,O,c,U,_,S⟩:=UG L N
  have M:rY sts' t x.b<=rY sts t x.b:=by rw[B x.b O];exact oU
  by_cases Q:rY sts t x.a<was x.a t
  ·obtain⟨m,G,J,A⟩:=E.told L N Q
   rw[B x.b O,<-A];exact gB (el.2 G) J
  rcases H with H|H
  ·rw[H]at Q
   have D:rY sts t x.a=vN:=by
    rcases E.dAt_cases (t:=t) x.a with h|h
    ·exact h
    omega
   rw[S,D];simp only;rcases E.dAt_cases (t:=t) x.b with h|h <;> omega
  have D:=(H t).arc x N;have P:=(H t).le x.a;have K:rY sts t x.a=was x.a t:=by omega
  rw[<-K]at D;exact Int.le_trans M D
 rcases Nat.lt_or_ge v g.lives.length with A|A
 ·rw[B v A]
  rcases qV (l:=oo (tM g p F) v) (t:=t) (d:=rY sts t v)with h|⟨m,G,J,h⟩
  ·exact .inl h
  right
  obtain⟨_,_,D⟩:=E.mail L (el.1 G);simp only[ng,decide_eq_true_eq]at J;obtain⟨⟨a,P,K,T,_⟩,_⟩:=D t J.1 J.2;exact⟨a,P,by simpa using K,by rw[h,T]⟩
 exact .inl (C v A)
structure mC(g:zf)(p v:Int)(k:Nat)(sts F:List (List zg))(was:Nat->Int->Int):Prop where
 st:rU g sts F was
 was:Na g p sts was
 at_:∀t,0<=t->t<g.h->ly (rW g p t) (qb g p v t) k (rY sts t)
 last:k=0∨∃t d,(0<=t/\t<g.h)/\∃j,k=j+1/\ly (rW g p t) (qb g p v t) j d/\d≠rY sts t
structure tu(g:zf)(p v:Int)(k:Nat)(out:List (List zg)):Prop where
 len:out.length=g.lives.length
 lies:∀m,m∈out->wK g.h m
 at_:∀t,0<=t->t<g.h->ly (rW g p t) (qb g p v t) k (rY out t)/\Bf (rW g p t) (rY out t) (rY out t)
 last:k=0∨∃t d,(0<=t/\t<g.h)/\∃j,k=j+1/\ly (rW g p t) (qb g p v t) j d/\d≠rY out t
 few:k<=g.lives.length
theorem dk(C:zx g){A:Int}(v:Nat):0<=qb g p A t v/\(qb g p A t v=vN∨qb g p A t v<=12):=by
 unfold qb;have D:=C.nl;have B:(xR g t).alive.length=g.lives.length:=wu g t;rcases Nat.lt_or_ge v g.lives.length with h|h
 ·unfold vo
  rw[uL (by rw[B];exact h)];unfold vN
  split
  ·omega
  split <;> omega
 unfold vo;rw[ta (by rw[B];exact h)];omega
theorem mC.bound(hM:mC g p v k sts F was)(hV:zx g)(ht:0<=t/\t<g.h)(i:Nat):0<=rY sts t i/\(rY sts t i=vN∨rY sts t i<=12+1000*k):=(hM.at_ t ht.1 ht.2).bound (Om hV p t) (λj=>dk hV j) i
theorem mC.fin(A:mC g p v k sts F was)(G:zx g)(H:k<=g.lives.length)
  (I:∀(v:Nat) m,sts[v]?=some m->∀t,um (oo (tM g p F) v) t (val m t)=val m t):tu g p v k sts:=by
 refine⟨A.st.len,A.st.lies,λt D E=>⟨A.at_ t D E,?_⟩,A.last,H⟩;refine A.st.round G A.was A.st.len (λv m J C B t=>?_) t;rw[C]at B;obtain rfl:m=J:=by simpa using B
 exact(I v m C t).symm
end
open Go.RowKit
inductive uq(g:Nat):World->World->Prop
 |refl (w:World):uq g w w
 |ext {w a b:World}:uq g w a->Below a.heap.size a b->uq g w b
 |put {w a:World} (o:Nat) (A:Option Addr) (n c:Nat):uq g w a->uq g w (a.setCell ⟨g,o,none⟩ (.slice A n c))
def Slices(w:World)(g:Nat):Prop:=∃t cs,zj w g t cs/\∀(i:Nat) u,cs[i]?=some u->∃A n c,u=Value.slice A n c
section
variable {g:Nat}{w w' a b:World}
theorem uq.trans(h:uq g w a)(k:uq g a b):uq g w b:=by
 induction k with
 |refl=>exact h
 |ext _ hb ih=>exact .ext ih hb
 |put o A n c _ ih=>exact .put o A n c ih
theorem uq.of_below(h:Below w.heap.size w a):uq g w a:=.ext (.refl w) h
theorem uq.size(h:uq g w a):w.heap.size<=a.heap.size:=by
 induction h with
 |refl=>exact Ay _
 |ext _ hb ih=>exact Ai ih hb.size
 |put o A n c _ ih=>simpa using ih
theorem uq.blk{k:Nat}{t:TypeId}{cs:Array Value}(h:uq g w a)(C:k≠g)(B:zj w k t cs):zj a k t cs:=by
 induction h with
 |refl=>exact B
 |ext _ hb ih=>exact ih.ext hb
 |put o A n c _ ih=>exact ih.far C _
theorem uq.under{k:Nat}{B:World}(h:uq g w a)(C:Below k B w)(D:k<=g)(E:g<w.heap.size):Below k B a:=by
 induction h with
 |refl=>exact C
 |ext h' hb' ih=>exact ih.trans (hb'.mono (by have:=h'.size;omega))
 |put o A n c _ ih=>exact ih.setCell D _
theorem Slices.ext(h:Slices w g)(C:Below w.heap.size w a):Slices a g:=by
 obtain⟨t,A,B,D⟩:=h;exact⟨t,A,B.ext C,D⟩
theorem Slices.put(h:Slices w g)(o:Nat)(A:Option Addr)(n c:Nat):Slices (w.setCell ⟨g,o,none⟩ (.slice A n c)) g:=by
 obtain⟨t,D,E,F⟩:=h;refine⟨t,_,E.set_ o _,λi u B=>?_⟩
 by_cases e:o=i
 ·subst e
  by_cases C:o<D.size
  ·rw[Ak C]at B
   exact⟨A,n,c,(AB B).symm⟩
  rw[Array.getElem?_eq_none (by simpa using C)]at B;cases B
 rw[Aj e]at B;exact F i u B
theorem uq.slices(h:uq g w a)(B:Slices w g):Slices a g:=by
 induction h with
 |refl=>exact B
 |ext _ hb ih=>exact ih.ext hb
 |put o A n c _ ih=>exact ih.put o A n c
theorem Slices.ne{k o:Nat}{kd:IntKind}{x:Int}(h:Slices w g)(hc:zJ w k o (.int kd x)):k≠g:=λe=>by
 subst e;obtain⟨t,cs,hB,hs⟩:=h;unfold zJ at hc;rw[hB.cell]at hc;obtain⟨A,n,c,e⟩:=hs o _ hc
 cases e
theorem zJ.put{k o A:Nat}{v u:Value}(h:zJ w k o v)(B:k≠g):zJ (w.setCell ⟨g,A,none⟩ u) k o v:=by
 unfold zJ at h⊢;have e:=Below.heap_setCell w ⟨g,A,none⟩ u k B;rw[<-h];unfold World.cell?;simp only[e]
theorem zU.put{α:Type}{R:World->Nat->Nat->α->Prop}{sz o E D:Nat}{A C:Option Addr}{l:List α}(_L:Slices w g)(h:zU R sz w A l)
  (J:∀b F x,R w b F x->R (w.setCell ⟨g,o,none⟩ (.slice C E D)) b F x):zU R sz (w.setCell ⟨g,o,none⟩ (.slice C E D)) A l:=by
 obtain⟨b,B,h⟩:=h;refine⟨b,B,λi x K=>?_⟩;obtain⟨G,H,I⟩:=h i x K;exact⟨G,by simpa using H,J _ _ _ I⟩
theorem PiecesAt.put{A A':Option Addr}{c n' c' o:Nat}{l:List zg}(hS:Slices w g)(h:PiecesAt w A c l):PiecesAt (w.setCell ⟨g,o,none⟩ (.slice A' n' c')) A c l:=
 ⟨h.lc,h.cm,h.sl.put hS λb o' x hx=>by
  obtain⟨⟨h1,h2,h3⟩,h4⟩:=hx;have hne:=hS.ne h1;exact⟨⟨h1.put hne,h2.put hne,h3.put hne⟩,h4⟩⟩
theorem xB.put{A A':Option Addr}{c n' c' o:Nat}{l:List vt}(hS:Slices w g)(h:xB w A c l):xB (w.setCell ⟨g,o,none⟩ (.slice A' n' c')) A c l:=
 ⟨h.lc,h.cm,h.sl.put hS λb o' x hx=>by
  obtain⟨⟨h1,h2,h3,h4,h5⟩,h6⟩:=hx;have hne:=hS.ne h1;exact⟨⟨h1.put hne,h2.put hne,h3.put hne,h4.put hne,h5.put hne⟩,h6⟩⟩
theorem uq.pieces{A:Option Addr}{c:Nat}{l:List zg}(h:uq g w a)(C:Slices w g)(B:PiecesAt w A c l):PiecesAt a A c l:=by
 induction h with
 |refl=>exact B
 |ext _ hb ih=>exact ih.ext hb
 |put o A n c h' ih=>exact ih.put (h'.slices C)
theorem uq.cells{A:Option Addr}{c:Nat}{l:List vt}(h:uq g w a)(C:Slices w g)(B:xB w A c l):xB a A c l:=by
 induction h with
 |refl=>exact B
 |ext _ hb ih=>exact ih.ext hb
 |put o A n c h' ih=>exact ih.put (h'.slices C)
theorem uq.own{α:Type}{enc:α->List Value}{sz base:Nat}{e:TypeId}{v:Value}{l:List α}{t:TypeId}{cs:Array Value}(h:uq g w a)(hB:zj w g t cs)(ht:e≠t)(hO:Own enc sz w base e v l):Own enc sz a base e v l:=
 hO.keep λ_ _ hb=>h.blk (wv hb hB ht) hb
theorem uq.new{base:Nat}{A:Option Addr}{c:Nat}{l:List zg}{t:TypeId}{cs:Array Value}(h:uq g w a)(hS:Slices w g)(hB:zj w g t cs)(ht:113≠t)(hP:xL base w A c l):xL base a A c l:=
 ⟨h.pieces hS hP.toPiecesAt,h.own hB ht hP.own⟩
theorem PiecesAt.drop{k c:Nat}{b off:Nat}{l:List zg}(h:PiecesAt w (some ⟨b,off,none⟩) c l)(J:k<=l.length):PiecesAt w (some ⟨b,off+k*3,none⟩) (c-k) (l.drop k):=by
 have H:=h.lc;have I:=h.cm;refine⟨by rw[List.length_drop];omega,by omega,b,off+k*3,λi x B=>?_⟩;rw[List.getElem?_drop]at B;obtain⟨D,A,F⟩:=h.sl;obtain⟨e,G,C⟩:=F (k+i) x B;obtain⟨rfl,rfl⟩:b=D/\off=A:=by simpa using e
 refine⟨rfl,G,?_⟩;have E:off+(k+i)*3=off+k*3+i*3:=by omega
 rw[E]at C;exact C
theorem PiecesAt.taken{c:Nat}{A:Option Addr}{l:List zg}(h:PiecesAt w A c l)(n:Nat):PiecesAt w A c (l.take n):=
 ⟨Ai (by rw[AE];omega) h.lc,h.cm,h.sl.take n⟩
end
