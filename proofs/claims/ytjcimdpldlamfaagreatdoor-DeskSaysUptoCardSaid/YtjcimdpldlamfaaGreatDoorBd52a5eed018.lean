import Derived.Deep.OwnRows
import Derived.Laws.OwnMore
import Derived.Test.YtjcimdpldlamfaaGreatDoorBd9cd66bd2cf
namespace Go.Proofs.YtjcimdpldlamfaaGreatDoor
def fv(U:List (yT fS))(g:fS->Int)(t:Int):Option Int:=(ko U t).map g
def bD(l:List zg)(k t:Int):Option Int:=if yQ l t=[] then none else some (rP l k (yQ l t))
def pw(U:List (yT fS))(g:fS->Int)(k:Nat)(out:List zg):Prop:=
 (k=0->out=[])/\(∀j z,k=j+1->U[j]?=some z->∃b,(∀x,x∈U->b<=x.f)/\qr (fv U g) b z.t out)/\out.length<=k/\∀x,x∈out->zM x.f/\zM x.t/\zM x.v
section
variable {U:List (yT fS)}{g:fS->Int}{k:Nat}{out o:List zg}{y:yT fS}{z:zg}
theorem pw.start:pw U g 0 []:=⟨λ_=>rfl,λj z h=>by omega,Nat.le_refl _,λx h=>by simp at h⟩
theorem lL(B:vw U)(C:y∈U){t:Int}(h1:y.f<=t)(A:t<y.t):fv U g t=some (g y.v):=by
 unfold fv;rw[B.mem_at C h1 A];rfl
theorem pw.pre(h:pw U g k out)(C:vw U)(E:U[k]?=some y):∃b,(∀x,x∈U->b<=x.f)/\qr (fv U g) b y.f out:=by
 obtain⟨F,B⟩:=List.getElem?_eq_some_iff.1 E
 match k,h,E,F,B with
 |0,h,E,F,B=>
  refine⟨y.f,λx I=>?_,?_⟩
  ·obtain⟨i,G,rfl⟩:=List.mem_iff_getElem.1 I
   by_cases Q:i=0
   ·subst Q;rw[B];exact Int.le_refl _
   have:=List.pairwise_iff_getElem.1 C.1 0 i F G (by omega);rw[B]at this;have:=C.2 y (List.mem_of_getElem? E);omega
  rw[h.1 rfl];exact qr.start
 |j+1,h,E,F,B=>
  obtain⟨z,J⟩:=zl (show j<U.length by omega);obtain⟨P,L⟩:=List.getElem?_eq_some_iff.1 J;obtain⟨b,T,O⟩:=h.2.1 j z rfl J;refine⟨b,T,?_⟩;have K:=List.pairwise_iff_getElem.1 C.1 j (j+1) P F (by omega);rw[L,B]at K
  by_cases V:z.t=y.f
  ·rw[<-V];exact O
  have D:∀t,z.t<=t->t<y.f->fv U g t=none:=λt M N=>by
   unfold fv;rw[jE λx I=>?_]
   ·rfl
   rintro⟨R,S⟩;obtain⟨i,G,rfl⟩:=List.mem_iff_getElem.1 I;rcases Nat.lt_trichotomy i j with A|A|A
   ·have:=List.pairwise_iff_getElem.1 C.1 i j G P A
    rw[L]at this;have:=C.2 z (List.mem_of_getElem? J);omega
   ·subst A;rw[L]at S;omega
   by_cases H:i=j+1
   ·subst H;rw[B]at R;omega
   have:=List.pairwise_iff_getElem.1 C.1 (j+1) i F G (by omega);rw[B]at this;have:=C.2 y (List.mem_of_getElem? E);omega
  exact O.skip (by omega) (λt M N=>by rw[D t M N,D z.t (Int.le_refl _) (by omega)]) (D z.t (Int.le_refl _) (by omega))
theorem pw.grow(h:pw U g k (o++[z]))(C:vw U)(E:U[k]?=some y)(K:z.t=y.f)(J:z.v=g y.v)(hi:zM y.t):pw U g (k+1) (o++[⟨z.f,y.t,z.v⟩]):=by
 obtain⟨b,F,I⟩:=h.pre C E;have D:=List.mem_of_getElem? E;have B:=C.2 y D;refine⟨λh=>by omega,λj x L A=>?_,by have:=h.2.2.1;simp at this⊢;omega,λx A=>?_⟩
 ·obtain rfl:k=j:=by omega
  rw[E]at A;obtain rfl:y=x:=by simpa using A
  exact⟨b,F,I.grow (F y D) B (λt G H=>by rw[lL C D G H,lL C D (Int.le_refl _) B]) (by rw[lL C D (Int.le_refl _) B,J]) K⟩
 rcases List.mem_append.1 A with A|A
 ·exact h.2.2.2 x (List.mem_append_left _ A)
 obtain rfl:x=_:=by simpa using A
 have:=h.2.2.2 z (by simp);exact⟨this.1,hi,this.2.2⟩
theorem pw.next(h:pw U g k out)(C:vw U)(F:U[k]?=some y)(J:∀x,x∈out->x.t=y.f->x.v≠g y.v)(h1:zM y.f)(E:zM y.t)(H:zM (g y.v)):pw U g (k+1) (out++[⟨y.f,y.t,g y.v⟩]):=by
 obtain⟨b,G,I⟩:=h.pre C F;have D:=List.mem_of_getElem? F;have B:=C.2 y D;refine⟨λh=>by omega,λj x K A=>?_,by have:=h.2.2.1;simp;omega,λx A=>?_⟩
 ·obtain rfl:k=j:=by omega
  rw[F]at A;obtain rfl:y=x:=by simpa using A
  exact⟨b,G,I.next (G y D) B (λt h1 E=>by rw[lL C D h1 E,lL C D (Int.le_refl _) B]) (lL C D (Int.le_refl _) B) J⟩
 rcases List.mem_append.1 A with A|A
 ·exact h.2.2.2 x A
 obtain rfl:x=_:=by simpa using A
 exact⟨h1,E,H⟩
theorem pw.last(h:pw U g k (o++[z]))(C:vw U)(E:U[k]?=some y)(D:¬(z.t=y.f/\z.v=g y.v)):∀x,x∈o++[z]->x.t=y.f->x.v≠g y.v:=λx A e B=>by
 obtain⟨b,hb,hT⟩:=h.pre C E;rcases List.mem_append.1 A with A|A
 ·have h2:=hT.map.ahead A
  have h3:=hT.low z (by simp);omega
 obtain rfl:x=z:=by simpa using A
 exact D ⟨e,B⟩
theorem pw.fin(h:pw U g U.length out)(E:vw U):wL out/\∀t,xN out t=fv U g t:=by
 rcases Nat.eq_zero_or_pos U.length with A|A
 ·have H:U=[]:=List.eq_nil_of_length_eq_zero A
  have I:=h.1 A;subst H I;exact⟨.nil,λt=>rfl⟩
 obtain⟨z,C⟩:=zl (show U.length-1<U.length by omega);obtain⟨M,G⟩:=List.getElem?_eq_some_iff.1 C;obtain⟨b,K,D⟩:=h.2.1 (U.length-1) z (by omega) C;refine⟨D.map,λt=>?_⟩;rw[D.tells]
 split
 ·rfl
 rename_i hn
 unfold fv;rw[jE λx F=>?_]
 ·rfl
 rintro⟨N,J⟩;have O:=K x F;obtain⟨i,L,rfl⟩:=List.mem_iff_getElem.1 F
 by_cases B:i=U.length-1
 ·subst B;rw[G]at J;omega
 have:=List.pairwise_iff_getElem.1 E.1 i (U.length-1) L M (by omega);rw[G]at this;have:=E.2 z (List.mem_of_getElem? C);omega
end
def lA(l:List zg)(k er:Int)(out:List zg):Prop:=
 if vZ l=0 then if 1<=k/\k<=3 then tD (bD l k) er out else er=1/\out=[] else er=vZ l/\out=[]
set_option maxRecDepth 100000
set_option maxHeartbeats 2000000
open Go.RowKit Go.Shelf
theorem rJ(x:zw):(xH x).length=2:=rfl
theorem Qt(l:List zw):∀u∈l.flatMap xH,u.oneCell'=true:=λu hu=>by
 obtain⟨x,_,hx⟩:=List.mem_flatMap.1 hu;simp only[xH,List.mem_cons,List.not_mem_nil,or_false]at hx;rcases hx with rfl|rfl <;> rfl
theorem IvlsAt.flat{w:World}{b off c:Nat}{l:List zw}(h:IvlsAt w (some ⟨b,off,none⟩) c l):∀(j:Nat) u,(l.flatMap xH)[j]?=some u->w.cell? ⟨b,off+j,none⟩=some u:=λj u G=>by
 have hj:j<l.length*2:=by have:=zy G;rw[wG rJ]at this;exact this
 obtain⟨x,H⟩:=zl (show j / 2<l.length by omega);obtain⟨I,B,e,_,E,F⟩:=h.get H;obtain⟨rfl,rfl⟩:b=I/\off=B:=by simpa using e
 have A:=lK rJ H (Nat.mod_lt j (show 0<2 by decide));rw[Nat.div_add_mod' j 2,G]at A;have J:=Nat.div_add_mod' j 2;rcases Nat.mod_two_eq_zero_or_one j with D|D
 ·rw[D]at A
  have C:j / 2*2=j:=by omega
  rw[C]at E;rw[E,A];rfl
 rw[D]at A;have C:off+j / 2*2+1=off+j:=by omega
 rw[C]at F;rw[F,A];rfl
def Rw(l:List zw)(w:World)(base:Nat)(e:Ending)(w':World):Prop:=∃v,e=.returned v/\Own xH 2 w' base 94 v l/\Below base w w'
theorem ZN(A:Option Addr)(c:Nat)(l:List zw)(w:World)(E:IvlsAt w A c l)(X:l.length<=100000) :
  Calls Tryz.prog 200 #[.slice A l.length c] w (Rw l w w.heap.size):=by
 obtain⟨U,S,H,I,J⟩:=rj
 cases A with
 |none=>
  have O:l=[]:=by
   cases l with
   |nil=>rfl
   |cons y l=>
    obtain⟨b,D,e,_⟩:=E.get (k:=0) (x:=y) rfl;simp at e
  subst O;have L:∀W:World,(binOp .eql 65 (.slice none 0 c) (.slice none 0 0)).run Tryz.prog W=.ok (.bool true) W:=λW=>Lib.run_eql_slice_nil_nil W 0 c Tryz.underlying65
  go_enter Tryz.func200,Tryz.ntmps200
  go_wp2_with fail;go_ret;exact⟨_,rfl,Own.nil,by go_grown⟩
 |some ad=>
  have G:∀W:World,(binOp .eql 65 (.slice (some ad) l.length c) (.slice none 0 0)).run Tryz.prog W=.ok (.bool false) W:=λW=>Lib.run_eql_slice_some_nil W ad l.length c Tryz.underlying65;have B:∀(K:World),Below w.heap.size w K->∀(j:Nat) u,(l.flatMap xH)[j]?=some u->K.cell? (ad.add j)=some u:=λK R j u M=>by
   cases l with
   |nil=>simp at M
   |cons y l=>
    obtain⟨b,D,e,_⟩:=E.get (k:=0) (x:=y) rfl;obtain rfl:ad=⟨b,D,none⟩:=by simpa using e
    rw[Go.WideShapes.add_plain];exact zD R (E.flat j u M)
  clear E
  go_enter Tryz.func200,Tryz.ntmps200
  go_wp2_with (at_builtin;refine wpList_append_own_at _ rfl (.tmp 5) (.tmp 6) 65 rfl w.heap.size 94 U _ 2 16 Tryz.underlying65 S H I J rfl (by decide) _ 0 [] rfl (Own.lit (enc:=xH) (l:=[]) rfl (Nat.le_refl _) rfl rfl rfl (by decide)) ad l.length c (l.flatMap xH) rfl (wG rJ l) (B _ (by go_grown)) (Qt l) (by unfold maxLen;omega) (by omega) (by simp) ?_;intro V N P Q _ _;have C:Own xH 2 N w.heap.size 94 V l:=(by simpa[Own]using P))
  have F:Below w.heap.size w N:=by
   refine((Below.refl w.heap.size w).alloc (Nat.le_refl _) (Obj.cells #[] 94)).grown Q (by simp) ?_;intro k T;have e:some w.heap.size=some k:=T
   cases e
   exact Nat.le_refl _
  go_ret;exact⟨_,rfl,C,F⟩
structure tY(p:zw->Bool)(l m:List zw)(j i:Nat):Prop where
 len:m.length=l.length
 lt:i<j
 ahead:m.take i=(l.take j).filter λx=>!p x
 rest:∀k x,j<=k->l[k]?=some x->m[k]?=some x
section
variable {p:zw->Bool}{l m:List zw}{i j k:Nat}{x:zw}
theorem fu(h:∀y,y∈l->p y=false):(l.filter λx=>!p x)=l:=List.filter_eq_self.2 λy hy=>by simp[h y hy]
theorem tY.start(hx:l[k]?=some x)(hp:p x=true)(hn:∀y,y∈l.take k->p y=false):tY p l l (k+1) k:=
 ⟨rfl,by omega,by rw[wC hx,List.filter_append,fu hn];simp[hp],λ_ _ _ h=>h⟩
theorem tY.skip(h:tY p l m j i)(hx:l[j]?=some x)(hp:p x=true):tY p l m (j+1) i:=
 ⟨h.len,by have:=h.lt;omega,by rw[wC hx,List.filter_append,h.ahead];simp[hp],λk y hk=>h.rest k y (by omega)⟩
theorem tY.keep(h:tY p l m j i)(A:l[j]?=some x)(D:p x=false):tY p l (m.set i x) (j+1) (i+1):=by
 have B:=zy A;have C:=h.lt;refine⟨by rw[List.length_set,h.len],by omega,?_,λk y F E=>?_⟩
 ·rw[wC A,List.filter_append,<-h.ahead]
  have e:(m.set i x)[i]?=some x:=List.getElem?_set_self (by rw[h.len];omega);rw[wC e,List.take_set_of_le (Nat.le_refl _)];simp[D]
 rw[List.getElem?_set_ne (by omega)];exact h.rest k y (by omega) E
theorem tY.fin(h:tY p l m j i)(A:l.length<=j):m.take i=l.filter λx=>!p x:=by rw[h.ahead,List.take_of_length_le A]
theorem tY.count(h:tY p l m j i)(A:l.length<=j)(B:i<l.length):(l.filter λx=>!p x).length=i:=by rw[<-h.fin A,List.length_take,h.len];omega
end
set_option maxHeartbeats 4000000
theorem PX(w:World):(zeroValue 94).run Tryz.prog w=.ok (.agg #[.int .i64 0,.int .i64 0]) w:=Tryz.zeroValue94 w
theorem bu(S:Nat)(lb:Array Value)(p:zw->Bool)(eg:∀O w,(callFunc S O).run Tryz.prog w=.ok (.enter S O) w)(v:Value)(l:List zw)(w:World)(base:Nat)(J:Own xH 2 w base 94 v l)(F:base<=w.heap.size)
  (Q:∀x,x∈l->zM x.f/\zM x.t) (hl:l.length<=100000) (hp:∀(W:World) (x:zw),Calls Tryz.prog S (#[PF x]++lb) W λe d=>e=.returned (.bool (p x))/\Below W.heap.size W d) :
  Calls Tryz.prog 199 #[v,.func (.func S) #[] lb] w (Rw (l.filter λx=>!p x) w base):=by
 obtain⟨A,c,rfl,hI⟩:=pc J Q;have o:=zc J;have HP:=zc hp;have C0:=kA S lb p eg A c l w hI λW x _=>hp W x;clear J hp hI Q
 go_enter Tryz.func199,Tryz.ntmps199
 go_wp2_with fail;refine C0.mono ?_;rintro e w1 ⟨⟨r,rfl,hr⟩,E⟩;clear C0;rcases hr with⟨rfl,P⟩|⟨k,x,rfl,K,G0,hn⟩
 ·have HA:=zc P
  clear P;go_wp2_with fail;go_ret;refine⟨_,rfl,?_,E.mono F⟩;rw[fu HA.out];exact o.out.ext E
 obtain⟨b,Z,hA⟩:∃b Z,A=some ⟨b,Z,none⟩:=by
  cases A with
  |none=>
   rcases o.out.2 with⟨h,T⟩|⟨g,z,A0,X,_⟩
   ·have:=zy K;omega
   simp at X
  |some a=>
   rcases o.out.2 with⟨h,T⟩|⟨g,z,A0,X,_⟩
   ·simp at h
   simp only[Value.slice.injEq,Option.some.injEq]at X;exact⟨g,0,by rw[X.1]⟩
 subst hA;obtain rfl:Z=0:=by
  rcases o.out.2 with⟨h,T⟩|⟨g,z,A0,X,_⟩
  ·simp at h
  simp only[Value.slice.injEq,Option.some.injEq,Addr.mk.injEq]at X;exact X.1.2.1
 have s0:=zy K;have L:Hid (tY p l l (k+1) k):=zc (tY.start K G0 hn);have D0:Own xH 2 w1 base 94 (.slice (some ⟨b,0,none⟩) l.length c) l:=o.out.ext E;have B0:Below base w w1:=E.mono F;have u0:=E.size;have R0:((k:Int)== -1)=false:=by simp
 clear K G0 hn E;go_wp2_with fail
 go_loopw [5,6] (λu v wr=>∃(i j:Nat) (m:List zw),u=.int .i64 i/\v=.int .i64 j/\j<=l.length/\Hid (tY p l m j i)/\Own xH 2 wr base 94 (.slice (some ⟨b,0,none⟩) l.length c) m/\Below base w wr) (λ_ v _=>l.length-(intOf v).toNat)
 case atStart=>exact⟨k,k+1,l,rfl,by go_num,by omega,L,D0,B0⟩
 clear D0 L B0 R0;obtain⟨i,j,m,rfl,rfl,hj,L,hO,n⟩:=hrel;have P0:=L.out.lt;have N:=L.out.len;obtain⟨S0,G,F0,U,R,C,E0,B⟩:=hO.cells rJ;have M:=zc F0;clear S0 F0
 by_cases Q0:j<l.length
 case pos=>
  obtain⟨x,K⟩:=zl Q0;have V:=L.out.rest j x (Nat.le_refl _) K;have x0:wr.cell? ⟨b,j*2,none⟩=some (.int .i64 x.f):=by rw[C.cell];have:=B j x V 0 (by decide);simpa[xH]using this
  have x1:wr.cell? ⟨b,j*2+1,none⟩=some (.int .i64 x.t):=by rw[C.cell];have:=B j x V 1 (by decide);simpa[xH]using this
  have p0:=C.lt;obtain⟨y,hy⟩:=zl (show i<m.length by omega);have y0:R[i*2]?=some (.int .i64 y.f):=by have:=B i y hy 0 (by decide);simpa[xH]using this
  have y1:R[i*2+1]?=some (.int .i64 y.t):=by have:=B i y hy 1 (by decide);simpa[xH]using this
  have hc:=λW=>HP.out W x;have HX:=zc K;have HR:=zc B;have HM:=zc N;clear K V hy B N
  cases hq:p x
  case true=>
   rw[hq]at hc;go_wp2_with (go_at_fn S;refine(hc _).mono ?_;rintro e d ⟨rfl,D⟩);go_roundw
   case rel=>exact⟨i,j+1,m,rfl,by go_num,by omega,zc (L.out.skip HX.out hq),(hO.alloc _).ext D,(n.alloc (by have:=n.size;omega) _).trans (D.mono (by simp;have:=n.size;omega))⟩
   case measure=>simp[intOf];omega
  case false=>
   rw[hq]at hc;go_wp2_with (go_at_fn S;refine(hc _).mono ?_;rintro e d ⟨rfl,D⟩;obtain⟨q1,q2,q3⟩:=((zj.new wr 94 #[.int .i64 x.f,.int .i64 x.t]).ext D).facts;obtain⟨r0,r1,r2,r3⟩:=(show zj d b 94 R/\(∀i,d.cell? ⟨b,i,none⟩=R[i]?)/\(∀i,d.frozen? ⟨b,i,none⟩=false)/\b<d.heap.size from⟨(C.alloc _).ext D,((C.alloc _).ext D).facts⟩));go_roundw
   case rel=>
    refine⟨i+1,j+1,m.set i x,by go_num,by go_num,by omega,zc (L.out.keep HX.out hq),?_,?_⟩
    ·have h:=(r0.set_ (i*2) (.int .i64 x.f)).set_ (i*2+1) (.int .i64 x.t)
     have T:=Own.of_cells (enc:=xH) (m:=m.set i x) rJ (by decide) h G (by rw[List.length_set];exact M.out) U (by simpa using E0) (HR.out.set (by rw[HM.out];omega)
      (λt ht=>by
       rw[Array.getElem?_setIfInBounds_ne (by omega),Array.getElem?_setIfInBounds_ne (by omega)])
      (λt ht=>by
       have k1:i*2+1<R.size:=(Array.getElem?_eq_some_iff.1 y1).1
       match t,ht with
       |0,_=>
        show((R.setIfInBounds (i*2) (.int .i64 x.f)).setIfInBounds (i*2+1) (.int .i64 x.t))[i*2]?=_;rw[Array.getElem?_setIfInBounds_ne (by omega),Array.getElem?_setIfInBounds_self_of_lt (by omega)];rfl
       |1,_=>rw[Array.getElem?_setIfInBounds_self_of_lt (by simpa using k1)];rfl))
     rwa[List.length_set,HM.out]at T
    have hz:=n.size;exact(((n.alloc (by omega) _).trans (D.mono (by simp;omega))).setCell G _).setCell G _
   case measure=>simp[intOf];omega
 obtain rfl:j=l.length:=by omega
 have N0:∀ty,(Builtin.clear_ #[65] ty #[.slice (some ⟨b,i*2,none⟩) (l.length-i) (c-i)]).run Tryz.prog wr=.ok (.tuple #[]) (wr.setCells b (i*2) (Builtin.zeroCells (Value.agg #[.int .i64 0,.int .i64 0]).cells (l.length-i)).toList):=λty=>
  bH wr 65 94 ty (.agg #[.int .i64 0,.int .i64 0]) Tryz.underlying65 PX (by simp[Value.cells,Value.oneCell']) b (i*2) _ _ (by omega)
   (λt ht=>by
    simp only[Value.cells,List.size_toArray,List.length_cons,List.length_nil]at ht;rw[C.cell];have:i*2+t<R.size:=by have:=M.out;omega
    simp[this])
   (λt _=>C.frozen _)
 have HR:=zc B;have HM:=zc N;have O0:i<=c:=by have:=M.out;omega
 have q0:i<l.length:=by omega
 have c0:i<c:=by have:=M.out;omega
 have d0:¬c-i=0:=by omega
 have e0:¬i=c:=by omega
 have f0:¬c=i:=by omega
 have b0:c<=9223372036854775807:=U;have U0:=λvs:List Value=>zj.setCells (t:=94) vs (i*2) C;obtain⟨wz,Y⟩:∃wz,wz=wr.setCells b (i*2) (Builtin.zeroCells (Value.agg #[.int .i64 0,.int .i64 0]).cells (l.length-i)).toList:=⟨_,rfl⟩;have s:=zc Y;rw[<-Y]at N0;clear B N Y;go_wp2_with fail;go_ret;obtain⟨m0,k1,k2,k3⟩:=U0 (Builtin.zeroCells (Value.agg #[.int .i64 0,.int .i64 0]).cells (l.length-i)).toList
 rw[<-s.out]at k1;have I:=L.out.fin (Nat.le_refl _);have H:=L.out.count (Nat.le_refl _) P0;refine⟨_,rfl,?_,?_⟩
 ·have T:=Own.of_cells (enc:=xH) (m:=m.take i) rJ (by decide) k1 G (by rw[I,H];exact O0) U (by rw[k2];exact E0) (λq x K j hj=>by
   have hq:q<i:=by have:=zy K;rw[I,H]at this;exact this
   rw[k3 _ (by omega)];exact HR.out.take i q x K j hj)
  rw[I,H]at T;exact T
 rw[s.out];exact mJ G _ _ n
open Go Go.RowKit
section
variable {P:Program}{ops:Array Oper}{Q:Exit->Act->World->Prop}{md:Region.Mode}{S:World->Prop}
theorem zB{id:Nat}{a:Act}{w:World}(S:World->Prop)(hm:P.follows .mixedOrders=true)(h:wpAnyH P .any ops Q S ops.size (Array.replicate ops.size false) a w.drew):(Code.region id ops true).wp P Q a w:=wp_region_held (S:=S) hm h
theorem jB{i j:Nat}{H I:Oper}{f:Nat}{A:Array Bool}{a:Act}{w:World}(hi:ops[i]?=some H)(N:ops[j]?=some I)
  (C:(Region.ready md ops A== [i,j] && Region.wanted H (yielded ops a.tmps) && Region.wanted I (yielded ops a.tmps))=true)
  (h1:∀K:Act->World->Prop,Hid (∀D B,(S B/\wpAnyH P md ops Q S f (A.setIfInBounds i true) D B)->K D B)->Oper.wp P H a w K Q)
  (M:∀K:Act->World->Prop,Hid (∀D B,(S B/\wpAnyH P md ops Q S f (A.setIfInBounds j true) D B)->K D B)->Oper.wp P I a w K Q):wpAnyH P md ops Q S (f+1) A a w:=by
 simp only[Bool.and_eq_true,beq_iff_eq]at C;obtain⟨⟨C,F⟩,G⟩:=C;refine⟨λL=>(by rw[L]at C;cases C),λk J=>?_⟩;rw[C]at J;have E:k=i∨k=j:=by simpa using J
 rcases E with rfl|rfl
 ·unfold wpOp
  simp only[hi,F,if_true];exact .inl (h1 _ (zc λ_ _ h=>h))
 unfold wpOp;simp only[N,G,if_true];exact .inl (M _ (zc λ_ _ h=>h))
end
open Go.RowKit
def ea(x:zR):List Value:=[.int .i64 x.f,.int .i64 x.t,.int .i64 x.time,.int .i64 x.cost]
theorem TZ:(Tryz.prog.info? 100).map (λi=>(i.zero,i.size,i.bytes))=some (some (.agg #[.int .i64 0,.int .i64 0,.int .i64 0,.int .i64 0]),4,32):=by kernel_rfl
theorem aw:∃i,Tryz.prog.info? 100=some i/\i.zero=some (.agg #[.int .i64 0,.int .i64 0,.int .i64 0,.int .i64 0])/\i.size=4/\i.bytes=32:=by
 obtain⟨C,B,A⟩:=Option.map_eq_some_iff.1 TZ;simp only[Prod.mk.injEq]at A;exact⟨C,B,A.1,A.2.1,A.2.2⟩
theorem Qc{l:List zR}{k:Nat}{x:zR}(h:l[k]?=some x):(l.flatMap ea)[k*4]?=some (.int .i64 x.f)/\(l.flatMap ea)[k*4+1]?=some (.int .i64 x.t)/\(l.flatMap ea)[k*4+2]?=some (.int .i64 x.time)/\(l.flatMap ea)[k*4+3]?=some (.int .i64 x.cost):=by
 induction l generalizing k with
 |nil=>simp at h
 |cons y l A=>
  cases k with
  |zero=>
   obtain rfl:y=x:=by simpa using h
   simp[ea]
  |succ k=>
   have A:=A (k:=k) (by simpa using h);rw[List.flatMap_cons];have e:∀j,(k+1)*4+j=4+(k*4+j):=λj=>by omega
   have B:(ea y).length=4:=rfl;refine⟨?_,?_,?_,?_⟩
   ·rw[show(k+1)*4=4+k*4 by omega,List.getElem?_append_right (by omega),B,Nat.add_sub_cancel_left];exact A.1
   ·rw[e 1,List.getElem?_append_right (by omega),B,Nat.add_sub_cancel_left];exact A.2.1
   ·rw[e 2,List.getElem?_append_right (by omega),B,Nat.add_sub_cancel_left];exact A.2.2.1
   rw[e 3,List.getElem?_append_right (by omega),B,Nat.add_sub_cancel_left];exact A.2.2.2
theorem Own.lown{w:World}{base:Nat}{A:Option Addr}{n c:Nat}{l:List zR}(h:Own ea 4 w base 100 (.slice A n c) l):cY w A l:=λh0=>by
 rcases h.2 with⟨h1,h2⟩|⟨g,cap,cur,hv,hg,hh,hnc,hcm,hcs,htake⟩
 ·omega
 injection hv with h1 h2 h3;subst h1;refine⟨g,cur,rfl,hh,λk x hk=>?_⟩;have hl:=zy hk;obtain⟨q0,q1,q2,q3⟩:=Qc hk;rw[<-htake]at q0 q1 q2 q3;rw[List.getElem?_take_of_lt (by omega)]at q0 q1 q2 q3;exact⟨by simpa using q0,by simpa using q1,by simpa using q2,by simpa using q3⟩
def po(Z:Value->Prop)(w:World)(v:Value):Prop:=∀g,v.ownBlock=some g->∀cs t fr,w.heap[g]?=some (.cells cs t fr)->∀(i:Nat) u,cs[i]?=some u->Z u
theorem bM{Z:Value->Prop}{z:Array Value}(hz:∀(i:Nat) u,z[i]?=some u->Z u)(hs:0<z.size)(n:Nat):∀(i:Nat) u,(Builtin.zeroCells z n)[i]?=some u->Z u:=λi u h=>by
 unfold Builtin.zeroCells at h;rw[Array.getElem?_map]at h;obtain⟨k,hk,rfl⟩:=Option.map_eq_some_iff.1 h;have hlt:k % z.size<z.size:=Nat.mod_lt _ hs;refine hz (k % z.size) _ ?_;rw[Array.getElem?_eq_getElem hlt,getElem!_pos z (k % z.size) hlt]
theorem ZI{Z:Value->Prop}{a b:Array Value}(ha:∀(i:Nat) u,a[i]?=some u->Z u)(hb:∀(i:Nat) u,b[i]?=some u->Z u):∀(i:Nat) u,(a++b)[i]?=some u->Z u:=λi u h=>by
 rw[Array.getElem?_append]at h
 split at h
 ·exact ha _ _ h
 exact hb _ _ h
theorem cu{Z:Value->Prop}{P:Program}(w:World)(base:Nat)(t o e:TypeId)(i:TypeInfo)(z:Value)(size bytes:Nat)(x:P.underlying t=some (.slice e))(hi:P.info? e=some i)(hz:i.zero=some z)
  (H:i.size=size) (W:i.bytes=bytes) (l:z.cells.size=size) (h:0<size)
  (v:Value) (n:Nat) (O:List Value) (F:w.ownsRow base e size v n O)
  (a:Addr) (m c:Nat) (news:List Value) (f:news.length=m*size) (B:∀j u,news[j]?=some u->w.cell? (a.add j)=some u) (h1:∀u∈news,u.oneCell'=true)
  (R:n+m<=maxLen) (A:(n+m)*bytes<=140737488355328) (M:base<=w.heap.size)
  (hZ:po Z w v) (A0:∀(i:Nat) u,z.cells[i]?=some u->Z u) (U:∀u∈news,Z u) (y:∀u∈O,Z u) :
  ∃p Q,(Builtin.append_ #[t,t] o #[v,.slice (some a) m c]).run P w=.ok p Q/\Q.ownsRow base e size p (n+m) (O++news)/\w.grownBy Q v.ownBlock/\po Z Q p:=by
 obtain⟨p,Q,r,h2,h3,h4⟩:=run_append_own (P:=P) w base t o e i z size bytes x hi hz H W l h v n O F a m c news f B h1 R A M;refine⟨p,Q,r,h2,h3,?_⟩;subst H;subst W;have s:n+m<=9223372036854775807:=by simp only[maxLen]at R;omega
 have T:∀(i:Nat) u,news.toArray[i]?=some u->Z u:=λi u C=>U u (by simp at C;exact List.mem_of_getElem? C);have V:∀(i:Nat) u,O.toArray[i]?=some u->Z u:=λi u C=>y u (by simp at C;exact List.mem_of_getElem? C);have S:∀n,∀(i:Nat) u,(Builtin.zeroCells z.cells n)[i]?=some u->Z u:=bM A0 (by rw[l];exact h);have K:∀(cells:Array Value) (k c2:Nat) (b:Nat) (q:b=w.heap.size),(∀(i:Nat) u,cells[i]?=some u->Z u)->po Z (w.drew.alloc (.cells cells e)) (.slice (some ⟨b,0,none⟩) k c2):=λcells k c2 b q hc g J cs t2 fr d=>by
  simp only[Value.ownBlock,Option.some.injEq]at J;subst J q;rw[show(w.drew.alloc (.cells cells e)).heap[w.heap.size]?=some (.cells cells e (0,0)) from heap_alloc_new w.drew _]at d
  cases d
  exact hc
 rcases F.2 with⟨rfl,rfl⟩|⟨g,L,E,rfl,M0,J,R0,O0,B0,C0⟩
 ·by_cases hm:m=0
  ·have e0:=h4.2 ⟨rfl,hm⟩
   subst e0;intro g J;simp[Value.ownBlock]at J
  have D:=run_append_nil (P:=P) w t o e i z x hi hz a m c news f B (by omega) (by omega) (by have q:=A;simp only[Nat.zero_add]at q;omega);rw[r]at D
  cases D
  exact K _ _ _ _ rfl (ZI T (S _))
 by_cases G:n+m<=L
 ·have X:n*i.size+news.length<=E.size:=by rw[f,B0,<-Nat.add_mul];exact Nat.mul_le_mul_right _ G
  have D:=run_append_room (P:=P) w t o e i x hi g n L E J a m c news f B h1 G X;rw[r]at D
  cases D
  intro g2 Y cs t2 fr d;simp only[Value.ownBlock,Option.some.injEq]at Y;subst Y;rw[setRow_heap w g E _ e _ J]at d
  cases d
  have I:∀u,u∈E.toList->Z u:=λu C=>by
   obtain⟨k,hk⟩:=List.getElem?_of_mem C;exact hZ g rfl E e (0,0) J k u (by simpa using hk)
  intro k u C;have C:=List.mem_of_getElem? (show(E.toList.take (n*i.size)++news++E.toList.drop (n*i.size+news.length))[k]?=some u by simpa using C);rcases List.mem_append.1 C with C|C
  ·rcases List.mem_append.1 C with C|C
   ·exact I u (List.mem_of_mem_take C)
   exact U u C
  exact I u (List.mem_of_mem_drop C)
 have N:∀j u,O[j]?=some u->w.cell? ((⟨g,0,none⟩:Addr).add j)=some u:=F.cells (g:=g) rfl;have D:=run_append_grow (P:=P) w t o e i z x hi hz ⟨g,0,none⟩ n L O F.1 N a m c news f B (by omega) (by omega) (growslice_fits (by omega) A);rw[r]at D
 cases D
 exact K _ _ _ _ rfl (ZI (ZI V T) (S _))
theorem sU{Z:Value->Prop}{P:Program}{I:Array Oper}{rest:List Oper}{o:Oper}{a:Act}{Q:Exit->Act->World->Prop}{B:World}{α:Type}{enc:α->List Value}(X:o.guard=none)(s x:Operand)(t:TypeId)
  (ho:o.op=.call { callee:=.builtin .append,args:=#[s,x],argTypes:=#[t,t]})
  (base:Nat) (e:TypeId) (i:TypeInfo) (z:Value) (size bytes:Nat) (ht:P.underlying t=some (.slice e)) (hi:P.info? e=some i) (hz:i.zero=some z)
  (F:i.size=size) (U:i.bytes=bytes) (m:z.cells.size=size) (d:0<size)
  (v:Value) (l:List α) (y:α) (hs:a.eval s=v) (A:Own enc size B base e v l) (cs:Array Value) (W:cs.toList=enc y) (k:Nat) (Y:k=B.heap.size) (hx:a.eval x=.slice (some ⟨k,0,none⟩) 1 1) (V:cs.size=size)
  (h1:∀u∈cs.toList,u.oneCell'=true) (M:l.length+1<=1000000) (H:bytes<=1000) (E:base<=B.heap.size)
  (hZ:po Z B v) (S:∀(i:Nat) u,z.cells[i]?=some u->Z u) (O:∀u∈cs.toList,Z u) (R:∀u∈l.flatMap enc,Z u)
  (h:∀G C,Own enc size C base e G (l++[y])->Below base B C->(∀b J D,zj B b J D->J≠e->zj C b J D)->po Z C G->wpList P I Q rest (a.put o.dst G) C):wpList P I Q (o::rest) a (B.alloc (.cells cs e)):=by
 subst Y;have T:(l.length+1)*bytes<=140737488355328:=Nat.le_trans (Nat.mul_le_mul M H) (by decide);refine wpList_plain X λK hK=>?_;have N:po Z (B.alloc (.cells cs e)) v:=λg q L t2 w r=>by
  have c:=(World.ownsRow.lt A g q).2;rw[Below.heap_alloc B _ g c]at r;exact hZ g q L t2 w r
 obtain⟨G,C,hr,h2,n,h4⟩:=cu (Z:=Z) (P:=P) (B.alloc (.cells cs e)) base t o.type e i z size bytes ht hi hz F U m d v l.length (l.flatMap enc) (World.ownsRow.alloc A _) ⟨B.heap.size,0,none⟩ 1 1 cs.toList (by simp[V])
  (λj u hu=>by
   rw[Go.WideShapes.add_plain,cell_of_row _ _ _ cs e (0,0) (heap_alloc_new B _)];simpa using hu) h1 (by unfold maxLen;omega) T (by simp;omega) N S O R
 unfold Oper.wp execOp;simp only[ho,resolve,invoke,builtin,Sem.run_bind,Sem.run_pure,Result.andThen_ok,List.map_toArray,List.map_cons,List.map_nil,hs,hx,hr];refine hK _ _ (h G C ?_ ?_ (λb J D p f=>(p.alloc _).grown n (A.other p f)) h4)
 ·show C.ownsRow base e size G (l++[y]).length ((l++[y]).flatMap enc)
  rw[List.flatMap_append,List.length_append];simpa[W]using h2
 have hb:Below base B (B.alloc (.cells cs e)):=(Below.refl _ _).alloc E _;exact hb.grown n (by simp;omega) λk Y=>(World.ownsRow.lt A k Y).1
theorem uh{P:Program}{M:Array Oper}{rest:List Oper}{o:Oper}{a:Act}{Q:Exit->Act->World->Prop}{w:World}{α:Type}{enc:α->List Value}(K:o.guard=none)(s x:Operand)(t:TypeId)
  (f:o.op=.call { callee:=.builtin .append,args:=#[s,x],argTypes:=#[t,t]})
  (base:Nat) (e:TypeId) (i:TypeInfo) (z:Value) (size bytes:Nat) (n:P.underlying t=some (.slice e)) (hi:P.info? e=some i) (hz:i.zero=some z)
  (H:i.size=size) (V:i.bytes=bytes) (Z:z.cells.size=size) (W:0<size)
  (v:Value) (l:List α) (m:a.eval s=v) (B:Own enc size w base e v l) (q:Value) (D:List α) (E:Nat) (p:a.eval x=q) (G:Own enc size w E e q D)
  (h1:∀y,y∈D->∀u∈enc y,u.oneCell'=true) (T:l.length+D.length<=1000000) (J:bytes<=1000) (C:base<=w.heap.size)
  (h:∀N I,Own enc size I base e N (l++D)->Below base w I->(∀b R F,zj w b R F->R≠e->zj I b R F)->wpList P M Q rest (a.put o.dst N) I):wpList P M Q (o::rest) a w:=by
 have U:(l.length+D.length)*bytes<=140737488355328:=Nat.le_trans (Nat.mul_le_mul T J) (by decide);rcases G.2 with⟨rfl,h0⟩|⟨g,S,r,rfl,hg,hh,F0,C0,D0,Y⟩
 ·obtain rfl:D=[]:=List.eq_nil_of_length_eq_zero h0
  obtain⟨A,c,rfl⟩:=B.form;refine mA K s x t f e i n hi A l.length c 0 m p B.room.1 (h _ w ?_ (Below.refl _ _) λ_ _ _ O _=>O);simpa using B
 refine wpList_append_own _ K s x t f base e i z size bytes n hi hz H V Z W v l.length (l.flatMap enc) m B ⟨g,0,none⟩ D.length S (D.flatMap enc) p G.1
  (λj u L=>?_) (λu L=>?_) (by unfold maxLen;omega) U C λN I h2 d _=>h N I ?_ ?_ λb R F O X=>O.grown d (B.other O X)
 ·exact World.ownsRow.cells G (g:=g) rfl j u L
 ·obtain⟨y,hy,L⟩:=List.mem_flatMap.1 L
  exact h1 y hy u L
 ·show I.ownsRow base e size N (l++D).length ((l++D).flatMap enc)
  rw[List.flatMap_append,List.length_append];exact h2
 exact(Below.refl base w).grown d C λk hk=>(World.ownsRow.lt B k hk).1
def xA(w:World)(b:Nat)(l:List Int):Prop:=zj w b 3 (l.map iV).toArray
def kM(w:World)(b:Nat)(l:List Bool):Prop:=zj w b 4 (l.map Value.bool).toArray
theorem lR(z:Value)(n:Nat):madeCells #[z] n=(List.replicate n z).toArray:=by
 apply Array.toList_inj.1
 rw[toList_madeCells_one]
theorem xA.made{w:World}{b n:Nat}(A:b=w.heap.size):xA (w.alloc (.cells (madeCells #[.int .i64 0] n) 3)) b (List.replicate n 0):=by
 unfold xA;rw[lR];simpa using zj.new_ A
theorem kM.made{w:World}{b n:Nat}(A:b=w.heap.size):kM (w.alloc (.cells (madeCells #[.bool false] n) 4)) b (List.replicate n false):=by
 unfold kM;rw[lR];simpa using zj.new_ A
section
variable {w w':World}{b:Nat}{l:List Int}{r:List Bool}
theorem xA.cell(h:xA w b l){k:Nat}(A:k<l.length):w.cell? ⟨b,k,none⟩=some (.int .i64 (gi l k)):=by
 rw[zj.cell h];simp[ou A]
theorem kM.cell(h:kM w b r){k:Nat}{x:Bool}(A:r[k]?=some x):w.cell? ⟨b,k,none⟩=some (.bool x):=by
 rw[zj.cell h];simp[A]
theorem xA.set(h:xA w b l)(k:Nat)(x:Int):xA (w.setCell ⟨b,k,none⟩ (.int .i64 x)) b (l.set k x):=by
 have:=zj.set_ h k (.int .i64 x);unfold xA;simpa[List.map_set]using this
theorem kM.set(h:kM w b r)(k:Nat)(x:Bool):kM (w.setCell ⟨b,k,none⟩ (.bool x)) b (r.set k x):=by
 have:=zj.set_ h k (.bool x);unfold kM;simpa[List.map_set]using this
theorem xA.slAt(h:xA w b l)(hi:∀k,k<l.length->zM (gi l k)):zU ra 1 w (some ⟨b,0,none⟩) l:=by
 refine⟨b,0,λi x A=>⟨rfl,zj.lt h,?_,?_⟩⟩
 ·have B:=zy A
  have:=xA.cell h B;unfold zJ;rw[vE A]at this;simpa using this
 have B:=zy A;have:=hi i B
 rwa[vE A]at this
end
theorem qQ:(Tryz.prog.info? 3).map (λi=>(i.zero,i.size,i.bytes))=some (some (.int .i64 0),1,8):=by kernel_rfl
theorem TU:(Tryz.prog.info? 4).map (λi=>(i.zero,i.size,i.bytes))=some (some (.bool false),1,1):=by kernel_rfl
theorem lS(n:Nat)(h:n<=1000000)(w:World):(Instr.makeSlice 55 (.int .i64 (n:Int)) (.int .i64 (n:Int))).run Tryz.prog w=.ok (.slice (some ⟨w.heap.size,0,none⟩) n n) (w.alloc (.cells (madeCells #[.int .i64 0] n) 3)):=
 run_make_row' (P:=Tryz.prog) 55 3 (.int .i64 0) 8 Tryz.underlying55 qQ rfl .i64 .i64 n (by omega) (by omega) w
theorem dF(n:Nat)(h:n<=1000000)(w:World):(Instr.makeSlice 83 (.int .i64 (n:Int)) (.int .i64 (n:Int))).run Tryz.prog w=.ok (.slice (some ⟨w.heap.size,0,none⟩) n n) (w.alloc (.cells (madeCells #[.bool false] n) 4)):=
 run_make_row' (P:=Tryz.prog) 83 4 (.bool false) 1 Tryz.underlying83 TU rfl .i64 .i64 n (by omega) (by omega) w
end Go.Proofs.YtjcimdpldlamfaaGreatDoor
