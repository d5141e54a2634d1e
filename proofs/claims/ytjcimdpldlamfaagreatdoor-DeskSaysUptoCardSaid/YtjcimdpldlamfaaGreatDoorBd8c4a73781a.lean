import Derived.Test.YtjcimdpldlamfaaGreatDoorBdc6bb79322c
import Derived.Test.YtjcimdpldlamfaaGreatDoorBd777b3fb79d
import Derived.Test.YtjcimdpldlamfaaGreatDoorBdb8826aaf2e
namespace Go.Proofs.YtjcimdpldlamfaaGreatDoor
set_option maxRecDepth 100000
set_option maxHeartbeats 16000000
open Go.RowKit
theorem Tx{g:zf}{v e:Int}{k:Nat}{l:List Int}(h:oF g v e k l)(_he:e<=100):∀x,x∈l->zM x:=λx hx=>by
 obtain⟨i,hi⟩:=AM hx;have hl:=zy hi;have h2:=h.2 i (by rw[<-h.1];exact hl);rw[vE hi]at h2
 split at h2
 ·have h3:=h2.low
  rcases h2.1 with h4|⟨h4,h5⟩
  ·unfold zM;omega
  unfold zM;omega
 unfold zM;omega
theorem iB(A d:Option Addr)(c p:Nat)(g:zf)(v s:Int)(w:World)(hG:zv w A c d p g)(h0:zm g v s=0) :
  Calls Tryz.prog 92 #[gV A c d p g,.int .i64 v,.int .i64 s] w (Rt (λl=>∀r,vO g v s r->r=l) w):=by
 obtain⟨y,⟨E0,F0⟩,p0,q0⟩:=uR h0;have k0:=y.h1;have l0:=y.h0;have a0:=y.nl;have m1:g.lives.length<=9223372036854775807:=by omega
 have H0:=zc h0;clear h0;obtain⟨i0,hi,K0,L0,M0⟩:=info_parts qQ
 go_enter Tryz.func92,Tryz.ntmps92
 go_wp2_with fail;have q:zj (w.alloc (Obj.cells (gC A c d p g) 68)) w.heap.size 68 (gC A c d p g):=zj.new _ _ _;have X:Below w.heap.size w (w.alloc (Obj.cells (gC A c d p g) 68)):=by go_grown
 obtain⟨L,G0⟩:∃L:World,L=w.alloc (Obj.cells (gC A c d p g) 68):=⟨_,rfl⟩;rw[<-G0]at q X⊢;clear G0
 go_loopw [7,8] (λo x wr=>∃(k:Nat) (H:List Int),k<=g.lives.length/\x=.int .i64 k/\Hid (oF g v s k H)/\H.length=k/\Own vi 1 wr L.heap.size 3 o H/\Below L.heap.size L wr) (λ_ x _=>g.lives.length-(intOf x).toNat)
 case atStart=>exact⟨0,[],AA _,rfl,zc oF.nil,rfl,Own.nil,Ae _ _⟩
 obtain⟨k,H,hk,rfl,HD,D0,B,E⟩:=hrel;have M:=zc D0;clear D0;obtain⟨Q,R,S⟩:=(q.ext E).facts;have F:=E.size
 by_cases m0:k<g.lives.length
 case neg=>
  have f:Hid (oF g v s g.lives.length H):=zc (by rw[show g.lives.length=k by omega];exact HD.out);have Z0:H.length<=12:=by rw[M.out];omega
  have C:=za X E;obtain⟨Ar,cr,rfl,T0⟩:=lX B (Tx f.out (by omega));go_wp2_with fail;go_ret;exact⟨H,Ar,cr,zc λr hr=>f.out.late y hr ⟨E0,F0⟩ (by omega),rfl,T0,by unfold maxLen;omega,C⟩
 obtain⟨N0,R0,rfl⟩:=B.form;obtain⟨wo,I0⟩:∃wo:World,wo=wr:=⟨_,rfl⟩;rw[<-I0]at B E F Q R S⊢;clear I0;go_wp2_with fail;clear Q R S F
 go_loopw [9,10] (λnv x wr=>∃(j:Nat) (I:Int),(j:Int)<=s+1/\x=.int .i64 j/\nv=.int .i64 I/\Hid (zn g v s=true->ni g v s k j I)/\Hid (zn g v s=false->I=-1)/\Own vi 1 wr L.heap.size 3 (.slice N0 H.length R0) H/\Below L.heap.size L wr) (λ_ x _=>(s+1-intOf x).toNat)
 case atStart=>exact⟨0,-1,by omega,rfl,rfl,zc λ_=>ni.start,zc λ_=>rfl,B,E⟩
 clear B E;obtain⟨j,I,hj,rfl,rfl,n,i,B,E⟩:=hrel;have P:=q.ext E;obtain⟨Q,R,S⟩:=P.facts;have C:=za X E;have F:=E.size;have A0:H.length+1<=1000000:=by rw[M.out];omega
 by_cases Y:(j:Int)<=s
 case neg=>
  have hd:decide ((j:Int)<=s)=false:=by simpa using Y
  have f:Hid (oF g v s (k+1) (H++[I])):=zc (HD.out.snoc (by
   cases D:zn g v s
   ·rw[Au (by simp)];exact i.out D
   rw[Aq rfl];have:=n.out D
   rwa[show(j:Int)=s+1 by omega]at this))
  go_wp2_with (at_builtin;refine yf (enc:=vi) rfl (.tmp 45) (.tmp 47) 55 rfl L.heap.size 3 i0 _ 1 8 Tryz.underlying55 hi K0 L0 M0 rfl (by decide) _ H [I] 1 rfl rfl B _ rfl wr.heap.size (by simp) rfl rfl rl A0 (by decide) F ?_;intro v' w8 J W C0);go_roundw
  case rel=>exact⟨k+1,H++[I],by omega,by go_num,f,by simp[M.out],J,E.trans W⟩
  case measure=>simp[intOf];omega
 have hd:decide ((j:Int)<=s)=true:=by simpa using Y
 have U:=zc Y;go_wp2_with fail;refine(ye _ _ _ _ g v s _ (hG.ext C) E0 F0).mono ?_;rintro e w2 ⟨rfl,N⟩;have B:=B.keep (λb cs h=>(zj.go h N).1);have E:=za E N;have C:=za C N;clear N Q R S P F;have P:=q.ext E;obtain⟨Q,R,S⟩:=P.facts;have F:=E.size
 cases D:zn g v s
 case false=>
  have f:Hid (oF g v s (k+1) (H++[I])):=zc (HD.out.snoc (by rw[Au (by simp[D])];exact i.out D));go_wp2_with (at_builtin;refine yf (enc:=vi) rfl (.tmp 45) (.tmp 47) 55 rfl L.heap.size 3 i0 _ 1 8 Tryz.underlying55 hi K0 L0 M0 rfl (by decide) _ H [I] 1 rfl rfl B _ rfl w2.heap.size (by simp) rfl rfl rl A0 (by decide) F ?_;intro v' w8 J W C0)
  go_roundw
  case rel=>exact⟨k+1,H++[I],by omega,by go_num,f,by simp[M.out],J,E.trans W⟩
  case measure=>simp[intOf];omega
 case true=>
  have P0:=zc D;have n:=zc (n.out D);have i:Hid (∀m:Int,zn g v s=false->m=-1):=zc λm h=>by rw[P0.out]at h;simp at h
  clear D;go_wp2_with fail;refine(ye _ _ _ _ g (k:Int) (j:Int) _ (hG.ext C) (by omega) (by omega)).mono ?_;rintro e w3 ⟨rfl,O⟩;have B:=B.keep (λb cs h=>(zj.go h O).1);have E:=za E O;have C:=za C O;clear O Q R S P F;have P:=q.ext E;obtain⟨Q,R,S⟩:=P.facts;have F:=E.size
  cases D:zn g k j
  case false=>
   have K:Hid (ni g v s k ((j:Int)+1) I):=zc (n.out.skip λh=>by rw[h.2.2.1]at D;simp at D);go_wp2_with fail;go_roundw
   case rel=>exact⟨j+1,I,by omega,by go_num,rfl,zc λ_=>by have:=K.out;simpa using this,zc (i.out I),B,E⟩
   case measure=>have:=U.out;simp[intOf];omega
  case true=>
   have O0:=zc D;clear D;go_wp2_with fail;refine(qd _ _ _ _ g (k:Int) (j:Int) _ (hG.ext C) (cd y (by omega) (by omega) (by omega) (by omega))).mono ?_;rintro e w4 ⟨l1,A1,d1,T,rfl,u,n0,V⟩;have B:=B.keep (λb cs h=>(zj.go h V).1);have E:=za E V;have Z:=T.out.1;rw[Z];have t:=zc Z;clear V Q R S P F Z C;obtain⟨b1,o1,rfl,b0,J0⟩:=u.cells (by rw[t.out];omega)
   have y1:=J0 v.toNat (by rw[t.out];omega);clear J0 u;obtain⟨z,hz⟩:∃z,gi l1 v.toNat=z:=⟨_,rfl⟩;have HZ:=zc hz;rw[hz]at y1;clear hz
   by_cases G:z<=s
   case pos=>
    have U0:decide (z<=s)=true:=by simpa using G
    have K:Hid (ni g v s k ((j:Int)+1) j):=zc (n.out.take ⟨by omega,by omega,O0.out,l1,T.out,by rw[HZ.out];exact G⟩);clear G;go_wp2_with fail;go_roundw
    case rel=>exact⟨j+1,j,by omega,by go_num,rfl,zc λ_=>by have:=K.out;simpa using this,zc (i.out j),B,E⟩
    case measure=>have:=U.out;simp[intOf];omega
   have U0:decide (z<=s)=false:=by simpa using G
   have K:Hid (ni g v s k ((j:Int)+1) I):=zc (n.out.skip λ⟨_,_,_,a,ha,hle⟩=>by
    rw[ha.eq T.out,HZ.out]at hle;exact G hle)
   clear G;go_wp2_with fail;go_roundw
   case rel=>exact⟨j+1,I,by omega,by go_num,rfl,zc λ_=>by have:=K.out;simpa using this,zc (i.out I),B,E⟩
   case measure=>have:=U.out;simp[intOf];omega
set_option maxHeartbeats 8000000
def rA(n m:Nat)(d:Nat×Nat->Int):List Int:=(List.range n).map λu=>(yG d u m).1
theorem dy(g:zf)(d:Nat×Nat->Int):rA g.lives.length g.h.toNat d=ox g d:=rfl
theorem XD{n m:Nat}{d:Nat×Nat->Int}{k:Nat}(h:k<n):(rA n m d)[k]?=some (yG d k m).1:=by simp[rA,h]
theorem mY(n m:Nat)(d:Nat×Nat->Int):(rA n m d).length=n:=by simp[rA]
theorem VI{d:Nat×Nat->Int}{u:Nat}(h:∀p,0<=d p)(m:Nat):0<=(yG d u m).1:=by
 rcases Int.lt_or_le (yG d u m).1 zq with A|A
 ·obtain⟨r,_,_,B⟩:=gz A
  rw[<-B];exact h _
 simp only[zq]at A;omega
theorem VJ(d:Nat×Nat->Int)(u k:Nat):(yG d u (k+1)).1=min (yG d u k).1 (d (u,k)):=by
 rw[yG]
 split <;> first|omega|(simp only;omega)
theorem iC(b n c m:Nat)(D:List pp)(d:Nat×Nat->Int)(w:World)(y:qh w b m D)(a:D.length=n)(hT:uI w m D d)(e:n<=12)(hm:m<=100)(hd:Hid (∀p,0<=d p)) :
  Calls Tryz.prog 91 #[.slice (some ⟨b,0,none⟩) n c] w (Rt (λl=>l=rA n m d) w):=by
 have i:=zc a;clear a;obtain⟨i0,hi,T,U,V⟩:=info_parts qQ
 go_enter Tryz.func91,Tryz.ntmps91
 go_wp2_with fail
 go_loopw [3,4] (λo x wr=>∃(k:Nat) (B:List Int),k<=n/\x=.int .i64 k/\Hid (B=(rA n m d).take k)/\B.length<=12/\Own vi 1 wr w.heap.size 3 o B/\Below w.heap.size w wr) (λ_ x _=>n-(intOf x).toNat)
 case atStart=>exact⟨0,[],AA _,rfl,zc (by simp),by simp,Own.nil,Ae _ _⟩
 obtain⟨k,B,hk,rfl,C,E0,A,H⟩:=hrel;have J:=H.size
 by_cases P:k<n
 case neg=>
  have X:Hid (B=rA n m d):=zc (by rw[C.out,AJ];rw[mY];omega);obtain⟨g,s,rfl,M⟩:=lX A (λx R=>by
   rw[X.out]at R;simp only[rA,AD,List.mem_range]at R;obtain⟨u,_,rfl⟩:=R;have v:=lP d u m;have h2:=VI (u:=u) hd.out m;unfold zM;simp only[zq]at v;omega)
  go_wp2_with fail;go_ret;exact⟨B,g,s,X,rfl,M,by unfold maxLen;omega,H⟩
 obtain⟨p,Q⟩:=zl (l:=D) (k:=k) (by have:=i.out;omega);have k1:=(y.keep λ_ h=>h.ext H).cell Q;have L:=zc (hT.keep λ_ _ h=>h.ext H);have Y:=zc Q;have q:Hid (B++[(yG d k m).1]=(rA n m d).take (k+1)):=zc (by rw[C.out,AO,XD P];rfl);have D0:B.length<=k:=by rw[C.out,AE];omega
 obtain⟨f,r,rfl⟩:=A.form;clear Q C;obtain⟨W,I⟩:∃W:World,W=wr:=⟨_,rfl⟩;rw[<-I]at A H J k1 L⊢;clear I;go_wp2_with fail
 go_loopw [5,6] (λnv x wr=>∃(j:Nat) (E:Int),j<=m/\x=.int .i64 j/\nv=.int .i64 E/\Hid (E=(yG d k j).1)/\wr=W) (λ_ x _=>m-(intOf x).toNat)
 case atStart=>exact⟨0,zq,AA _,rfl,rfl,zc rfl,rfl⟩
 obtain⟨j,E,hj,rfl,rfl,K,rfl⟩:=hrel
 by_cases O:j<m
 case neg=>
  have F:Hid (E=(yG d k m).1):=zc (by rw[K.out,show j=m by omega]);clear L Y K;go_wp2_with (at_builtin;refine yf (enc:=vi) rfl (.tmp 31) (.tmp 33) 55 rfl w.heap.size 3 i0 _ 1 8 Tryz.underlying55 hi T U V rfl (by decide) _ B [E] 1 rfl rfl A _ rfl wr.heap.size (by simp) rfl rfl rl (by omega) (by decide) J ?_;intro v' w8 G N Z);go_roundw
  case rel=>exact⟨k+1,B++[E],by omega,by go_num,zc (by rw[F.out];exact q.out),by simp;omega,G,H.trans N⟩
  case measure=>simp[intOf];omega
 have k2:=L.out.cell Y.out (t:=j) O;obtain⟨z,S⟩:∃z,d (k,j)=z:=⟨_,rfl⟩;have F:Hid (min E z=(yG d k (j+1)).1):=zc (by rw[VJ,<-K.out,S]);rw[S]at k2;clear S;go_wp2_with fail;go_roundw
 case rel=>exact⟨j+1,min E z,by omega,by go_num,by first|rfl|go_num,F,by trivial⟩
 case measure=>simp[intOf];omega
def kO(hs cur:List yy)(k:Nat):Prop:=cur.length=hs.length/\∀i,i<hs.length->cur[i]?=if i<k∨hs.length-k<=i then hs[hs.length-1-i]? else hs[i]?
theorem kO.start(hs:List yy):kO hs hs 0:=⟨rfl,λi hi=>by rw[Au (by omega)]⟩
theorem kO.step{B A:List yy}{k:Nat}(h:kO B A k)(J:2*k+1<B.length){x y:yy}(H:A[k]?=some x)(I:A[B.length-1-k]?=some y):kO B ((A.set k y).set (B.length-1-k) x) (k+1):=by
 obtain⟨F,C⟩:=h;refine⟨by simp[F],λi G=>?_⟩
 by_cases D:i=B.length-1-k
 ·rw[D,AY (by simp;omega),Aq (by omega)]
  have:=C k (by omega);rw[Au (by omega),H]at this;rw[this]
  congr 1
  omega
 rw[AX (by omega)]
 by_cases E:i=k
 ·rw[E,AY (by omega),Aq (by omega)]
  have:=C (B.length-1-k) (by omega);rw[Au (by omega),I]at this;exact this
 rw[AX (by omega),C i G]
 by_cases c:i<k∨B.length-k<=i
 ·rw[Aq c,Aq (by omega)]
 rw[Au c,Au (by omega)]
theorem kO.fin{B A:List yy}{k:Nat}(h:kO B A k)(F:B.length<=2*k+1):A=B.reverse:=by
 obtain⟨E,D⟩:=h
 apply List.ext_getElem?
 intro i
 by_cases C:i<B.length
 ·rw[D i C,List.getElem?_reverse C]
  split
  ·rfl
  rw[show B.length-1-i=i by omega]
 rw[List.getElem?_eq_none (by omega),List.getElem?_eq_none (by simp;omega)]
theorem Qd{l:List yy}{k:Nat}{x:yy}(h:l[k]?=some x):(l.flatMap sc)[k*2]?=some (.int .i64 x.edge)/\(l.flatMap sc)[k*2+1]?=some (.int .i64 x.depart):=by
 induction l generalizing k with
 |nil=>simp at h
 |cons y l A=>
  cases k with
  |zero=>
   obtain rfl:y=x:=by simpa using h
   simp[sc]
  |succ k=>
   have A:=A (k:=k) (by simpa using h);rw[List.flatMap_cons];have B:(sc y).length=2:=rfl
   constructor
   ·rw[show(k+1)*2=2+k*2 by omega,List.getElem?_append_right (by omega),B,Nat.add_sub_cancel_left];exact A.1
   rw[show(k+1)*2+1=2+(k*2+1) by omega,List.getElem?_append_right (by omega),B,Nat.add_sub_cancel_left];exact A.2
theorem Own.hrow{w:World}{base:Nat}{A:Option Addr}{n c:Nat}{l:List yy}(h:Own sc 2 w base 64 (.slice A n c) l)(N:l≠[]):∃b,A=some ⟨b,0,none⟩/\base<=b/\xE w b l:=by
 rcases h.2 with⟨_,F⟩|⟨g,H,C,Q,L,M,P,J,K,B⟩
 ·exact absurd (List.length_eq_zero_iff.1 F) N
 injection Q with I F h3;refine⟨g,I,L,C,M,λk x G=>?_⟩;have O:=zy G;obtain⟨D,E⟩:=Qd G;rw[<-B]at D E;rw[List.getElem?_take_of_lt (by omega)]at D E;exact⟨by simpa using D,by simpa using E⟩
theorem XC{g:zf}{v t:Int}(h:∃l,vn g v t l):vn g v t (the (vn g v t)):=by obtain⟨l,A⟩:=h;rw[ZB A];exact A
theorem Qy{g:zf}{v t:Int}{l:List Int}(h0:zm g v t=0)(h:∃l,vn g v t l)(B:∀r,vO g v t r->r=l):vn g v t l:=by
 obtain⟨r,A⟩:=h;rw[<-B r (YQ h0 A)];exact A
theorem dP{P:Program}{f:FuncId}{args:Array Value}{w:World}{R:Ending->World->Prop}(h:Calls P f args w R):∃e w',R e w':=let ⟨e,w',_,hr,_⟩:=h [];⟨e,w',hr⟩
theorem ZX(A S An:Option Addr)(c T cn:Nat)(g:zf)(n:List Int)(V4:Value)(w:World)(z:zv w A c S T g)(hV:zx g)(hN:zI w An cn n)(hn:n.length=2)(q:∀x,x∈n->0<=x)(ht:ITab w) :
  Calls Tryz.prog 40 #[gV A c S T g,.string ⟨#[101,97,114,108,121]⟩,.slice An n.length cn,V4] w λe R=>e=.returned (.string (bs (tG g n)))/\Below w.heap.size w R:=by
 obtain⟨x,y,rfl⟩:=vI hn;obtain⟨b,o,rfl,t,x0,x1⟩:=hN.two;have HG:=zc z;have HT:=zc ht;have HV:=zc hV;have r0:Hid (0<=x/\0<=y):=zc ⟨q x (by simp),q y (by simp)⟩;have HI:Hid (∀k,k∈[x,y]->zM k):=zc hN.i64;have m1:g.lives.length<=9223372036854775807:=Ai z.lc z.cm;clear z ht hV hN hn q
 go_enter Tryz.func40,Tryz.ntmps40
 go_wp2_with fail;have u:=zj.new w 68 (gC A c S T g);have V:=ze (Ae w.heap.size w) (Obj.cells (gC A c S T g) 68);change Code.wp _ _ _ _ (w.alloc (Obj.cells (gC A c S T g) 68));obtain⟨D,hq⟩:∃D,w.alloc (Obj.cells (gC A c S T g) 68)=D:=⟨_,rfl⟩;rw[hq]at u V⊢;obtain⟨U,G⟩:∃U:World->Prop,Hid (U=λR=>R.cell? ⟨w.heap.size,0,none⟩=some (.int .i64 g.h)/\R.cell? ⟨w.heap.size,1,none⟩=some (.slice A g.lives.length c)/\R.cell? ⟨w.heap.size,2,none⟩=some (.slice S g.edges.length T)/\R.cell? ⟨b,o,none⟩=some (.int .i64 x)/\R.cell? ⟨b,o+1,none⟩=some (.int .i64 y)):=⟨_,zc rfl⟩
 have HX:Hid (w.cell? ⟨b,o,none⟩=some (.int .i64 x)/\w.cell? ⟨b,o+1,none⟩=some (.int .i64 y)):=zc ⟨x0,x1⟩;have E:Hid (∀R,Below D.heap.size D R->U R):=zc λR h=>by
  have hB:=u.ext h;have hw:=za V h;rw[G.out];exact⟨hB.cell 0,hB.cell 1,hB.cell 2,(hw.cell (p:=⟨b,o,none⟩) t).trans HX.out.1,(hw.cell (p:=⟨b,o+1,none⟩) t).trans HX.out.2⟩
 have F:=zc V;have o0:=zc u;have S0:Below D.heap.size D D:=Ae _ _;clear x0 x1 u V hq;have f:=zi S0;have G0:U D.drew:=E.out _ f;refine zB U (by kernel_rfl) ?_;refine tH 0 ?_ ?_<|tH 1 ?_ ?_<|tH 2 ?_ ?_<|tH 3 ?_ ?_<|tH 4 ?_ ?_<|tH 5 ?_ ?_<|tH 6 ?_ ?_ ?_
 iterate 7
  rotate_left;intro w B;rw[G.out]at B;obtain⟨M,N,O,P,Q⟩:=B;(try simp only[pS]);go_simp;try with_reducible rfl
 try simp only[pS]
 refine zu (i:=7) rfl (by kernel_rfl) λK J=>?_;go_wp2_with fail;refine(rq A S c T g x y _ (HG.out.ext (za F.out f))).mono ?_;rintro e w3 ⟨rfl,N0⟩;have I:Below D.heap.size D w3:=za f N0;have W:=E.out _ I;refine J.out _ _ ⟨W,?_⟩;clear J K G0
 try simp only[pS]
 refine tH 8 ?_ ?_ ?_;rotate_left
 ·intro w B;rw[G.out]at B;obtain⟨M,N,O,P,Q⟩:=B;(try simp only[pS]);go_simp;try with_reducible rfl
 try simp only[pS]
 refine wpAnyH_done (by kernel_rfl) ?_ _
 try simp only[pS]
 clear W
 by_cases r:zm g x y=0
 case neg=>
  have v0:(zm g x y != 0)=true:=by simp[r]
  have HR:Hid (tG g [x,y]=yO (zm g x y)):=zc (by
   show yb (the (tq g x y)) (zm g x y)=_;unfold yb;rw[Au r])
  have HW:=zc (zP (zm g x y) (by have:=yo g x y;exact zt (by omega) (by omega)) w3 (HT.out.ext (za F.out I)));clear r;go_wp2_with fail;refine HW.out.mono ?_;rintro e w4 ⟨rfl,O0⟩;go_wp2_with fail;go_ret;exact⟨by rw[HR.out];rfl,za F.out (za I O0)⟩
 have v:=zc r;rw[r];clear r;go_wp2_with fail;have j:=zi I;have I0:U w3.drew:=E.out _ j;refine zB U (by kernel_rfl) ?_;refine tH 0 ?_ ?_<|tH 1 ?_ ?_<|tH 2 ?_ ?_<|tH 3 ?_ ?_<|tH 4 ?_ ?_<|tH 5 ?_ ?_<|tH 6 ?_ ?_ ?_
 iterate 7
  rotate_left;intro w B;rw[G.out]at B;obtain⟨M,N,O,P,Q⟩:=B;(try simp only[pS]);go_simp;try with_reducible rfl
 try simp only[pS]
 refine zu (i:=7) rfl (by kernel_rfl) λK J=>?_;go_wp2_with fail;refine(rN A S c T g x y _ (HG.out.ext (za F.out j)) v.out).mono ?_;rintro e w5 ⟨C,H,ic,ih,bc,bh,cc,ch,HC,rfl,E0,F0,HL,L0,M0,T0,U0,V0,W0,P0⟩;have a:Below D.heap.size D w5:=za j P0;have X:=E.out _ a;refine J.out _ _ ⟨X,?_⟩;clear J K I0
 try simp only[pS]
 refine tH 8 ?_ ?_<|tH 9 ?_ ?_<|tH 10 ?_ ?_<|tH 11 ?_ ?_<|tH 12 ?_ ?_ ?_
 iterate 5
  rotate_left;intro w B;rw[G.out]at B;obtain⟨M,N,O,P,Q⟩:=B;(try simp only[pS]);go_simp;try with_reducible rfl
 try simp only[pS]
 refine wpAnyH_done (by kernel_rfl) ?_ _
 try simp only[pS]
 clear X;clear E0 F0 L0 M0 T0 U0 V0 W0;go_wp2_with fail;have m:=zi a;have J0:U w5.drew:=E.out _ m;refine zB U (by kernel_rfl) ?_;refine tH 0 ?_ ?_<|tH 1 ?_ ?_<|tH 2 ?_ ?_<|tH 3 ?_ ?_<|tH 4 ?_ ?_<|tH 5 ?_ ?_<|tH 6 ?_ ?_ ?_
 iterate 7
  rotate_left;intro w B;rw[G.out]at B;obtain⟨M,N,O,P,Q⟩:=B;(try simp only[pS]);go_simp;try with_reducible rfl
 try simp only[pS]
 refine zu (i:=7) rfl (by kernel_rfl) λK J=>?_;go_wp2_with fail;refine(qd A S c T g x y _ (HG.out.ext (za F.out m)) v.out).mono ?_;rintro e w6 ⟨l,Al,cl,s,rfl,K0,X0,Q0⟩;have L:Below D.heap.size D w6:=za m Q0;have Y:=E.out _ L;have HR:Hid (tG g [x,y]=yb l 0):=zc (by
  show yb (the (tq g x y)) (zm g x y)=_;rw[v.out,UI (show tq g x y l by unfold tq;rw[Aq v.out];exact s.out)])
 have u0:l.length<=12:=by have:=HV.out.nl;rw[s.out.1];exact this
 refine J.out _ _ ⟨Y,?_⟩;clear J K J0
 try simp only[pS]
 refine zu (i:=8) rfl (by kernel_rfl) λK J=>?_;go_wp2_with fail;refine(vm Al l.length cl l 0 w6 (xZ K0 X0) (by omega) (zt (by decide) (by decide)) (HT.out.ext (za F.out L))).mono ?_;rintro e w7 ⟨rfl,R0⟩;have d:Below D.heap.size D w7:=za L R0;have Z:=E.out _ d;refine J.out _ _ ⟨Z,?_⟩;clear J K Y
 try simp only[pS]
 refine tH 9 ?_ ?_ ?_;rotate_left
 ·intro w B;rw[G.out]at B;obtain⟨M,N,O,P,Q⟩:=B;(try simp only[pS]);go_simp;try with_reducible rfl
 try simp only[pS]
 refine wpAnyH_done (by kernel_rfl) ?_ _
 try simp only[pS]
 clear Z;go_wp2_with fail;go_ret;rw[HR.out];exact⟨rfl,za F.out d⟩
theorem Wf(A J An:Option Addr)(c L cn:Nat)(g:zf)(n:List Int)(V4:Value)(w:World)(hG:zv w A c J L g)(hV:zx g)(hN:zI w An cn n)(hn:n.length=2)(q:∀x,x∈n->0<=x)(ht:ITab w) :
  Calls Tryz.prog 40 #[gV A c J L g,.string ⟨#[108,97,116,101]⟩,.slice An n.length cn,V4] w λe T=>e=.returned (.string (bs (ry g n)))/\Below w.heap.size w T:=by
 obtain⟨x,y,rfl⟩:=vI hn;obtain⟨b,o,rfl,u,x0,x1⟩:=hN.two;have z:=zc hG;have HT:=zc ht;have HV:=zc hV;have s0:Hid (0<=x/\0<=y):=zc ⟨q x (by simp),q y (by simp)⟩;have HI:Hid (∀k,k∈[x,y]->zM k):=zc hN.i64;have m1:g.lives.length<=9223372036854775807:=Ai hG.lc hG.cm;clear hG ht hV hN hn q
 go_enter Tryz.func40,Tryz.ntmps40
 go_wp2_with fail;have v:=zj.new w 68 (gC A c J L g);have V:=ze (Ae w.heap.size w) (Obj.cells (gC A c J L g) 68);change Code.wp _ _ _ _ (w.alloc (Obj.cells (gC A c J L g) 68));obtain⟨E,hq⟩:∃E,w.alloc (Obj.cells (gC A c J L g) 68)=E:=⟨_,rfl⟩;rw[hq]at v V⊢;obtain⟨U,G⟩:∃U:World->Prop,Hid (U=λT=>T.cell? ⟨w.heap.size,0,none⟩=some (.int .i64 g.h)/\T.cell? ⟨w.heap.size,1,none⟩=some (.slice A g.lives.length c)/\T.cell? ⟨w.heap.size,2,none⟩=some (.slice J g.edges.length L)/\T.cell? ⟨b,o,none⟩=some (.int .i64 x)/\T.cell? ⟨b,o+1,none⟩=some (.int .i64 y)):=⟨_,zc rfl⟩
 have HX:Hid (w.cell? ⟨b,o,none⟩=some (.int .i64 x)/\w.cell? ⟨b,o+1,none⟩=some (.int .i64 y)):=zc ⟨x0,x1⟩;have F:Hid (∀T,Below E.heap.size E T->U T):=zc λT h=>by
  have hB:=v.ext h;have hw:=za V h;rw[G.out];exact⟨hB.cell 0,hB.cell 1,hB.cell 2,(hw.cell (p:=⟨b,o,none⟩) u).trans HX.out.1,(hw.cell (p:=⟨b,o+1,none⟩) u).trans HX.out.2⟩
 have D:=zc V;have p0:=zc v;have T0:Below E.heap.size E E:=Ae _ _;clear x0 x1 v V hq;have f:=zi T0;have I0:U E.drew:=F.out _ f;refine zB U (by kernel_rfl) ?_;refine tH 0 ?_ ?_<|tH 1 ?_ ?_<|tH 2 ?_ ?_<|tH 3 ?_ ?_<|tH 4 ?_ ?_<|tH 5 ?_ ?_<|tH 6 ?_ ?_ ?_
 iterate 7
  rotate_left;intro w B;rw[G.out]at B;obtain⟨O,P,Q,R,S⟩:=B;(try simp only[pS]);go_simp;try with_reducible rfl
 try simp only[pS]
 refine zu (i:=7) rfl (by kernel_rfl) λK M=>?_;go_wp2_with fail;refine(rq A J c L g x y _ (z.out.ext (za D.out f))).mono ?_;rintro e w3 ⟨rfl,O0⟩;have I:Below E.heap.size E w3:=za f O0;have W:=F.out _ I;refine M.out _ _ ⟨W,?_⟩;clear M K I0
 try simp only[pS]
 refine tH 8 ?_ ?_ ?_;rotate_left
 ·intro w B;rw[G.out]at B;obtain⟨O,P,Q,R,S⟩:=B;(try simp only[pS]);go_simp;try with_reducible rfl
 try simp only[pS]
 refine wpAnyH_done (by kernel_rfl) ?_ _
 try simp only[pS]
 clear W
 by_cases r:zm g x y=0
 case neg=>
  have y0:(zm g x y != 0)=true:=by simp[r]
  have HR:Hid (ry g [x,y]=yO (zm g x y)):=zc (by
   show yb (the (vn g x y)) (zm g x y)=_;unfold yb;rw[Au r])
  have HW:=zc (zP (zm g x y) (by have:=yo g x y;exact zt (by omega) (by omega)) w3 (HT.out.ext (za D.out I)));clear r;go_wp2_with fail;refine HW.out.mono ?_;rintro e w4 ⟨rfl,P0⟩;go_wp2_with fail;go_ret;exact⟨by rw[HR.out];rfl,za D.out (za I P0)⟩
 have s:=zc r;rw[r];clear r;go_wp2_with fail;have j:=zi I;have J0:U w3.drew:=F.out _ j;refine zB U (by kernel_rfl) ?_;refine tH 0 ?_ ?_<|tH 1 ?_ ?_<|tH 2 ?_ ?_<|tH 3 ?_ ?_<|tH 4 ?_ ?_<|tH 5 ?_ ?_<|tH 6 ?_ ?_ ?_
 iterate 7
  rotate_left;intro w B;rw[G.out]at B;obtain⟨O,P,Q,R,S⟩:=B;(try simp only[pS]);go_simp;try with_reducible rfl
 try simp only[pS]
 refine zu (i:=7) rfl (by kernel_rfl) λK M=>?_;go_wp2_with fail;refine(rN A J c L g x y _ (z.out.ext (za D.out j)) s.out).mono ?_;rintro e w5 ⟨C,H,ic,ih,bc,bh,cc,ch,HC,rfl,F0,G0,HL,M0,N0,U0,V0,W0,X0,Q0⟩;have a:Below E.heap.size E w5:=za j Q0;have X:=F.out _ a;refine M.out _ _ ⟨X,?_⟩;clear M K J0
 try simp only[pS]
 refine tH 8 ?_ ?_<|tH 9 ?_ ?_<|tH 10 ?_ ?_<|tH 11 ?_ ?_<|tH 12 ?_ ?_ ?_
 iterate 5
  rotate_left;intro w B;rw[G.out]at B;obtain⟨O,P,Q,R,S⟩:=B;(try simp only[pS]);go_simp;try with_reducible rfl
 try simp only[pS]
 refine wpAnyH_done (by kernel_rfl) ?_ _
 try simp only[pS]
 clear X;clear F0 G0 M0 N0 U0 V0 W0 X0;have HD:Hid (∃l,vn g x y l):=zc (by obtain⟨e,w9,l,_,_,h9,_⟩:=dP (mM A J c L g x y _ (z.out.ext D.out));exact⟨l,h9⟩);go_wp2_with fail;have m:=zi a;have K0:U w5.drew:=F.out _ m;refine zB U (by kernel_rfl) ?_;refine tH 0 ?_ ?_<|tH 1 ?_ ?_<|tH 2 ?_ ?_<|tH 3 ?_ ?_<|tH 4 ?_ ?_<|tH 5 ?_ ?_<|tH 6 ?_ ?_ ?_
 iterate 7
  rotate_left;intro w B;rw[G.out]at B;obtain⟨O,P,Q,R,S⟩:=B;(try simp only[pS]);go_simp;try with_reducible rfl
 try simp only[pS]
 refine zu (i:=7) rfl (by kernel_rfl) λK M=>?_;go_wp2_with fail;refine(iB A J c L g x y _ (z.out.ext (za D.out m)) s.out).mono ?_;rintro e w6 ⟨l,Al,cl,t,rfl,L0,Y0,R0⟩;have N:Below E.heap.size E w6:=za m R0;have Y:=F.out _ N;have HR:Hid (ry g [x,y]=yb l 0):=zc (by
  show yb (the (vn g x y)) (zm g x y)=_;rw[s.out,ZB (Qy s.out (HD.out) t.out)])
 have w0:l.length<=12:=by have:=HV.out.nl;rw[<-t.out _ (YQ s.out (XC HD.out))];exact Ai (ZA (XC HD.out)) this
 refine M.out _ _ ⟨Y,?_⟩;clear M K K0
 try simp only[pS]
 refine zu (i:=8) rfl (by kernel_rfl) λK M=>?_;go_wp2_with fail;refine(vm Al l.length cl l 0 w6 (xZ L0 Y0) (by omega) (zt (by decide) (by decide)) (HT.out.ext (za D.out N))).mono ?_;rintro e w7 ⟨rfl,S0⟩;have d:Below E.heap.size E w7:=za N S0;have Z:=F.out _ d;refine M.out _ _ ⟨Z,?_⟩;clear M K Y
 try simp only[pS]
 refine tH 9 ?_ ?_ ?_;rotate_left
 ·intro w B;rw[G.out]at B;obtain⟨O,P,Q,R,S⟩:=B;(try simp only[pS]);go_simp;try with_reducible rfl
 try simp only[pS]
 refine wpAnyH_done (by kernel_rfl) ?_ _
 try simp only[pS]
 clear Z;go_wp2_with fail;go_ret;rw[HR.out];exact⟨rfl,za D.out d⟩
theorem ZV(A J An:Option Addr)(c M cn:Nat)(g:zf)(n:List Int)(V4:Value)(w:World)(v:zv w A c J M g)(hV:zx g)(hN:zI w An cn n)(hn:n.length=2)(V:∀x,x∈n->0<=x)(ht:ITab w) :
  Calls Tryz.prog 40 #[gV A c J M g,.string ⟨#[99,104,101,97,112]⟩,.slice An n.length cn,V4] w λe I=>e=.returned (.string (bs (tF g n)))/\Below w.heap.size w I:=by
 obtain⟨x,y,rfl⟩:=vI hn;obtain⟨b,o,rfl,r,x0,x1⟩:=hN.two;have HG:=zc v;have HT:=zc ht;have u:=zc hV;have q0:Hid (0<=x/\0<=y):=zc ⟨V x (by simp),V y (by simp)⟩;have HI:Hid (∀k,k∈[x,y]->zM k):=zc hN.i64;have m1:g.lives.length<=9223372036854775807:=Ai v.lc v.cm;clear v ht hV hN hn V
 go_enter Tryz.func40,Tryz.ntmps40
 go_wp2_with fail;have t:=zj.new w 68 (gC A c J M g);have N:=ze (Ae w.heap.size w) (Obj.cells (gC A c J M g) 68);change Code.wp _ _ _ _ (w.alloc (Obj.cells (gC A c J M g) 68));obtain⟨F,hq⟩:∃F,w.alloc (Obj.cells (gC A c J M g) 68)=F:=⟨_,rfl⟩;rw[hq]at t N⊢;obtain⟨S,G⟩:∃S:World->Prop,Hid (S=λI=>I.cell? ⟨w.heap.size,0,none⟩=some (.int .i64 g.h)/\I.cell? ⟨w.heap.size,1,none⟩=some (.slice A g.lives.length c)/\I.cell? ⟨w.heap.size,2,none⟩=some (.slice J g.edges.length M)/\I.cell? ⟨b,o,none⟩=some (.int .i64 x)/\I.cell? ⟨b,o+1,none⟩=some (.int .i64 y)):=⟨_,zc rfl⟩
 have HX:Hid (w.cell? ⟨b,o,none⟩=some (.int .i64 x)/\w.cell? ⟨b,o+1,none⟩=some (.int .i64 y)):=zc ⟨x0,x1⟩;have L:Hid (∀I,Below F.heap.size F I->S I):=zc λI h=>by
  have hB:=t.ext h;have hw:=za N h;rw[G.out];exact⟨hB.cell 0,hB.cell 1,hB.cell 2,(hw.cell (p:=⟨b,o,none⟩) r).trans HX.out.1,(hw.cell (p:=⟨b,o+1,none⟩) r).trans HX.out.2⟩
 have E:=zc N;have n0:=zc t;have Q0:Below F.heap.size F F:=Ae _ _;clear x0 x1 t N hq;have T:=zi Q0;have G0:S F.drew:=L.out _ T;refine zB S (by kernel_rfl) ?_;refine tH 0 ?_ ?_<|tH 1 ?_ ?_<|tH 2 ?_ ?_<|tH 3 ?_ ?_<|tH 4 ?_ ?_<|tH 5 ?_ ?_<|tH 6 ?_ ?_ ?_
 iterate 7
  rotate_left;intro w B;rw[G.out]at B;obtain⟨W,X,Y,Z,a⟩:=B;(try simp only[pS]);go_simp;try with_reducible rfl
 try simp only[pS]
 refine zu (i:=7) rfl (by kernel_rfl) λK j=>?_;go_wp2_with fail;refine(rq A J c M g x y _ (HG.out.ext (za E.out T))).mono ?_;rintro e w3 ⟨rfl,L0⟩;have D:Below F.heap.size F w3:=za T L0;have O:=L.out _ D;refine j.out _ _ ⟨O,?_⟩;clear j K G0
 try simp only[pS]
 refine tH 8 ?_ ?_ ?_;rotate_left
 ·intro w B;rw[G.out]at B;obtain⟨W,X,Y,Z,a⟩:=B;(try simp only[pS]);go_simp;try with_reducible rfl
 try simp only[pS]
 refine wpAnyH_done (by kernel_rfl) ?_ _
 try simp only[pS]
 clear O
 by_cases d:zm g x y=0
 case neg=>
  have y0:(zm g x y != 0)=true:=by simp[d]
  have HR:Hid (tF g [x,y]=yO (zm g x y)):=zc (by
   show yb (the (yN g ul x y)) (zm g x y)=_;unfold yb;rw[Au d])
  have HW:=zc (zP (zm g x y) (by have:=yo g x y;exact zt (by omega) (by omega)) w3 (HT.out.ext (za E.out D)));clear d;go_wp2_with fail;refine HW.out.mono ?_;rintro e w4 ⟨rfl,M0⟩;go_wp2_with fail;go_ret;exact⟨by rw[HR.out];rfl,za E.out (za D M0)⟩
 have z:=zc d;rw[d];clear d;go_wp2_with fail;have U:=zi D;have I0:S w3.drew:=L.out _ U;refine zB S (by kernel_rfl) ?_;refine tH 0 ?_ ?_<|tH 1 ?_ ?_<|tH 2 ?_ ?_<|tH 3 ?_ ?_<|tH 4 ?_ ?_<|tH 5 ?_ ?_<|tH 6 ?_ ?_ ?_
 iterate 7
  rotate_left;intro w B;rw[G.out]at B;obtain⟨W,X,Y,Z,a⟩:=B;(try simp only[pS]);go_simp;try with_reducible rfl
 try simp only[pS]
 refine zu (i:=7) rfl (by kernel_rfl) λK j=>?_;go_wp2_with fail;refine(rN A J c M g x y _ (HG.out.ext (za E.out U)) z.out).mono ?_;rintro e w5 ⟨C,H,ic,ih,bc,bh,cc,ch,HC,rfl,m,F0,HL,q,K0,R0,S0,T0,U0,N0⟩;have Q:Below F.heap.size F w5:=za U N0;have P:=L.out _ Q;refine j.out _ _ ⟨P,?_⟩;clear j K I0
 try simp only[pS]
 refine tH 8 ?_ ?_<|tH 9 ?_ ?_<|tH 10 ?_ ?_<|tH 11 ?_ ?_<|tH 12 ?_ ?_ ?_
 iterate 5
  rotate_left;intro w B;rw[G.out]at B;obtain⟨W,X,Y,Z,a⟩:=B;(try simp only[pS]);go_simp;try with_reducible rfl
 try simp only[pS]
 refine wpAnyH_done (by kernel_rfl) ?_ _
 try simp only[pS]
 clear P;have A0:=zc (iC bc g.lives.length cc g.h.toNat ic C w5 m HL.out.1 q u.out.nl (by have:=u.out.h1;omega) (zc λp=>HC.out.1.pos (ro u.out) p));clear m F0 q K0 R0 S0 T0 U0;go_wp2_with fail;refine A0.out.mono ?_;rintro e w6 ⟨l,Al,cl,f,rfl,J0,V0,O0⟩;have HR:Hid (tF g [x,y]=yb l 0):=zc (by
  have hc:yN g ul x y l:=by unfold yN;rw[Aq z.out];exact⟨C,HC.out.1,by rw[f.out,dy]⟩
  show yb (the (yN g ul x y)) (zm g x y)=_;rw[z.out,lH hc])
 have w0:l.length<=12:=by rw[f.out,mY];exact u.out.nl
 have R:=za Q O0;have C0:=zc (vm Al l.length cl l 0 w6 (xZ J0 V0) (by omega) (zt (by decide) (by decide)) (HT.out.ext (za E.out R)));go_wp2_with fail;refine C0.out.mono ?_;rintro e w7 ⟨rfl,P0⟩;have s:=za R P0;go_wp2_with fail;go_ret;rw[HR.out];exact⟨rfl,za E.out s⟩
theorem Uf(A J An:Option Addr)(c M cn:Nat)(g:zf)(n:List Int)(V4:Value)(w:World)(u:zv w A c J M g)(hV:zx g)(hN:zI w An cn n)(hn:n.length=2)(V:∀x,x∈n->0<=x)(ht:ITab w) :
  Calls Tryz.prog 40 #[gV A c J M g,.string ⟨#[102,101,119]⟩,.slice An n.length cn,V4] w λe I=>e=.returned (.string (bs (od g n)))/\Below w.heap.size w I:=by
 obtain⟨x,y,rfl⟩:=vI hn;obtain⟨b,o,rfl,r,x0,x1⟩:=hN.two;have HG:=zc u;have HT:=zc ht;have HV:=zc hV;have q0:Hid (0<=x/\0<=y):=zc ⟨V x (by simp),V y (by simp)⟩;have HI:Hid (∀k,k∈[x,y]->zM k):=zc hN.i64;have m1:g.lives.length<=9223372036854775807:=Ai u.lc u.cm;clear u ht hV hN hn V
 go_enter Tryz.func40,Tryz.ntmps40
 go_wp2_with fail;have t:=zj.new w 68 (gC A c J M g);have N:=ze (Ae w.heap.size w) (Obj.cells (gC A c J M g) 68);change Code.wp _ _ _ _ (w.alloc (Obj.cells (gC A c J M g) 68));obtain⟨F,hq⟩:∃F,w.alloc (Obj.cells (gC A c J M g) 68)=F:=⟨_,rfl⟩;rw[hq]at t N⊢;obtain⟨S,G⟩:∃S:World->Prop,Hid (S=λI=>I.cell? ⟨w.heap.size,0,none⟩=some (.int .i64 g.h)/\I.cell? ⟨w.heap.size,1,none⟩=some (.slice A g.lives.length c)/\I.cell? ⟨w.heap.size,2,none⟩=some (.slice J g.edges.length M)/\I.cell? ⟨b,o,none⟩=some (.int .i64 x)/\I.cell? ⟨b,o+1,none⟩=some (.int .i64 y)):=⟨_,zc rfl⟩
 have HX:Hid (w.cell? ⟨b,o,none⟩=some (.int .i64 x)/\w.cell? ⟨b,o+1,none⟩=some (.int .i64 y)):=zc ⟨x0,x1⟩;have L:Hid (∀I,Below F.heap.size F I->S I):=zc λI h=>by
  have hB:=t.ext h;have hw:=za N h;rw[G.out];exact⟨hB.cell 0,hB.cell 1,hB.cell 2,(hw.cell (p:=⟨b,o,none⟩) r).trans HX.out.1,(hw.cell (p:=⟨b,o+1,none⟩) r).trans HX.out.2⟩
 have E:=zc N;have n0:=zc t;have Q0:Below F.heap.size F F:=Ae _ _;clear x0 x1 t N hq;have T:=zi Q0;have G0:S F.drew:=L.out _ T;refine zB S (by kernel_rfl) ?_;refine tH 0 ?_ ?_<|tH 1 ?_ ?_<|tH 2 ?_ ?_<|tH 3 ?_ ?_<|tH 4 ?_ ?_<|tH 5 ?_ ?_<|tH 6 ?_ ?_ ?_
 iterate 7
  rotate_left;intro w B;rw[G.out]at B;obtain⟨W,X,Y,Z,a⟩:=B;(try simp only[pS]);go_simp;try with_reducible rfl
 try simp only[pS]
 refine zu (i:=7) rfl (by kernel_rfl) λK j=>?_;go_wp2_with fail;refine(rq A J c M g x y _ (HG.out.ext (za E.out T))).mono ?_;rintro e w3 ⟨rfl,L0⟩;have D:Below F.heap.size F w3:=za T L0;have O:=L.out _ D;refine j.out _ _ ⟨O,?_⟩;clear j K G0
 try simp only[pS]
 refine tH 8 ?_ ?_ ?_;rotate_left
 ·intro w B;rw[G.out]at B;obtain⟨W,X,Y,Z,a⟩:=B;(try simp only[pS]);go_simp;try with_reducible rfl
 try simp only[pS]
 refine wpAnyH_done (by kernel_rfl) ?_ _
 try simp only[pS]
 clear O
 by_cases d:zm g x y=0
 case neg=>
  have y0:(zm g x y != 0)=true:=by simp[d]
  have HR:Hid (od g [x,y]=yO (zm g x y)):=zc (by
   show yb (the (yN g qu x y)) (zm g x y)=_;unfold yb;rw[Au d])
  have HW:=zc (zP (zm g x y) (by have:=yo g x y;exact zt (by omega) (by omega)) w3 (HT.out.ext (za E.out D)));clear d;go_wp2_with fail;refine HW.out.mono ?_;rintro e w4 ⟨rfl,M0⟩;go_wp2_with fail;go_ret;exact⟨by rw[HR.out];rfl,za E.out (za D M0)⟩
 have v:=zc d;rw[d];clear d;go_wp2_with fail;have U:=zi D;have I0:S w3.drew:=L.out _ U;refine zB S (by kernel_rfl) ?_;refine tH 0 ?_ ?_<|tH 1 ?_ ?_<|tH 2 ?_ ?_<|tH 3 ?_ ?_<|tH 4 ?_ ?_<|tH 5 ?_ ?_<|tH 6 ?_ ?_ ?_
 iterate 7
  rotate_left;intro w B;rw[G.out]at B;obtain⟨W,X,Y,Z,a⟩:=B;(try simp only[pS]);go_simp;try with_reducible rfl
 try simp only[pS]
 refine zu (i:=7) rfl (by kernel_rfl) λK j=>?_;go_wp2_with fail;refine(rN A J c M g x y _ (HG.out.ext (za E.out U)) v.out).mono ?_;rintro e w5 ⟨C,H,ic,ih,bc,bh,cc,ch,HC,rfl,F0,m,HL,K0,q,R0,S0,T0,U0,N0⟩;have Q:Below F.heap.size F w5:=za U N0;have P:=L.out _ Q;refine j.out _ _ ⟨P,?_⟩;clear j K I0
 try simp only[pS]
 refine tH 8 ?_ ?_<|tH 9 ?_ ?_<|tH 10 ?_ ?_<|tH 11 ?_ ?_<|tH 12 ?_ ?_ ?_
 iterate 5
  rotate_left;intro w B;rw[G.out]at B;obtain⟨W,X,Y,Z,a⟩:=B;(try simp only[pS]);go_simp;try with_reducible rfl
 try simp only[pS]
 refine wpAnyH_done (by kernel_rfl) ?_ _
 try simp only[pS]
 clear P;have z:=zc (iC bh g.lives.length ch g.h.toNat ih H w5 m HL.out.2 q HV.out.nl (by have:=HV.out.h1;omega) (zc λp=>HC.out.2.1.pos aD p));clear F0 m K0 q R0 S0 T0 U0;go_wp2_with fail;refine z.out.mono ?_;rintro e w6 ⟨l,Al,cl,f,rfl,J0,V0,O0⟩;have HR:Hid (od g [x,y]=yb l 0):=zc (by
  have hc:yN g qu x y l:=by unfold yN;rw[Aq v.out];exact⟨H,HC.out.2.1,by rw[f.out,dy]⟩
  show yb (the (yN g qu x y)) (zm g x y)=_;rw[v.out,lH hc])
 have w0:l.length<=12:=by rw[f.out,mY];exact HV.out.nl
 have R:=za Q O0;have B0:=zc (vm Al l.length cl l 0 w6 (xZ J0 V0) (by omega) (zt (by decide) (by decide)) (HT.out.ext (za E.out R)));go_wp2_with fail;refine B0.out.mono ?_;rintro e w7 ⟨rfl,P0⟩;have s:=za R P0;go_wp2_with fail;go_ret;rw[HR.out];exact⟨rfl,za E.out s⟩
