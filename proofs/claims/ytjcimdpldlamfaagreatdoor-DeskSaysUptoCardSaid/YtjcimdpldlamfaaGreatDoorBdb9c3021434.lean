import Derived.Test.YtjcimdpldlamfaaGreatDoorAl
import Derived.Test.YtjcimdpldlamfaaGreatDoorBde1fba3d5b3
namespace Go.Proofs.YtjcimdpldlamfaaGreatDoor
set_option maxRecDepth 100000
open Go.RowKit
def nJ(x:Int):List Value:=[.int .i64 x]
def ui(w:World)(base:Nat)(A:Option Addr)(l:List Int):Prop:=0<l.length->∃g cs,A=some ⟨g,0,none⟩/\base<=g/\zj w g 3 cs/\l.length<=cs.size/\∀k,k<l.length->cs[k]?=some (.int .i64 (gi l k))
theorem Qe(l:List Int):l.flatMap nJ=l.map iV:=by
 induction l with
 |nil=>rfl
 |cons x l ih=>rw[List.flatMap_cons,ih];rfl
section
variable {w w':World}{base:Nat}{A:Option Addr}{l:List Int}{v:Value}
theorem ui.of_row{n c:Nat}(h:w.ownsRow base 3 1 (.slice A n c) n (l.map iV)):ui w base A l:=by
 intro O;have L:=h.1;simp at L;rcases h.2 with⟨_,rfl⟩|⟨g,E,C,N,I,J,M,G,H,B⟩
 ·omega
 injection N with F h2 h3;subst F;refine⟨g,C,rfl,I,J,by omega,λk K=>?_⟩;have D:(C.toList.take (n*1))[k]?=some (iV (gi l k)):=by rw[B];simp[ou K]
 rw[List.getElem?_take_of_lt (by omega)]at D;simpa using D
theorem Own.iown(h:Own nJ 1 w base 3 v l):∃A c,v=.slice A l.length c/\ui w base A l:=by
 obtain⟨A,c,rfl⟩:=h.form;refine⟨A,c,rfl,ui.of_row (n:=l.length) (c:=c) ?_⟩;have B:=h;unfold Own at B
 rwa[Qe]at B
theorem ui.ext(h:ui w base A l)(hb:Below w.heap.size w w'):ui w' base A l:=λh0=>by
 obtain⟨g,cs,h1,h2,h3,h4⟩:=h h0;exact⟨g,cs,h1,h2,h3.ext hb,h4⟩
theorem ui.lower{base':Nat}(h:ui w base A l)(hb:base'<=base):ui w base' A l:=λh0=>by
 obtain⟨g,cs,h1,h2,h3⟩:=h h0;exact⟨g,cs,h1,Ai hb h2,h3⟩
theorem ui.slAt(h:ui w base A l)(hi:∀k,k<l.length->zM (gi l k)):zU ra 1 w A l:=by
 rcases Nat.eq_zero_or_pos l.length with C|C
 ·rw[List.eq_nil_of_length_eq_zero C];exact zU.nil
 obtain⟨g,F,rfl,_,D,G,E⟩:=h C;refine⟨g,0,λi x B=>⟨rfl,D.lt,?_,?_⟩⟩
 ·have:=D.cell i
  rw[E i (zy B),vE B]at this;unfold zJ;simpa using this
 have:=hi i (zy B)
 rwa[vE B]at this
theorem ui.at_(h:ui w base A l){k:Nat}(I:k<l.length):∃g,A=some ⟨g,0,none⟩/\base<=g/\g<w.heap.size/\(∀i,i<l.length->w.cell? ⟨g,i,none⟩=some (.int .i64 (gi l i)))/\∀i,w.frozen? ⟨g,i,none⟩=false:=by
 obtain⟨g,G,C,D,B,H,E⟩:=h (by omega);exact⟨g,C,D,B.lt,λi F=>by rw[B.cell,E i F],B.frozen⟩
theorem ui.set{g:Nat}(h:ui w base (some ⟨g,0,none⟩) l)(k:Nat)(x:Int):ui (w.setCell ⟨g,k,none⟩ (.int .i64 x)) base (some ⟨g,0,none⟩) (l.set k x):=by
 intro C;rw[List.length_set]at C;obtain⟨D,B,E,F,G,H,I⟩:=h C;obtain rfl:g=D:=by simpa using E
 refine⟨g,B.setIfInBounds k (.int .i64 x),rfl,F,G.set_ _ _,by simpa using H,λi A=>?_⟩;rw[List.length_set]at A
 by_cases e:k=i
 ·subst e
  rw[vX A,yD];simp[show k<B.size by omega]
 rw[Aj e,I i A];have:gi (l.set k x) i=gi l i:=by simp only[gi,List.getD];rw[AX e]
 rw[this]
theorem ui.far(h:ui w base A l){p:Addr}(hp:∀g,A=some ⟨g,0,none⟩->g≠p.block)(u:Value):ui (w.setCell p u) base A l:=λh0=>by
 obtain⟨g,cs,h1,h2,h3,h4⟩:=h h0;exact⟨g,cs,h1,h2,h3.far (hp g h1) u,h4⟩
theorem ui.far_{g:Nat}(h:ui w base (some ⟨g,0,none⟩) l){p:Addr}(B:g≠p.block)(u:Value):ui (w.setCell p u) base (some ⟨g,0,none⟩) l:=
 h.far (λA e=>by
  have e':g=A:=by simpa using e
  rw[<-e'];exact B) u
end
theorem dg:∃i,Tryz.prog.info? 3=some i/\i.zero=some (.int .i64 0)/\i.size=1/\i.bytes=8:=by
 obtain⟨E,D,A,B,C⟩:=info_parts qQ;exact⟨E,D,A,B,C⟩
theorem pm{H:Array Oper}{rest:List Oper}{o:Oper}{a:Act}{Q:Exit->Act->World->Prop}{w:World}(L:o.guard=none)(x:Operand)
  (f:o.op=.call { callee:=.builtin .append,args:=#[.const (.slice none 0 0),x],argTypes:=#[55,55]})
  (A:Option Addr) (c:Nat) (l:List Int) (i:a.eval x=.slice A l.length c) (I:zU ra 1 w A l) (q:l.length<=1000000)
  (h:∀C D B,ui B w.heap.size C l->Below w.heap.size w B->wpList Tryz.prog H Q rest (a.put o.dst (.slice C l.length D)) B):wpList Tryz.prog H Q (o::rest) a w:=by
 obtain⟨m,T,N,O,R⟩:=dg;have F:∃C D B,(Builtin.append_ #[55,55] o.type #[.slice none 0 0,.slice A l.length c]).run Tryz.prog w=.ok (.slice C l.length D) B/\ui B w.heap.size C l/\Below w.heap.size w B:=by
  cases A with
  |none=>
   have S:l=[]:=by
    cases l with
    |nil=>rfl
    |cons y l=>
     obtain⟨b,G,h⟩:=I;have:=(h 0 y rfl).1;simp at this
   subst S;exact⟨none,0,w,by simp[Builtin.append_,run_underlying Tryz.underlying55,sizeOf,typeInfo,T,Builtin.lenOf,Builtin.firstCells],λh=>by simp at h,Ae _ _⟩
  |some ad=>
   obtain⟨b,G,I⟩:=I;have Z:∀(j:Nat) u,(l.map iV)[j]?=some u->w.cell? (ad.add j)=some u:=λj u U=>by
    simp only[AU,Option.map_eq_some_iff]at U;obtain⟨y,k,rfl⟩:=U;obtain⟨K,_,E,_⟩:=I j y k;obtain rfl:ad=⟨b,G,none⟩:=by simpa using K
    rw[Go.WideShapes.add_plain];simpa[zJ]using E
   obtain⟨p,B,M,E,W,_,_⟩:=run_append_own_at (P:=Tryz.prog) w w.heap.size 55 o.type 3 m (.int .i64 0) 1 8 Tryz.underlying55 T N O R rfl (by omega) (.slice none 0 0) 0 [] (World.ownsRow_nil _ _ _ _) ad l.length c (l.map iV) (by simp) Z
    (by simp[Value.oneCell']) (by unfold maxLen;omega) (by omega) (Ay _)
   have Y:Below w.heap.size w B:=(Ae _ _).grown W (Ay _) (by simp[Value.ownBlock]);have e:∃C D,p=.slice C l.length D:=by
    rcases E.2 with⟨rfl,S⟩|⟨g,J,V,rfl,_⟩
    ·exact⟨none,0,by rw[show l.length=0 by omega]⟩
    exact⟨some ⟨g,0,none⟩,J,by rw[Nat.zero_add]⟩
   obtain⟨C,D,rfl⟩:=e;exact⟨C,D,B,M,ui.of_row (n:=l.length) (c:=D) (by simpa using E),Y⟩
 obtain⟨C,D,B,M,K,E⟩:=F;have d:a.eval (.const (.slice none 0 0))=.slice none 0 0:=rfl;refine wpList_plain L λ_ X=>?_;unfold Oper.wp execOp;simp only[f,resolve,invoke,builtin,Sem.run_bind,Sem.run_pure,Result.andThen_ok,List.map_toArray,List.map_cons,List.map_nil,d,i,M];exact X _ _ (h C D B K E)
set_option maxHeartbeats 2000000
theorem nW{α:Type}(f:Nat->α)(k:Nat):(List.range (k+1)).map f=(List.range k).map f++[f k]:=by rw[List.range_succ,List.map_append];rfl
theorem ej{a:Int}:∀u∈(#[.int .i64 a]:Array Value).toList,u.oneCell'=true:=by simp[Value.oneCell']
def qL(s:zH)(p v:Int)(k:Nat):Int:=if s.alive[k]?=some true/\p=3 then (k:Int) else if s.alive[k]?=some true/\(k:Int)=v then 0 else vN
theorem Ts(s:zH)(p v:Int):vo s p v=(List.range s.alive.length).map (qL s p v):=rfl
theorem Tt(A M:Option Addr)(c P:Nat)(s:zH)(p v:Int)(w:World)(l:wY w A c M P s)(n:s.alive.length<=12) :
  Calls Tryz.prog 125 #[sx A c M P s,.int .i64 p,.int .i64 v] w λe g=>∃N S,e=.returned (.slice N (vo s p v).length S)/\zU ra 1 g N (vo s p v)/\Below w.heap.size w g:=by
 obtain⟨R,Q,E,F,G⟩:=dg;obtain⟨b,r,d⟩:=l.alive
 go_enter Tryz.func125,Tryz.ntmps125
 go_wp2_with fail
 go_loopw [7,8] (λo x wr=>∃k:Nat,k<=s.alive.length/\x=.int .i64 k/\Own nJ 1 wr (w.heap.size+1) 3 o ((List.range k).map (qL s p v))/\Below (w.heap.size+1) (w.alloc (.cells (tn A c M P s) 86)) wr)
  (λ_ x _=>s.alive.length-(intOf x).toNat)
 case atStart=>exact⟨0,AA _,rfl,Own.nil,by simpa using Ae _ _⟩
 obtain⟨k,hk,rfl,C,J⟩:=hrel;have K:Below w.heap.size w wr:=(Ae _ _).alloc (Ay _) _ |>.trans (J.mono (by omega))
 have h:=(zj.new w 86 (tn A c M P s)).below J (by omega);obtain⟨u,z,b3⟩:=h.facts;have q:w.heap.size+1<=wr.heap.size:=by have:=J.size;simpa using this
 by_cases U:k<s.alive.length
 case neg=>
  obtain rfl:k=s.alive.length:=by omega
  rw[<-Ts]at C;obtain⟨N,S,rfl,j⟩:=C.iown;go_wp2_with fail;go_ret;exact⟨N,S,rfl,j.slAt (λk _=>by have i:=bW s n p v k;have h2:=bY s p v k;simp only[vN]at i;exact⟨by omega,by omega⟩),K⟩
 obtain⟨y,X⟩:=zl U;obtain⟨rfl,T,a⟩:=d k y X;unfold oH at a;have t:=a.now K;simp only[Nat.mul_one]at t;have m:b<wr.heap.size:=AV T K.size;have O:=zc X;have f:((List.range k).map (qL s p v)).length<=12:=by simp;omega
 clear d X a
 cases y
 case false=>
  have I:Hid (qL s p v k=1099511627776):=zc (by simp[qL,O.out,vN]);go_wp2_with (at_builtin;refine vM (enc:=nJ) rfl (.tmp 37) (.tmp 39) 55 rfl (w.heap.size+1) 3 R _ 1 8 Tryz.underlying55 Q E F G rfl (by decide) _ _ 1099511627776 rfl C _ rfl _ rfl rfl rfl ej (by omega) (by decide) (by omega) ?_;intro Y Z B D);go_roundw
  case rel=>exact⟨k+1,by omega,by go_num,by rw[nW,I.out];exact B,J.trans D⟩
  case measure=>simp[intOf];omega
 by_cases H:p=3
 ·have I:Hid (qL s p v k=k):=zc (by simp[qL,O.out,H])
  have V:(p== 3)=true:=by simp[H]
  clear H;go_wp2_with (at_builtin;refine vM (enc:=nJ) rfl (.tmp 37) (.tmp 39) 55 rfl (w.heap.size+1) 3 R _ 1 8 Tryz.underlying55 Q E F G rfl (by decide) _ _ k rfl C _ rfl _ rfl rfl rfl ej (by omega) (by decide) (by omega) ?_;intro Y Z B D);go_roundw
  case rel=>exact⟨k+1,by omega,by go_num,by rw[nW,I.out];exact B,J.trans D⟩
  case measure=>simp[intOf];omega
 have V:(p== 3)=false:=by simp[H]
 by_cases L:(k:Int)=v
 ·have I:Hid (qL s p v k=0):=zc (by simp[qL,O.out,H,L])
  have W:((k:Int)== v)=true:=by simp[L]
  clear H L;go_wp2_with (at_builtin;refine vM (enc:=nJ) rfl (.tmp 37) (.tmp 39) 55 rfl (w.heap.size+1) 3 R _ 1 8 Tryz.underlying55 Q E F G rfl (by decide) _ _ 0 rfl C _ rfl _ rfl rfl rfl ej (by omega) (by decide) (by omega) ?_;intro Y Z B D);go_roundw
  case rel=>exact⟨k+1,by omega,by go_num,by rw[nW,I.out];exact B,J.trans D⟩
  case measure=>simp[intOf];omega
 have I:Hid (qL s p v k=1099511627776):=zc (by simp[qL,O.out,H,L,vN]);have W:((k:Int)== v)=false:=by simp[L]
 clear H L;go_wp2_with (at_builtin;refine vM (enc:=nJ) rfl (.tmp 37) (.tmp 39) 55 rfl (w.heap.size+1) 3 R _ 1 8 Tryz.underlying55 Q E F G rfl (by decide) _ _ 1099511627776 rfl C _ rfl _ rfl rfl rfl ej (by omega) (by decide) (by omega) ?_;intro Y Z B D);go_roundw
 case rel=>exact⟨k+1,by omega,by go_num,by rw[nW,I.out];exact B,J.trans D⟩
 case measure=>simp[intOf];omega
theorem fE(a:xz)(p:Int)(B:Nat)(w:World)(C:zj w B 3 #[.int .i64 p])(h1:1<=p)(F:p<=3) :
  Calls Tryz.prog 126 #[Pr a,.pointer (some ⟨B,0,none⟩)] w λe E=>e=.returned (.int .i64 (mh p a))/\Below w.heap.size w E:=by
 obtain⟨D,G,H⟩:=C.facts;have A:=D 0;simp only[List.getElem?_toArray,List.getElem?_cons_zero]at A;rcases(show p=1∨p=2∨p=3 by omega)with rfl|rfl|rfl
 all_goals
  go_enter Tryz.func126,Tryz.ntmps126
  go_wp2_with fail;go_ret;exact⟨zC (by simp[mh]),by go_grown⟩
set_option maxHeartbeats 8000000
theorem ft(A B:Option Addr)(c d:Nat)(a b:List Int)(n:Nat)(w:World)(C:zU ra 1 w A a)(D:zU ra 1 w B b)(E:a.length<=maxLen)(F:b.length<=maxLen)(G:a.length=n) :
  Calls Tryz.prog 148 #[.slice A n c,.slice B b.length d] w λe H=>e=.returned (.bool (decide (a=b)))/\Below w.heap.size w H:=by
 subst G;exact eO A B c d a b w C D E F
def bP(s:zH)(p:Int)(back:Bool)(v:Int)(w:World)(e:Ending)(w':World):Prop:=
 ∃l A c k,e=.returned (.tuple #[.slice A l.length c,.int .i64 k])/\(l.length=s.alive.length/\qp (sA s (mh p) back) (gi (vo s p v)) (gi l))/\zU ra 1 w' A l/\l.length<=maxLen/\Below w.heap.size w w'/\ui w' w.heap.size A l
theorem YX:Enters Tryz.prog 126:=enters_of Tryz.func126 (by kernel_rfl) rfl
theorem WN{s:zH}{wt:xz->Int}{A:Bool}:∀x,sA s wt A x->kj x.f:=by
 rintro x ⟨a,_,rfl|⟨_,rfl⟩⟩ <;> exact rK _
theorem QF{a b c:Int}(h:(if b<a then b else a)=c):min a b=c:=by rw[<-h];split <;> omega
theorem Ug(A A' Af:Option Addr)(c c' cf:Nat)(s:zH)(p v:Int)(M:Bool)(bp:Nat)(w:World)(hS:wY w A c A' c' s)(s0:pZ s)(h2:1<=p)(i2:p<=3)(I1:zj w bp 3 #[.int .i64 p])
  (hF:zU ra 1 w Af (vo s p v)) :
  Calls Tryz.prog 124 #[sx A c A' c' s,.slice Af (vo s p v).length cf,.func (.func 126) #[] #[.pointer (some ⟨bp,0,none⟩)],.bool M] w (bP s p M v w):=by
 have Y0:=s0.nv;have v3:=s0.na;have v0:=Rk s0 p;have hent:=YX;unfold Enters at hent;have z1:=zc (bX s p v);have J3:(vo s p v).length<=12:=by rw[bX];exact Y0
 obtain⟨l0,W0⟩:∃l0,vo s p v=l0:=⟨_,rfl⟩;have M1:∀i,gi l0 i<=vN:=by rw[<-W0];exact bW s Y0 p v
 have U1:∀i,0<=gi l0 i:=by rw[<-W0];exact bY s p v
 rw[W0]at hF z1 J3⊢;have z2:=zc W0;have v1:=zc M1;have C1:=zc U1;clear W0 M1 U1;have S3:=I1.lt
 go_enter Tryz.func124,Tryz.ntmps124
 go_wp2_with (at_builtin;refine pm rfl (.tmp 15) rfl Af cf l0 rfl (hF.ext ra.stable (by go_grown)) (by omega) ?_;intro A1 c1 w1 K2 r0);have F2:=(zj.new w 86 (tn A c A' c' s)).ext r0;have N2:=(I1.alloc (Obj.cells (tn A c A' c' s) 86)).ext r0;have S2:Below w.heap.size w w1:=za (by go_grown) r0;clear r0
 go_loopg [10,11] (uW l0) (λgk x y wr=>∃(Ax:Option Addr) (cx:Nat) (l:List Int) (kk:Int),x=.slice Ax l.length cx/\y=.int .i64 kk/\Hid (l.length=s.alive.length/\uW l<=gk/\(∀i,gi l i<=gi l0 i)/\wV (sA s (mh p) M) (gi l0) (gi l)) /\
  ui wr (w.heap.size+1) Ax l/\zj wr w.heap.size 86 (tn A c A' c' s)/\zj wr bp 3 #[.int .i64 p]/\Below w.heap.size w wr)
 case atStart=>exact⟨A1,c1,l0,0,rfl,rfl,zc ⟨z1.out,Ay _,λ_=>Int.le_refl _,wM⟩,by simpa using K2,F2,N2,S2⟩
 clear K2 F2 N2 S2;obtain⟨Ax,cx,l,kk,rfl,rfl,u,hI,hB,f,R⟩:=hrel;have u3:l.length<=12:=by rw[u.out.1];exact Y0
 have T1:∀i,0<=gi l i:=qy u.out.2.2.2 C1.out (YE (λa ha=>(v0 a ha).1));have k2:∀i,gi l i<=1099511627776:=λi=>Int.le_trans (u.out.2.2.1 i) (v1.out i);have t:=zc T1;have L0:=zc k2;clear T1 k2;have P2:=hI.slAt (λk _=>⟨by have:=t.out k;omega,by have:=L0.out k;omega⟩);go_wp2_with (at_builtin;refine pm rfl (.tmp 19) rfl Ax cx l rfl P2 (by omega) ?_;intro A2 c2 w2 L2 D0)
 have L1:=hI.ext D0;have G2:=hB.ext D0;have J1:=f.ext D0;have N1:=za R D0;have x3:=D0.size;have z3:=hB.lt;have y3:=f.lt;have X2:∀g1,Ax=some ⟨g1,0,none⟩->0<l.length->g1<wr.heap.size:=λg1 e h0=>by
  obtain⟨g,cs,h1,_,h3,_⟩:=hI h0;have hg:g=g1:=by rw[h1]at e;simpa using e
  rw[<-hg];exact h3.lt
 have v2:=zc X2;clear hI hB f R P2 D0 X2;obtain⟨bz,oz,C3⟩:=hS.arcs;obtain⟨wq,rfl⟩:∃wq:World,wq=wr:=⟨_,rfl⟩
 go_loopw [13] (λx wr=>∃(j:Nat) (Y:List Int),j<=s.arcs.length/\x=.int .i64 j/\Hid (Y.length=l.length/\iR (sA s (mh p) M) (gi l0) (gi l) (gi Y) (km s (mh p) M j)) /\
  ui wr wq.heap.size A2 Y/\ui wr (w.heap.size+1) Ax l/\zj wr w.heap.size 86 (tn A c A' c' s)/\zj wr bp 3 #[.int .i64 p]/\Below w.heap.size w wr) (λx _=>s.arcs.length-(intOf x).toNat)
 case atStart=>exact⟨0,l,AA _,rfl,zc ⟨rfl,(iR.start u.out.2.2.2).mono WQ⟩,L2,L1,G2,J1,N1⟩
 clear L2 L1 G2 J1 N1;obtain⟨j,Y,hj,rfl,T,hX,O0,hB,f,R⟩:=hrel;obtain⟨b1,b2,b3⟩:=hB.facts
 by_cases K3:j<s.arcs.length
 case neg=>
  have X0:∀i,0<=gi Y i:=qy T.out.2.above C1.out (YE (λa ha=>(v0 a ha).1));have J0:=zc X0;have O2:=hX.slAt (λk _=>⟨by have:=J0.out k;omega,by have:=L0.out k;have:=T.out.2.le k;omega⟩);have f1:=O0.slAt (λk _=>⟨by have:=t.out k;omega,by have:=L0.out k;omega⟩);have f2:Y.length<=maxLen:=by rw[T.out.1];unfold maxLen;omega
  have m1:l.length<=maxLen:=by unfold maxLen;omega
  have g0:=zc T.out.1;clear X0
  by_cases F0:Y=l
  ·have HB:=zc (Uh u.out.2.2.1 u.out.2.2.2 T.out.2 (show s.arcs.length<=j by omega) (by rw[F0]))
   have V1:Hid (decide (Y=l)=true):=zc (by simp[F0]);clear F0;go_wp2_with fail;refine(ft A2 Ax c2 cx Y l l.length _ O2 f1 f2 m1 g0.out).mono ?_;rw[V1.out];rintro e w3 ⟨rfl,W⟩;go_wp2_with fail;go_ret2;exact⟨l,Ax,cx,kk,rfl,⟨u.out.1,by rw[z2.out];exact HB.out⟩,f1.ext ra.stable W,m1,za R W,ui.lower (O0.ext W) (by omega)⟩
  have V1:Hid (decide (Y=l)=false):=zc (by simp[F0]);have HT:=zc (Pb T.out.1 T.out.2.le J0.out F0);have D2:=zc u.out.2.1;clear F0;go_wp2_with fail;refine(ft A2 Ax c2 cx Y l l.length _ O2 f1 f2 m1 g0.out).mono ?_;rw[V1.out];rintro e w3 ⟨rfl,W⟩;go_wp2_with fail
  go_roundg (gk-1)
  case rel=>exact⟨A2,c2,Y,_,by rw[g0.out],rfl,zc ⟨g0.out.trans u.out.1,by have:=HT.out;have:=D2.out;omega,λi=>Int.le_trans (T.out.2.le i) (u.out.2.2.1 i),T.out.2.above⟩,ui.lower (hX.ext W) (by omega),hB.ext W,f.ext W,za R W⟩
  case measure=>have:=HT.out;have:=D2.out;omega
 obtain⟨y,hy⟩:=zl K3;obtain⟨rfl,T3,⟨⟨x0,x1,x2⟩,_⟩⟩:=C3 j y hy;have y0:=x0.now R;have y1:=x1.now R;have y2:=x2.now R;have o1:=Ad hy;have w0:=s0.arcs y o1;have HY:=zc hy;have m0:=zc o1;clear hy o1 x0 x1 x2;have p3:=w0.a0;have q3:y.a<(l.length:Int):=by have:=w0.a1;rw[u.out.1];omega
 have q0:y.a.toNat<l.length:=by omega
 have r3:=w0.b0;have s3:y.b<(l.length:Int):=by have:=w0.b1;rw[u.out.1];omega
 have E0:y.b.toNat<l.length:=by omega
 obtain⟨Q,rfl,X3,Y3,a2,d2⟩:=hX.at_ (k:=y.b.toNat) (by rw[T.out.1];exact E0);obtain⟨g1,rfl,U3,V3,Y2,Z2⟩:=O0.at_ (k:=y.b.toNat) E0;have W3:=v2.out g1 rfl (by omega);have R1:g1≠Q:=by omega
 have j1:Q≠wr.heap.size:=by omega
 have j2:w.heap.size≠Q:=by omega
 have U2:bp≠Q:=by omega
 clear a2 d2 Y2 Z2;go_wp2_with fail;obtain⟨ba,T2⟩:∃ba,ba=wr.heap.size:=⟨_,rfl⟩;have p0:=hX.ext (show Below wr.heap.size wr (wr.alloc (Obj.cells #[.int .i64 y.a,.int .i64 y.b,.int .i64 y.cost] 134)) by go_grown);have o0:=O0.ext (show Below wr.heap.size wr (wr.alloc (Obj.cells #[.int .i64 y.a,.int .i64 y.b,.int .i64 y.cost] 134)) by go_grown);have Z1:=hB.alloc (Obj.cells #[.int .i64 y.a,.int .i64 y.b,.int .i64 y.cost] 134)
 have B0:=f.alloc (Obj.cells #[.int .i64 y.a,.int .i64 y.b,.int .i64 y.cost] 134);have T0:=ze R (Obj.cells #[.int .i64 y.a,.int .i64 y.b,.int .i64 y.cost] 134);have Z:=zj.new wr 134 #[.int .i64 y.a,.int .i64 y.b,.int .i64 y.cost];rw[<-T2]at Z j1⊢;obtain⟨wa,m2⟩:∃wa:World,wa=wr.alloc (Obj.cells #[.int .i64 y.a,.int .i64 y.b,.int .i64 y.cost] 134):=⟨_,rfl⟩;rw[<-m2]at p0 o0 Z1 B0 T0 Z⊢
 clear T2 m2;clear hX O0 hB f R b1 b2 b3 y0 y1 y2;have C2:=zc (T.out.2.step u.out.2.2.2 (x:=rc (mh p) y) ⟨y,m0.out,.inl rfl⟩ (rK _));obtain⟨d,J,_,_,V0,l1⟩:=p0.at_ (k:=y.b.toNat) (by rw[T.out.1];exact E0);obtain rfl:Q=d:=by simpa using J
 obtain⟨X1,V,_,_,U0,k1⟩:=o0.at_ (k:=y.a.toNat) (by omega);obtain rfl:g1=X1:=by simpa using V
 clear J V;have L:=V0 y.b.toNat (by rw[T.out.1];exact E0);have N:=U0 y.a.toNat (by omega);have e0:=Z.cell 0;have e1:=Z.cell 1;have e2:=Z.cell 2;simp only[List.getElem?_toArray,List.getElem?_cons_zero,List.getElem?_cons_succ]at e0 e1 e2;obtain⟨p',o⟩:∃p',gi Y y.b.toNat=p':=⟨_,rfl⟩;obtain⟨r,q⟩:∃r,gi l y.a.toNat=r:=⟨_,rfl⟩;obtain⟨n',n⟩:∃n',mh p y=n':=⟨_,rfl⟩;have t0:=t.out y.a.toNat
 have u0:=L0.out y.a.toNat;obtain⟨z0,B1⟩:=v0 y m0.out;rw[o]at L;rw[q]at N t0 u0;rw[n]at z0 B1;have j0:=zc o;have k0:=zc q;have U:=zc n;have Z0:IntKind.i64.wrap (r+n')=r+n':=AQ _ (by omega);have O:((Y.length:Nat):Int)=(l.length:Int):=by rw[T.out.1]
 have E2:=zc O;clear o q n V0 l1 U0 k1 O;obtain⟨S,C⟩:∃S:World->Prop,Hid (S=λw'=>w'.cell? ⟨Q,y.b.toNat,none⟩=some (.int .i64 p')/\w'.cell? ⟨g1,y.a.toNat,none⟩=some (.int .i64 r)/\w'.cell? ⟨ba,0,none⟩=some (.int .i64 y.a)/\w'.cell? ⟨ba,1,none⟩=some (.int .i64 y.b)/\w'.cell? ⟨ba,2,none⟩=some (.int .i64 y.cost)):=⟨_,zc rfl⟩;have d1:S wa.drew:=by rw[C.out];exact⟨L,N,e0,e1,e2⟩
 refine zV.begin (S:=S) 19 (by kernel_rfl) ?_;refine zV.take (i:=0) (v:=?_) rfl (by kernel_rfl) (λ_ _ _ h=>h) (Or.inl ⟨by rfl,?_⟩) (by assumption) ?_;rotate_left
 ·intro w B;rw[C.out]at B;obtain⟨D,E,F,G,H⟩:=B;go_simp;try with_reducible rfl
 simp only[Act.put,List.setIfInBounds_toArray];refine zV.take (i:=1) (v:=?_) rfl (by kernel_rfl) (λ_ _ _ h=>h) (Or.inl ⟨by rfl,?_⟩) (by assumption) ?_;rotate_left
 ·intro w B;rw[C.out]at B;obtain⟨D,E,F,G,H⟩:=B;go_simp;try with_reducible rfl
 simp only[Act.put];refine zV.take (i:=2) (v:=?_) rfl (by kernel_rfl) (λ_ _ _ h=>h) (Or.inl ⟨by rfl,?_⟩) (by assumption) ?_;rotate_left
 ·intro w B;rw[C.out]at B;obtain⟨D,E,F,G,H⟩:=B;go_simp;try with_reducible rfl
 simp only[Act.put];refine zV.take (i:=3) (v:=?_) rfl (by kernel_rfl) (λ_ _ _ h=>h) (Or.inl ⟨by rfl,?_⟩) (by assumption) ?_;rotate_left
 ·intro w B;rw[C.out]at B;obtain⟨D,E,F,G,H⟩:=B;go_simp;try with_reducible rfl
 simp only[Act.put];refine zV.take (i:=4) (v:=?_) rfl (by kernel_rfl) (λ_ _ _ h=>h) (Or.inl ⟨by rfl,?_⟩) (by assumption) ?_;rotate_left
 ·intro w B;rw[C.out]at B;obtain⟨D,E,F,G,H⟩:=B;go_simp;try with_reducible rfl
 simp only[Act.put];refine zV.take (i:=5) (v:=?_) rfl (by kernel_rfl) (λ_ _ _ h=>h) (Or.inl ⟨by rfl,?_⟩) (by assumption) ?_;rotate_left
 ·intro w B;rw[C.out]at B;obtain⟨D,E,F,G,H⟩:=B;go_simp;try with_reducible rfl
 simp only[Act.put];refine zV.take (i:=6) (v:=?_) rfl (by kernel_rfl) (λ_ _ _ h=>h) (Or.inl ⟨by rfl,?_⟩) (by assumption) ?_;rotate_left
 ·intro w B;rw[C.out]at B;obtain⟨D,E,F,G,H⟩:=B;go_simp;try with_reducible rfl
 simp only[Act.put];refine zV.take (i:=7) (v:=?_) rfl (by kernel_rfl) (λ_ _ _ h=>h) (Or.inl ⟨by rfl,?_⟩) (by assumption) ?_;rotate_left
 ·intro w B;rw[C.out]at B;obtain⟨D,E,F,G,H⟩:=B;go_simp;try with_reducible rfl
 simp only[Act.put];refine zV.take (i:=8) (v:=?_) rfl (by kernel_rfl) (λ_ _ _ h=>h) (Or.inl ⟨by rfl,?_⟩) (by assumption) ?_;rotate_left
 ·intro w B;rw[C.out]at B;obtain⟨D,E,F,G,H⟩:=B;go_simp;try with_reducible rfl
 simp only[Act.put];refine zV.take (i:=9) (v:=?_) rfl (by kernel_rfl) (λ_ _ _ h=>h) (Or.inl ⟨by rfl,?_⟩) (by assumption) ?_;rotate_left
 ·intro w B;rw[C.out]at B;obtain⟨D,E,F,G,H⟩:=B;go_simp;try with_reducible rfl
 simp only[Act.put];refine zV.take (i:=10) (v:=?_) rfl (by kernel_rfl) (λ_ _ _ h=>h) (Or.inl ⟨by rfl,?_⟩) (by assumption) ?_;rotate_left
 ·intro w B;rw[C.out]at B;obtain⟨D,E,F,G,H⟩:=B;go_simp;try with_reducible rfl
 simp only[Act.put];refine zV.take (i:=11) (v:=?_) rfl (by kernel_rfl) (λ_ _ _ h=>h) (Or.inl ⟨by rfl,?_⟩) (by assumption) ?_;rotate_left
 ·intro w B;rw[C.out]at B;obtain⟨D,E,F,G,H⟩:=B;go_simp;try with_reducible rfl
 simp only[Act.put];refine zV.take (i:=12) (v:=?_) rfl (by kernel_rfl) (λ_ _ _ h=>h) (Or.inl ⟨by rfl,?_⟩) (by assumption) ?_;rotate_left
 ·intro w B;rw[C.out]at B;obtain⟨D,E,F,G,H⟩:=B;go_simp;try with_reducible rfl
 simp only[Act.put];refine zV.take (i:=13) (v:=?_) rfl (by kernel_rfl) (λ_ _ _ h=>h) (Or.inl ⟨by rfl,?_⟩) (by assumption) ?_;rotate_left
 ·intro w B;rw[C.out]at B;obtain⟨D,E,F,G,H⟩:=B;go_simp;try with_reducible rfl
 simp only[Act.put];refine zV.take (i:=14) (v:=?_) rfl (by kernel_rfl) (λ_ _ _ h=>h) (Or.inl ⟨by rfl,?_⟩) (by assumption) ?_;rotate_left
 ·intro w B;rw[C.out]at B;obtain⟨D,E,F,G,H⟩:=B;go_simp;try with_reducible rfl
 simp only[Act.put];refine zV.one (i:=15) rfl (by kernel_rfl) λK hK=>?_;go_wp2_with (first|(refine(fE y p bp _ (zj.drew B0) h2 i2).mono ?_;rw[U.out];rintro e w5 ⟨rfl,R0⟩;have I:Below wa.heap.size wa w5:=za (by go_grown) R0));have P0:S w5:=by rw[C.out];exact Qu I ⟨L,N,e0,e1,e2⟩
 refine hK.out _ _ ⟨λ_=>P0,?_⟩;clear hK K
 try simp only[pS]
 refine zV.take (i:=16) (v:=?_) rfl (by kernel_rfl) (λ_ _ _ h=>h) (Or.inl ⟨by rfl,?_⟩) (by assumption) ?_;rotate_left
 ·intro w B;rw[C.out]at B;obtain⟨D,E,F,G,H⟩:=B;go_simp;try with_reducible rfl
 simp only[Act.put,List.setIfInBounds_toArray];refine zV.take (i:=17) (v:=?_) rfl (by kernel_rfl) (λ_ _ _ h=>h) (Or.inl ⟨by rfl,?_⟩) (by assumption) ?_;rotate_left
 ·intro w B;rw[C.out]at B;obtain⟨D,E,F,G,H⟩:=B;go_simp;try with_reducible rfl
 simp only[Act.put];refine zV.take (i:=18) (v:=?_) rfl (by kernel_rfl) (λ_ _ _ h=>h) (Or.inl ⟨by rfl,?_⟩) (by assumption) ?_;rotate_left
 ·intro w B;rw[C.out]at B;obtain⟨D,E,F,G,H⟩:=B;go_simp;try with_reducible rfl
 simp only[Act.put];have i1:=p0.ext I;have M2:=o0.ext I;have H2:=Z1.ext I;have K1:=B0.ext I;have O1:=za T0 I;have u1:=Z.ext I;obtain⟨d,J,_,S1,_,X⟩:=i1.at_ (k:=y.b.toNat) (by rw[T.out.1];exact E0);obtain rfl:Q=d:=by simpa using J
 have Q1:=X y.b.toNat;have P1:=zD I L;clear J X d1 P0 R0;refine zV.one (i:=19) rfl (by kernel_rfl) λK hK=>?_;obtain⟨P,m⟩:∃P,(if r+n'<p' then r+n' else p')=P:=⟨_,rfl⟩;(first|rw[m]|rw[show min p' (r+n')=P from by rw[<-m];split<;>omega]);have i0:=zc m;clear m;go_wp2_with fail;refine hK.out _ _ ⟨λh=>by omega,?_⟩;clear hK K;refine zV.done (by kernel_rfl) ?_ _;have Q0:=ui.set i1 y.b.toNat P;have n0:=M2.far_ (p:=⟨Q,y.b.toNat,none⟩) R1 (.int .i64 P)
 have Y1:=H2.far (p:=⟨Q,y.b.toNat,none⟩) j2 (.int .i64 P);have A0:=K1.far (p:=⟨Q,y.b.toNat,none⟩) U2 (.int .i64 P);have I0:=u1.far (p:=⟨Q,y.b.toNat,none⟩) (Ne.symm j1) (.int .i64 P);have S0:=O1.setCell (p:=⟨Q,y.b.toNat,none⟩) (by simp;omega) (.int .i64 P);have K0:Hid (iR (sA s (mh p) M) (gi l0) (gi l) (gi (Y.set y.b.toNat P)) (λz=>km s (mh p) M j z∨z=rc (mh p) y)):=zc (by
  have h:=C2.out;rw[vX (by rw[T.out.1];exact E0)];simp only[rc]at h⊢;rw[j0.out,k0.out,U.out,QF i0.out]at h;rw[U.out];exact h)
 cases M
 case false=>
  go_wp2_with fail;go_roundw
  case rel=>exact⟨j+1,Y.set y.b.toNat P,by omega,by go_num,zc ⟨by rw[List.length_set];exact T.out.1,K0.out.mono (WP HY.out)⟩,Q0,n0,Y1,A0,S0⟩
  case measure=>simp[intOf];omega
 case true=>
  go_wp2_with fail;obtain⟨wb,n2⟩:∃wb:World,wb=w5.setCell ⟨Q,y.b.toNat,none⟩ (.int .i64 P):=⟨_,rfl⟩;rw[<-n2]at Q0 n0 Y1 A0 I0 S0⊢;obtain⟨l3,n1⟩:∃l3,Y.set y.b.toNat P=l3:=⟨_,rfl⟩;rw[n1]at Q0 K0;have C0:Hid (l3.length=l.length):=zc (by rw[<-n1,List.length_set];exact T.out.1);have A3:=zc (K0.out.step u.out.2.2.2 (x:=iU (mh p) y) ⟨y,m0.out,.inr ⟨rfl,rfl⟩⟩ (rK _))
  clear n2 n1 p0 o0 Z1 B0 T0 Z i1 M2 H2 K1 O1 u1 I L N e0 e1 e2 P1 Q1 S1 t0 u0 z0 B1 Z0 j0 k0 U i0 C2 E2 C S;obtain⟨d,J,_,_,V0,l1⟩:=Q0.at_ (k:=y.a.toNat) (by rw[C0.out];exact q0);obtain rfl:Q=d:=by simpa using J
  obtain⟨X1,V,_,_,U0,k1⟩:=n0.at_ (k:=y.b.toNat) (by omega);obtain rfl:g1=X1:=by simpa using V
  clear J V;have L:=V0 y.a.toNat (by rw[C0.out];exact q0);have N:=U0 y.b.toNat (by omega);have e0:=I0.cell 0;have e1:=I0.cell 1;have e2:=I0.cell 2;simp only[List.getElem?_toArray,List.getElem?_cons_zero,List.getElem?_cons_succ]at e0 e1 e2;obtain⟨p',o⟩:∃p',gi l3 y.a.toNat=p':=⟨_,rfl⟩;obtain⟨r,q⟩:∃r,gi l y.b.toNat=r:=⟨_,rfl⟩;obtain⟨n',n⟩:∃n',mh p y=n':=⟨_,rfl⟩;have t0:=t.out y.b.toNat
  have u0:=L0.out y.b.toNat;obtain⟨z0,B1⟩:=v0 y m0.out;rw[o]at L;rw[q]at N t0 u0;rw[n]at z0 B1;have j0:=zc o;have k0:=zc q;have U:=zc n;have Z0:IntKind.i64.wrap (r+n')=r+n':=AQ _ (by omega);have O:((l3.length:Nat):Int)=(l.length:Int):=by rw[C0.out]
  have E2:=zc O;clear o q n V0 l1 U0 k1 O;obtain⟨S,C⟩:∃S:World->Prop,Hid (S=λw'=>w'.cell? ⟨Q,y.a.toNat,none⟩=some (.int .i64 p')/\w'.cell? ⟨g1,y.b.toNat,none⟩=some (.int .i64 r)/\w'.cell? ⟨ba,0,none⟩=some (.int .i64 y.a)/\w'.cell? ⟨ba,1,none⟩=some (.int .i64 y.b)/\w'.cell? ⟨ba,2,none⟩=some (.int .i64 y.cost)):=⟨_,zc rfl⟩;have d1:S wb.drew:=by rw[C.out];exact⟨L,N,e0,e1,e2⟩
  refine zV.begin (S:=S) 19 (by kernel_rfl) ?_;refine zV.take (i:=0) (v:=?_) rfl (by kernel_rfl) (λ_ _ _ h=>h) (Or.inl ⟨by rfl,?_⟩) (by assumption) ?_;rotate_left
  ·intro w B;rw[C.out]at B;obtain⟨D,E,F,G,H⟩:=B;go_simp;try with_reducible rfl
  simp only[Act.put,List.setIfInBounds_toArray];refine zV.take (i:=1) (v:=?_) rfl (by kernel_rfl) (λ_ _ _ h=>h) (Or.inl ⟨by rfl,?_⟩) (by assumption) ?_;rotate_left
  ·intro w B;rw[C.out]at B;obtain⟨D,E,F,G,H⟩:=B;go_simp;try with_reducible rfl
  simp only[Act.put];refine zV.take (i:=2) (v:=?_) rfl (by kernel_rfl) (λ_ _ _ h=>h) (Or.inl ⟨by rfl,?_⟩) (by assumption) ?_;rotate_left
  ·intro w B;rw[C.out]at B;obtain⟨D,E,F,G,H⟩:=B;go_simp;try with_reducible rfl
  simp only[Act.put];refine zV.take (i:=3) (v:=?_) rfl (by kernel_rfl) (λ_ _ _ h=>h) (Or.inl ⟨by rfl,?_⟩) (by assumption) ?_;rotate_left
  ·intro w B;rw[C.out]at B;obtain⟨D,E,F,G,H⟩:=B;go_simp;try with_reducible rfl
  simp only[Act.put];refine zV.take (i:=4) (v:=?_) rfl (by kernel_rfl) (λ_ _ _ h=>h) (Or.inl ⟨by rfl,?_⟩) (by assumption) ?_;rotate_left
  ·intro w B;rw[C.out]at B;obtain⟨D,E,F,G,H⟩:=B;go_simp;try with_reducible rfl
  simp only[Act.put];refine zV.take (i:=5) (v:=?_) rfl (by kernel_rfl) (λ_ _ _ h=>h) (Or.inl ⟨by rfl,?_⟩) (by assumption) ?_;rotate_left
  ·intro w B;rw[C.out]at B;obtain⟨D,E,F,G,H⟩:=B;go_simp;try with_reducible rfl
  simp only[Act.put];refine zV.take (i:=6) (v:=?_) rfl (by kernel_rfl) (λ_ _ _ h=>h) (Or.inl ⟨by rfl,?_⟩) (by assumption) ?_;rotate_left
  ·intro w B;rw[C.out]at B;obtain⟨D,E,F,G,H⟩:=B;go_simp;try with_reducible rfl
  simp only[Act.put];refine zV.take (i:=7) (v:=?_) rfl (by kernel_rfl) (λ_ _ _ h=>h) (Or.inl ⟨by rfl,?_⟩) (by assumption) ?_;rotate_left
  ·intro w B;rw[C.out]at B;obtain⟨D,E,F,G,H⟩:=B;go_simp;try with_reducible rfl
  simp only[Act.put];refine zV.take (i:=8) (v:=?_) rfl (by kernel_rfl) (λ_ _ _ h=>h) (Or.inl ⟨by rfl,?_⟩) (by assumption) ?_;rotate_left
  ·intro w B;rw[C.out]at B;obtain⟨D,E,F,G,H⟩:=B;go_simp;try with_reducible rfl
  simp only[Act.put];refine zV.take (i:=9) (v:=?_) rfl (by kernel_rfl) (λ_ _ _ h=>h) (Or.inl ⟨by rfl,?_⟩) (by assumption) ?_;rotate_left
  ·intro w B;rw[C.out]at B;obtain⟨D,E,F,G,H⟩:=B;go_simp;try with_reducible rfl
  simp only[Act.put];refine zV.take (i:=10) (v:=?_) rfl (by kernel_rfl) (λ_ _ _ h=>h) (Or.inl ⟨by rfl,?_⟩) (by assumption) ?_;rotate_left
  ·intro w B;rw[C.out]at B;obtain⟨D,E,F,G,H⟩:=B;go_simp;try with_reducible rfl
  simp only[Act.put];refine zV.take (i:=11) (v:=?_) rfl (by kernel_rfl) (λ_ _ _ h=>h) (Or.inl ⟨by rfl,?_⟩) (by assumption) ?_;rotate_left
  ·intro w B;rw[C.out]at B;obtain⟨D,E,F,G,H⟩:=B;go_simp;try with_reducible rfl
  simp only[Act.put];refine zV.take (i:=12) (v:=?_) rfl (by kernel_rfl) (λ_ _ _ h=>h) (Or.inl ⟨by rfl,?_⟩) (by assumption) ?_;rotate_left
  ·intro w B;rw[C.out]at B;obtain⟨D,E,F,G,H⟩:=B;go_simp;try with_reducible rfl
  simp only[Act.put];refine zV.take (i:=13) (v:=?_) rfl (by kernel_rfl) (λ_ _ _ h=>h) (Or.inl ⟨by rfl,?_⟩) (by assumption) ?_;rotate_left
  ·intro w B;rw[C.out]at B;obtain⟨D,E,F,G,H⟩:=B;go_simp;try with_reducible rfl
  simp only[Act.put];refine zV.take (i:=14) (v:=?_) rfl (by kernel_rfl) (λ_ _ _ h=>h) (Or.inl ⟨by rfl,?_⟩) (by assumption) ?_;rotate_left
  ·intro w B;rw[C.out]at B;obtain⟨D,E,F,G,H⟩:=B;go_simp;try with_reducible rfl
  simp only[Act.put];refine zV.one (i:=15) rfl (by kernel_rfl) λK hK=>?_;go_wp2_with (first|(refine(fE y p bp _ (zj.drew A0) h2 i2).mono ?_;rw[U.out];rintro e w5 ⟨rfl,R0⟩;have I:Below wb.heap.size wb w5:=za (by go_grown) R0));have P0:S w5:=by rw[C.out];exact Qu I ⟨L,N,e0,e1,e2⟩
  refine hK.out _ _ ⟨λ_=>P0,?_⟩;clear hK K
  try simp only[pS]
  refine zV.take (i:=16) (v:=?_) rfl (by kernel_rfl) (λ_ _ _ h=>h) (Or.inl ⟨by rfl,?_⟩) (by assumption) ?_;rotate_left
  ·intro w B;rw[C.out]at B;obtain⟨D,E,F,G,H⟩:=B;go_simp;try with_reducible rfl
  simp only[Act.put,List.setIfInBounds_toArray];refine zV.take (i:=17) (v:=?_) rfl (by kernel_rfl) (λ_ _ _ h=>h) (Or.inl ⟨by rfl,?_⟩) (by assumption) ?_;rotate_left
  ·intro w B;rw[C.out]at B;obtain⟨D,E,F,G,H⟩:=B;go_simp;try with_reducible rfl
  simp only[Act.put];refine zV.take (i:=18) (v:=?_) rfl (by kernel_rfl) (λ_ _ _ h=>h) (Or.inl ⟨by rfl,?_⟩) (by assumption) ?_;rotate_left
  ·intro w B;rw[C.out]at B;obtain⟨D,E,F,G,H⟩:=B;go_simp;try with_reducible rfl
  simp only[Act.put];have R2:=Q0.ext I;have F3:=n0.ext I;have D3:=Y1.ext I;have I2:=A0.ext I;have V2:=za S0 I;have u2:=I0.ext I;obtain⟨d,J,_,S1,_,X⟩:=R2.at_ (k:=y.a.toNat) (by rw[C0.out];exact q0);obtain rfl:Q=d:=by simpa using J
  have Q1:=X y.a.toNat;have P1:=zD I L;clear J X d1 P0 R0;refine zV.one (i:=19) rfl (by kernel_rfl) λK hK=>?_;obtain⟨P,m⟩:∃P,(if r+n'<p' then r+n' else p')=P:=⟨_,rfl⟩;(first|rw[m]|rw[show min p' (r+n')=P from by rw[<-m];split<;>omega]);have i0:=zc m;clear m;go_wp2_with fail;refine hK.out _ _ ⟨λh=>by omega,?_⟩;clear hK K;refine zV.done (by kernel_rfl) ?_ _;have H3:=ui.set R2 y.a.toNat P;have G3:=F3.far_ (p:=⟨Q,y.a.toNat,none⟩) R1 (.int .i64 P)
  have E3:=D3.far (p:=⟨Q,y.a.toNat,none⟩) j2 (.int .i64 P);have J2:=I2.far (p:=⟨Q,y.a.toNat,none⟩) U2 (.int .i64 P);have e3:=u2.far (p:=⟨Q,y.a.toNat,none⟩) (Ne.symm j1) (.int .i64 P);have W2:=V2.setCell (p:=⟨Q,y.a.toNat,none⟩) (by simp;omega) (.int .i64 P);have B2:Hid (iR (sA s (mh p) true) (gi l0) (gi l) (gi (l3.set y.a.toNat P)) (λz=>(km s (mh p) true j z∨z=rc (mh p) y)∨z=iU (mh p) y)):=zc (by
   have h:=A3.out;rw[vX (by rw[C0.out];exact q0)];simp only[iU]at h⊢;rw[j0.out,k0.out,U.out,QF i0.out]at h;rw[U.out];exact h)
  go_wp2_with fail;go_roundw
  case rel=>exact⟨j+1,l3.set y.a.toNat P,by omega,by go_num,zc ⟨by rw[List.length_set];exact C0.out,B2.out.mono (WO HY.out)⟩,H3,G3,E3,J2,W2⟩
  case measure=>simp[intOf];omega
