import Derived.Test.YtjcimdpldlamfaaGreatDoorBd9f963e7533
namespace Go.Proofs.YtjcimdpldlamfaaGreatDoor
set_option maxRecDepth 100000
set_option maxHeartbeats 16000000
open Go.RowKit Go.Shelf
theorem uf{n:Int}{b:Bool}(h:vp n=b)(w:World):Calls Tryz.prog 178 #[.int .i64 n] w λe F=>e=.returned (.bool b)/\w=F:=by
 subst h
 by_cases A:n < -1000000000
 ·have C:Hid (vp n=true):=zc (af (.inl A))
  rw[C.out]
  go_enter Tryz.func178,Tryz.ntmps178
  go_wp2_with fail;go_ret;exact⟨rfl,rfl⟩
 by_cases B:1000000000<n
 ·have C:Hid (vp n=true):=zc (af (.inr B))
  have D:decide (n < -1000000000)=false:=by simpa using A
  have E:decide (n>1000000000)=true:=by simpa using B
  rw[C.out];clear A B
  go_enter Tryz.func178,Tryz.ntmps178
  go_wp2_with fail;go_ret;exact⟨rfl,rfl⟩
 have C:Hid (vp n=false):=zc (Vf A B);have D:decide (n < -1000000000)=false:=by simpa using A
 have E:decide (n>1000000000)=false:=by simpa using B
 rw[C.out];clear A B
 go_enter Tryz.func178,Tryz.ntmps178
 go_wp2_with fail;go_ret;exact⟨rfl,rfl⟩
def mK(x:vt):List Value:=[.int .i64 x.f,.int .i64 x.t,.int .i64 x.s,.bool x.has,.int .i64 x.v]
theorem bZ(x:vt):(mK x).length=5:=rfl
def Ys(w:World)(b o:Nat)(x:vt):Prop:=(zJ w b o (.int .i64 x.f)/\zJ w b (o+1) (.int .i64 x.t)/\zJ w b (o+2) (.int .i64 x.s)/\zJ w b (o+3) (.bool x.has)/\zJ w b (o+4) (.int .i64 x.v))/\zM x.f/\zM x.t/\zM x.s/\zM x.v
theorem Ys.stable:rT Ys:=λ_ _ _ _ _ hb hlt h=>⟨⟨h.1.1.ext hb hlt,h.1.2.1.ext hb hlt,h.1.2.2.1.ext hb hlt,h.1.2.2.2.1.ext hb hlt,h.1.2.2.2.2.ext hb hlt⟩,h.2⟩
structure xB(w:World)(A:Option Addr)(c:Nat)(l:List vt):Prop where
 lc:l.length<=c
 cm:c<=maxLen
 sl:zU Ys 5 w A l
theorem xB.ext{w w':World}{A:Option Addr}{c:Nat}{l:List vt}(h:xB w A c l)(hb:Below w.heap.size w w'):xB w' A c l:=⟨h.lc,h.cm,h.sl.ext Ys.stable hb⟩
theorem xB.len{w:World}{A:Option Addr}{c:Nat}{l:List vt}(h:xB w A c l):l.length<=9223372036854775807:=Ai h.lc h.cm
theorem xB.get{w:World}{A:Option Addr}{c k:Nat}{l:List vt}(h:xB w A c l){x:vt}(K:l[k]?=some x):∃b B,A=some ⟨b,B,none⟩/\b<w.heap.size/\w.cell? ⟨b,B+k*5,none⟩=some (.int .i64 x.f)/\w.cell? ⟨b,B+k*5+1,none⟩=some (.int .i64 x.t)/\w.cell? ⟨b,B+k*5+2,none⟩=some (.int .i64 x.s)/\w.cell? ⟨b,B+k*5+3,none⟩=some (.bool x.has)/\w.cell? ⟨b,B+k*5+4,none⟩=some (.int .i64 x.v):=by
 obtain⟨b,B,J⟩:=h.sl;obtain⟨C,D,⟨E,F,G,H,I⟩,_⟩:=J k x K;exact⟨b,B,C,D,E,F,G,H,I⟩
theorem xB.nil{w:World}{A:Option Addr}:xB w A 0 []:=⟨Ay _,AA _,zU.nil⟩
theorem SH{w:World}{base:Nat}{v:Value}{l:List vt}(h:Own mK 5 w base 221 v l)(hi:∀x,x∈l->zM x.f/\zM x.t/\zM x.s/\zM x.v):∃A c,v=.slice A l.length c/\xB w A c l:=by
 obtain⟨A,c,D,C⟩:=Own.slAt (R:=Ys) (enc:=mK) (λ_=>rfl) (λx E b o B=>⟨⟨by have:=B 0 _ rfl;simpa using this,by have:=B 1 _ rfl;simpa using this,by have:=B 2 _ rfl;simpa using this,by have:=B 3 _ rfl;simpa using this,by have:=B 4 _ rfl;simpa using this⟩,hi x E⟩) h;subst D;exact⟨A,c,rfl,h.room.1,h.room.2,C⟩
theorem TV:(Tryz.prog.info? 221).map (λi=>(i.zero,i.size,i.bytes))=some (some (.agg #[.int .i64 0,.int .i64 0,.int .i64 0,.bool false,.int .i64 0]),5,40):=by kernel_rfl
theorem Vw:∃i,Tryz.prog.info? 221=some i/\i.zero=some (.agg #[.int .i64 0,.int .i64 0,.int .i64 0,.bool false,.int .i64 0])/\i.size=5/\i.bytes=40:=by
 obtain⟨C,B,A⟩:=Option.map_eq_some_iff.1 TV;simp only[Prod.mk.injEq]at A;exact⟨C,B,A.1,A.2.1,A.2.2⟩
theorem nE{a b c d:Int}{e:Bool}:∀u∈(#[.int .i64 a,.int .i64 b,.int .i64 c,.bool e,.int .i64 d]:Array Value).toList,u.oneCell'=true:=by simp[Value.oneCell']
abbrev pk(a c:Int)(w:List Int)(o:Option Int):yT fS:=⟨a,c,(w,o)⟩
def mw(l:List zg)(k:Int)(p:yT fS):Bool:=vp (rP l k p.v.1)
theorem Wz{l:List zg}{k t:Int}(E:mF l)(J:l.length<=200)(H:1<=k/\k<=3):-1000000000000<=rP l k (yQ l t)/\rP l k (yQ l t)<=1000000000000:=by
 have A:∀i,i∈yQ l t->0<=i/\i<l.length:=λi A=>by have:=se A;exact⟨this.1,this.2.1⟩
 have B:=gU (l:=l) (t:=t) (n:=l.length)
 cases C:yQ l t with
 |nil=>simp[rP]
 |cons i is=>
  rw[C]at A;unfold yQ at C;rw[C]at B;obtain⟨x,F⟩:=zl (show i.toNat<l.length by have:=A i (by simp);omega);have D:cP l i=x.v:=by unfold cP;rw[F];rfl
  have I:=wQ.1 (E x (Ad F)).1.2.2;have:=jp E H is (cP l i) 1000000000 (λj G=>A j (List.mem_cons_of_mem _ G)) (by rw[D];omega) (by omega);simp only[rP,Ap]at B⊢;omega
theorem jZ{w:World}{A:Option Addr}{c g j:Nat}{l:List Int}{u:Value}(h:zI w A c l)(B:∀b,A=some b->b.block≠g):zI (w.setCell ⟨g,j,none⟩ u) A c l:=by
 obtain⟨x,C,H⟩:=h.sl;refine⟨h.lc,h.cm,x,C,λi y I=>?_⟩;obtain⟨D,E,F,G⟩:=H i y I;exact⟨D,by simpa using E,(World.cell?_of_block (w:=w) (Below.heap_setCell w ⟨g,j,none⟩ u x (B _ D))).trans F,G⟩
theorem VB{w:World}{A B:Option Addr}{c n d g:Nat}{o:Option Int}{D:List Int}{i:Nat}{x y:Int}(h:zI w A c D)(K:zj w g 241 (gD B n d o))(L:D[i]?=some x)(M:D[i+1]?=some y):∀b,A=some b->b.block≠g:=by
 rintro b rfl I;obtain⟨N,E,H,_,C⟩:=h.get L;obtain⟨O,J,F,_,G⟩:=h.get M;injection H with H;injection F with F;subst H;simp only[Addr.mk.injEq]at F;obtain⟨rfl,rfl,_⟩:=F;simp only at I;subst I;rw[K.cell]at C G;unfold gD at C G
 match hk:E+i,C with
 |0,C=>simp[]at C
 |1,C=>rw[show E+(i+1)=2 by omega]at G;simp at G
 |2,C=>simp[]at C
 |m+3,C=>simp[]at C
theorem Own.set3{α:Type}{enc:α->List Value}{k:Nat}{w:World}{base g:Nat}{e t:TypeId}{v x y z p q r:Value}{l:List α}(h:Own enc k w base e v l)(hB:zj w g t #[x,y,z])(ht:t≠e):Own enc k (((w.setCell ⟨g,0,none⟩ p).setCell ⟨g,1,none⟩ q).setCell ⟨g,2,none⟩ r) base e v l:=
 ((h.set_far hB ht 0 p).set_far (hB.set_ 0 p) ht 1 q).set_far ((hB.set_ 0 p).set_ 1 q) ht 2 r
theorem zj.set3{w:World}{g:Nat}{t:TypeId}{x y z p q r:Value}(A:zj w g t #[x,y,z]):zj (((w.setCell ⟨g,0,none⟩ p).setCell ⟨g,1,none⟩ q).setCell ⟨g,2,none⟩ r) g t #[p,q,r]:=by
 have h:=((A.set_ 0 p).set_ 1 q).set_ 2 r;simpa using h
theorem qB{w:World}{A:Option Addr}{c g:Nat}{l:List Int}{p q r:Value}(h:zI w A c l)(hne:∀b,A=some b->b.block≠g):zI (((w.setCell ⟨g,0,none⟩ p).setCell ⟨g,1,none⟩ q).setCell ⟨g,2,none⟩ r) A c l:=jZ (jZ (jZ h hne) hne) hne
theorem nL{w F:World}{A:Option Addr}{c B:Nat}{l:List Int}(h:zI w A c l)(E:Below B w F)(J:∀b,A=some b->b.block<B):zI F A c l:=by
 obtain⟨x,C,K⟩:=h.sl;refine⟨h.lc,h.cm,x,C,λi y L=>?_⟩;obtain⟨D,G,H,I⟩:=K i y L;exact⟨D,AV G E.size,(E.cell (p:=⟨x,C+i*1,none⟩) (J ⟨x,C,none⟩ D)).trans H,I⟩
theorem re{B:Nat}{a w:World}{g:Nat}{p q r:Value}(h:Below B a w)(hg:B<=g):Below B a (((w.setCell ⟨g,0,none⟩ p).setCell ⟨g,1,none⟩ q).setCell ⟨g,2,none⟩ r):=((h.setCell (p:=⟨g,0,none⟩) hg p).setCell (p:=⟨g,1,none⟩) hg q).setCell (p:=⟨g,2,none⟩) hg r
theorem qD{w:World}{g:Nat}{p q r:Value}:(((w.setCell ⟨g,0,none⟩ p).setCell ⟨g,1,none⟩ q).setCell ⟨g,2,none⟩ r).heap.size=w.heap.size:=by simp
def Rq(state l:List zg)(k:Int)(w:World)(e:Ending)(w':World):Prop:=∃U A c,Hid (vw U/\∀t,ko U t=sd state l t)/\e=.returned (.tuple #[.slice A U.length c,.bool (U.any (mw l k))])/\xB w' A c (U.map (yP l k))/\Below w.heap.size w w'/\U.length<=1000
theorem ab{l:List zg}{D S:List Int}(hm:∀x,x∈D↔x∈S)(hS:∀x,x∈yF l->x∈S):∀x,x∈l->x.f∈D/\x.t∈D:=λx hx=>⟨(hm _).2 (hS _ (sp.2 ⟨x,hx,.inl rfl⟩)),(hm _).2 (hS _ (sp.2 ⟨x,hx,.inr rfl⟩))⟩
theorem bJ(A B:Option Addr)(c d:Nat)(F l:List zg)(E:Int)(w:World)(hA:PiecesAt w A c F)(hB:PiecesAt w B d l)(j2:yd F=0)(Y2:vZ l=0)(hk:1<=E/\E<=3) :
  Calls Tryz.prog 168 #[.slice A F.length c,.slice B l.length d,.int .i64 E] w (Rq F l E w):=by
 obtain⟨i0,hi,Y1,y0,Z1⟩:=Vw;have m1:=hA.len;have m2:=hB.len;have HS:=zc (wI j2);have HM:=zc (fF Y2);have H4:F.length<=200:=by have:=HS.out.1;omega
 have M3:=HM.out.1;have HA:=zc hA;have HB:=zc hB;have HK:=zc hk;clear hA hB hk j2 Y2
 go_enter Tryz.func168,Tryz.ntmps168
 go_wp2_with fail;have n:=zj.new w 241 (gD none 0 0 none);have I:=ze (Ae _ w) (Obj.cells (gD none 0 0 none) 241);refine(bL A B c d F l _ (HA.out.ext I) (HB.out.ext I) (by omega) (by omega)).mono ?_;rintro e u ⟨A1,c1,D,HD,rfl,G0,J1⟩;have n:=n.ext J1;have J1:=za I J1;have A4:w.heap.size<u.heap.size:=n.lt;have y3:D.length<=1000:=by
  have:=HD.out.2.2;rw[Ag,xO,xO]at this;omega
 have x3:=G0.len;have HT:Hid (yA D none (sd F l)):=zc (Sj HD.out.1 (ab HD.out.2.1 λ_ h=>List.mem_append_right _ h) (ab HD.out.2.1 λ_ h=>List.mem_append_left _ h));have J2:Hid (∀k x,D[k]?=some x->zM x):=zc λk x hx=>G0.i64 x (Ad hx);clear I;have y2:=zc G0;go_wp2_with fail
 go_loopw [8,10,12] (λu8 R3 T3 wr=>∃(i:Nat) (out:List (yT fS)) (A9:Option Addr) (n9 c9:Nat) (o9:Option Int) (lw:List Int) (bl:Nat),T3=.int .i64 i/\R3=.bool (out.any (mw l E))/\Hid (i<D.length∨(D=[]/\i=0/\out=[]))/\Hid (qG (sd F l) D i out)/\Hid (pW F l D i lw o9)/\lw.length=n9 /\
  Own mK 5 wr u.heap.size 221 u8 (out.map (yP l E))/\zj wr w.heap.size 241 (gD A9 n9 c9 o9)/\Own yK 1 wr bl 3 (.slice A9 n9 c9) lw/\zI wr A1 c1 D/\Below w.heap.size w wr/\u.heap.size<=wr.heap.size) (λ_ _ x _=>D.length-(intOf x).toNat)
 case atStart=>exact⟨0,[],none,0,0,none,[],0,rfl,rfl,zc (by cases D with
  |nil=>exact .inr ⟨rfl,rfl,rfl⟩
  |cons y r=>exact .inl (by simp)),zc qG.start,zc pW.start,rfl,Own.nil,n,Own.nil,G0,J1,Ay _⟩
 clear n G0 J1;obtain⟨i,out,A9,n9,c9,o9,lw,bl,rfl,rfl,H0,j0,HL,W1,W,n,V1,G0,hb,Y⟩:=hrel;have C4:i<=D.length:=by rcases H0.out with h|⟨h,h2,_⟩ <;> omega
 have N3:=j0.out.2.1
 by_cases p0:i+1<D.length
 case neg=>
  have HF:Hid (vw out/\∀t,ko out t=sd F l t):=zc (j0.out.fin HD.out.1 HT.out (by omega) (H0.out.imp id λh=>⟨h.1,h.2.2⟩));obtain⟨Ao,co,rfl,G3⟩:=SH W (λy hy=>by
   obtain⟨p,hp,rfl⟩:=AD.1 hy;have h1:=j0.out.2.2 p hp;have h2:=HF.out.1.2 p hp;have h3:=HF.out.2 p.f;rw[HF.out.1.mem_at hp (Int.le_refl _) h2]at h3;unfold sd at h3
   split at h3
   ·simp at h3
   have e3:p.v=(yQ l p.f,xN F p.f):=by simpa using h3
   have I4:=Wz (t:=p.f) HM.out.2 HM.out.1 HK.out;refine⟨h1.1,h1.2,?_,?_⟩
   ·show zM (p.v.2.getD 0)
    rw[e3]
    cases hc:xN F p.f with
    |none=>simp[zM]
    |some v=>exact un (HS.out.2.vals hc)
   show zM (rP l E p.v.1);rw[e3];unfold zM;simp only;omega)
  rw[Az];clear W V1 n G0;go_wp2_with fail;go_ret2;exact⟨out,Ao,co,HF,rfl,G3,hb,by omega⟩
 obtain⟨a,ha⟩:=zl (show i<D.length by omega);obtain⟨e,he⟩:=zl p0;have S1:=zc ha;have U1:=zc he;have j1:=VB G0 n ha he;obtain⟨b,G,rfl,I,x0⟩:=G0.get ha;obtain⟨b',n2,e',_,x1⟩:=G0.get he;obtain⟨rfl,rfl⟩:b=b'/\G=n2:=by simpa using e'
 have w0:b≠w.heap.size:=j1 _ rfl;have H:b<u.heap.size:=by
  obtain⟨b2,o2,e2,h2,_⟩:=y2.out.get ha;obtain⟨rfl,_⟩:b=b2/\G=o2:=by simpa using e2
  exact h2
 have K2:=zc (J2.out i a ha);have q1:=zc (J2.out (i+1) e he);have b3:i<D.length:=by omega
 have d3:(i:Int)+1<(D.length:Int):=by omega
 have B4:(0:Int)<=(i:Int)+1:=by omega
 have D4:IntKind.i64.wrap ((i:Int)+1)=(i:Int)+1:=AQ _ (by omega);have k0:Hid (pW F l D (i+1) (yQ l a) (xN F a)):=zc (pW.next ha);obtain⟨j,D2⟩:∃j,yQ l a=j:=⟨_,rfl⟩;obtain⟨om,A2⟩:∃om,xN F a=om:=⟨_,rfl⟩;have F0:=zc D2;have D1:=zc A2;have G1:=Ux A B c d F l a wr (HA.out.ext hb) (HB.out.ext hb) (by omega);unfold PY at G1;rw[D2,A2]at G1 k0
 obtain⟨nm,U⟩:∃nm,j.length=nm:=⟨_,rfl⟩;rw[U]at G1;clear ha he e' D2 A2 j1;go_wp2_with fail;refine G1.mono ?_;rintro ee Z ⟨Am,cm,bm,rfl,R,I3,P0⟩;have W:=W.ext P0;have n:=n.ext P0;have V1:=V1.ext P0;have T:=G0.ext P0;have m0:=za hb P0;have Y:=Ai Y P0.size;have x0:=(P0.cell (p:=⟨b,G+i,none⟩) I).trans x0;have x1:=(P0.cell (p:=⟨b,G+(i+1),none⟩) I).trans x1
 have I:b<Z.heap.size:=AV I P0.size;have X2:nm<=200:=by rw[<-U,<-F0.out];exact Ai gU M3
 clear G1 hb P0 G0 I3;obtain⟨s,C2⟩:∃x,om.getD 0=x:=⟨_,rfl⟩;obtain⟨o,B2⟩:∃x,om.isSome=x:=⟨_,rfl⟩;obtain⟨Q3,n1⟩:∃x,o9.getD 0=x:=⟨_,rfl⟩;obtain⟨P3,l1⟩:∃x,o9.isSome=x:=⟨_,rfl⟩;have O0:Hid (gD Am nm cm om=#[.slice Am nm cm,.int .i64 s,.bool o]):=zc (by unfold gD;rw[C2,B2]);have d1:Hid (gD A9 n9 c9 o9=#[.slice A9 n9 c9,.int .i64 Q3,.bool P3]):=zc (by unfold gD;rw[n1,l1])
 have O2:=zc C2;have N2:=zc B2;unfold gE;rw[O0.out];rw[d1.out]at n;clear C2 B2 n1 l1;have Q:=zj.new Z 241 #[.slice Am nm cm,.int .i64 s,.bool o];have J:=ze (Ae _ Z) (Obj.cells #[.slice Am nm cm,.int .i64 s,.bool o] 241);have I0:=n.alloc (Obj.cells #[.slice Am nm cm,.int .i64 s,.bool o] 241);have X0:(Z.alloc (Obj.cells #[.slice Am nm cm,.int .i64 s,.bool o] 241)).cell? ⟨b,G+i,none⟩=some (.int .i64 a):=(J.cell (p:=⟨b,G+i,none⟩) I).trans x0
 have X1:(Z.alloc (Obj.cells #[.slice Am nm cm,.int .i64 s,.bool o] 241)).cell? ⟨b,G+(i+1),none⟩=some (.int .i64 e):=(J.cell (p:=⟨b,G+(i+1),none⟩) I).trans x1;obtain⟨f1,f2,f3⟩:=I0.facts;obtain⟨g1,g2,g3⟩:=Q.facts;clear x0 x1
 by_cases s0:j=[]
 case pos=>
  have c2:nm=0:=by rw[<-U,s0];rfl
  have J0:=zc (Re j0.out HD.out.1 HT.out S1.out U1.out (by rw[F0.out];exact s0));subst c2;go_wp2_with fail;go_roundw
  case rel=>
   refine⟨i+1,out,Am,0,cm,om,j,bm,by go_num,rfl,zc (.inl p0),J0,k0,U,?_,?_,?_,?_,?_,?_⟩
   ·exact(W.alloc _).set3 I0 (by decide)
   ·rw[O0.out];exact I0.set3
   ·exact(R.alloc _).set3 I0 (by decide)
   ·exact qB (T.ext J) λb' C=>by injection C with C;rw[<-C];exact w0
   ·exact re (ze m0 _) (Ay _)
   rw[qD];simp;omega
  case measure=>simp[intOf];omega
 case neg=>
 have k3:((nm:Int)== 0)=false:=by
  have:nm≠0:=λh=>s0 (List.eq_nil_of_length_eq_zero (by rw[U];exact h));simp;omega
 have F1:Hid (zI Z Am cm j):=zc (by
  have h:=R;rw[<-U]at h;obtain⟨Ax,cx,ex,hx⟩:=rM h (λx hx=>by rw[<-F0.out]at hx;exact Zg (by omega) x hx);have ex:Am=Ax/\cm=cx:=by simpa using ex
  obtain⟨rfl,rfl⟩:=ex;exact hx)
 by_cases L1:lw=[]
 case pos=>
  have a2:n9=0:=by rw[<-W1,L1];rfl
  have M1:lw=[]∨¬(lw=j/\o9=om):=.inl L1;subst a2;go_wp2_with fail;obtain⟨w4,k2⟩:∃x,x=(Z.alloc (Obj.cells #[.slice Am nm cm,.int .i64 s,.bool o] 241)):=⟨_,rfl⟩;rw[<-k2]at X0 X1 I0 Q J⊢;have l2:Z.heap.size<w4.heap.size:=Q.lt;have s1:=F1.out.ext J;have C0:=za m0 J;have W:=W.ext J;have R:=R.ext J;have T:=T.ext J;have n:=I0;have I:b<w4.heap.size:=by omega
  have Y:u.heap.size<=w4.heap.size:=by omega
  clear k2 f1 f2 f3 g1 g2 g3 I0 J m0;have J0:=zc (aY j0.out HD.out.1 HT.out S1.out U1.out K2.out q1.out HL.out (by rw[F0.out];exact s0) (by rw[F0.out,D1.out];exact M1));rw[F0.out,D1.out]at J0;obtain⟨vv,r0⟩:∃vv,rP l E j=vv:=⟨_,rfl⟩;have E1:=zc r0;have S:=kL Am B cm d nm om j l E w4 s1 U s0 (λi hi=>by rw[<-F0.out]at hi;have:=se hi;exact⟨this.1,this.2.1⟩) (HB.out.ext C0) HM.out.2 HM.out.1 (by rw[U];exact X2) HK.out
  rw[r0]at S;unfold gE at S;rw[O0.out]at S;clear M1 r0;refine S.mono ?_;rintro ee K ⟨rfl,L⟩;have W:=W.ext L;have n:=n.ext L;have Q:=Q.ext L;have R:=R.ext L;have T:=T.ext L;have X0:=(L.cell (p:=⟨b,G+i,none⟩) I).trans X0;have X1:=(L.cell (p:=⟨b,G+(i+1),none⟩) I).trans X1;have I:b<K.heap.size:=AV I L.size;have C0:=za C0 L
  have Y:=Ai Y L.size;have U0:=Q.lt;clear S L;obtain⟨fb,o0⟩:∃fb,vp vv=fb:=⟨_,rfl⟩;have I1:=λw=>uf o0 w;obtain⟨qa,Q0⟩:∃qa,out.any (mw l E)=qa:=⟨_,rfl⟩;have b0:Hid ((out++[pk a e j om]).any (mw l E)=(qa || fb)):=zc (by rw[List.any_append,Q0];simp[mw,pk,E1.out,o0]);have p1:Hid (yP l E (pk a e j om)=⟨a,e,s,o,vv⟩):=zc (by unfold yP pk;simp only[E1.out,O2.out,N2.out])
  have K0:Hid ((out++[pk a e j om]).map (yP l E)=out.map (yP l E)++[⟨a,e,s,o,vv⟩]):=zc (by rw[List.map_append,List.map_cons,List.map_nil,p1.out]);have n0:(out.map (yP l E)).length+1<=1000000:=by rw[Az];omega
  obtain⟨oc,N1⟩:∃oc,oc=out.map (yP l E):=⟨_,rfl⟩;rw[<-N1]at W K0 n0;rw[Q0];clear Q0 o0 N1
  cases qa
  case true=>
   clear I1;obtain⟨Ao,co,rfl⟩:=W.form;obtain⟨f1,f2,f3⟩:=n.facts;obtain⟨g1,g2,g3⟩:=Q.facts;go_wp2_with fail;have S0:K.drew.cell? ⟨b,G+i,none⟩=some (.int .i64 a)/\K.drew.cell? ⟨b,G+(i+1),none⟩=some (.int .i64 e)/\K.drew.cell? ⟨Z.heap.size,1,none⟩=some (.int .i64 s)/\K.drew.cell? ⟨Z.heap.size,2,none⟩=some (.bool o):=⟨X0,X1,Q.cell 1,Q.cell 2⟩;have l0:=W.drew;have L0:=R.drew;have g0:=Q.drew
   have h0:=n.drew;have P:u.heap.size<=K.drew.heap.size:=Y;clear f1 f2 f3 g1 g2 g3
   go_region_held_law (λw'=>w'.cell? ⟨b,G+i,none⟩=some (.int .i64 a)/\w'.cell? ⟨b,G+(i+1),none⟩=some (.int .i64 e)/\w'.cell? ⟨Z.heap.size,1,none⟩=some (.int .i64 s)/\w'.cell? ⟨Z.heap.size,2,none⟩=some (.bool o))
    (first|exact S0|(exact ZO (B:=K.drew.heap.size) ((Ae _ K.drew).alloc (Ay _) _) I I U0 U0 S0)|(exact⟨(mW (B:=u.heap.size) (((Ae _ K.drew).alloc P _).trans M) H H ⟨S0.1,S0.2.1⟩).1,(mW (B:=u.heap.size) (((Ae _ K.drew).alloc P _).trans M) H H ⟨S0.1,S0.2.1⟩).2,V.cell 1,V.cell 2⟩))
    (first|(refine tW (enc:=mK) rfl (.tmp 66) (.tmp 82) 217 rfl u.heap.size 221 i0 _ 5 40 Tryz.underlying217 hi Y1 y0 Z1 rfl (by decide) _ oc [⟨a,e,s,o,vv⟩] 1 rfl (by decide) rfl (l0.alloc _) #[.int .i64 a,.int .i64 e,.int .i64 s,.bool o,.int .i64 vv] rfl _ (zj.new K.drew 221 _) rfl rfl nE n0 (by decide) (by simp;omega) ?_;intro v' w8 X M N;have V:=N _ _ _ (g0.alloc _) (by decide);have O:=N _ _ _ (h0.alloc _) (by decide)))
   obtain⟨f1,f2,f3⟩:=O.facts;obtain⟨g1,g2,g3⟩:=V.facts;go_wp2_with fail;go_roundw
   case rel=>
    have M0:Below w.heap.size w w8:=(zi C0).trans ((((Ae _ K.drew).alloc P _).trans M).mono (by omega));refine⟨i+1,out++[pk a e j om],Am,nm,cm,om,j,bm,by go_num,by rw[b0.out];simp,zc (.inl p0),J0,k0,U,?_,?_,?_,?_,?_,?_⟩
    ·rw[K0.out];exact X.set3 O (by decide)
    ·rw[O0.out];exact O.set3
    ·exact(Own.keep L0 λbb cs h=>N _ _ _ (h.alloc _) (by decide)).set3 O (by decide)
    ·exact qB (nL T (((zi (Ae u.heap.size K)).alloc P _).trans M) λb' C=>by injection C with C;rw[<-C];exact H) λb' C=>by injection C with C;rw[<-C];exact w0
    ·exact re M0 (Ay _)
    rw[qD];have:=M.size;simp at this;omega
   case measure=>simp[intOf];omega
  case false=>
   go_wp2_with (go_at_call 178;refine(I1 _).mono ?_;rintro ee w6 ⟨rfl,rfl⟩);obtain⟨Ao,co,rfl⟩:=W.form;obtain⟨f1,f2,f3⟩:=n.facts;obtain⟨g1,g2,g3⟩:=Q.facts;have S0:K.drew.cell? ⟨b,G+i,none⟩=some (.int .i64 a)/\K.drew.cell? ⟨b,G+(i+1),none⟩=some (.int .i64 e)/\K.drew.cell? ⟨Z.heap.size,1,none⟩=some (.int .i64 s)/\K.drew.cell? ⟨Z.heap.size,2,none⟩=some (.bool o):=⟨X0,X1,Q.cell 1,Q.cell 2⟩
   have l0:=W.drew;have L0:=R.drew;have g0:=Q.drew;have h0:=n.drew;have P:u.heap.size<=K.drew.heap.size:=Y;clear f1 f2 f3 g1 g2 g3
   go_region_held_law (λw'=>w'.cell? ⟨b,G+i,none⟩=some (.int .i64 a)/\w'.cell? ⟨b,G+(i+1),none⟩=some (.int .i64 e)/\w'.cell? ⟨Z.heap.size,1,none⟩=some (.int .i64 s)/\w'.cell? ⟨Z.heap.size,2,none⟩=some (.bool o))
    (first|exact S0|(exact ZO (B:=K.drew.heap.size) ((Ae _ K.drew).alloc (Ay _) _) I I U0 U0 S0)|(exact⟨(mW (B:=u.heap.size) (((Ae _ K.drew).alloc P _).trans M) H H ⟨S0.1,S0.2.1⟩).1,(mW (B:=u.heap.size) (((Ae _ K.drew).alloc P _).trans M) H H ⟨S0.1,S0.2.1⟩).2,V.cell 1,V.cell 2⟩))
    (first|(refine tW (enc:=mK) rfl (.tmp 66) (.tmp 82) 217 rfl u.heap.size 221 i0 _ 5 40 Tryz.underlying217 hi Y1 y0 Z1 rfl (by decide) _ oc [⟨a,e,s,o,vv⟩] 1 rfl (by decide) rfl (l0.alloc _) #[.int .i64 a,.int .i64 e,.int .i64 s,.bool o,.int .i64 vv] rfl _ (zj.new K.drew 221 _) rfl rfl nE n0 (by decide) (by simp;omega) ?_;intro v' w8 X M N;have V:=N _ _ _ (g0.alloc _) (by decide);have O:=N _ _ _ (h0.alloc _) (by decide)))
   obtain⟨f1,f2,f3⟩:=O.facts;obtain⟨g1,g2,g3⟩:=V.facts;go_wp2_with fail;go_roundw
   case rel=>
    have M0:Below w.heap.size w w8:=(zi C0).trans ((((Ae _ K.drew).alloc P _).trans M).mono (by omega));refine⟨i+1,out++[pk a e j om],Am,nm,cm,om,j,bm,by go_num,by rw[b0.out];simp,zc (.inl p0),J0,k0,U,?_,?_,?_,?_,?_,?_⟩
    ·rw[K0.out];exact X.set3 O (by decide)
    ·rw[O0.out];exact O.set3
    ·exact(Own.keep L0 λbb cs h=>N _ _ _ (h.alloc _) (by decide)).set3 O (by decide)
    ·exact qB (nL T (((zi (Ae u.heap.size K)).alloc P _).trans M) λb' C=>by injection C with C;rw[<-C];exact H) λb' C=>by injection C with C;rw[<-C];exact w0
    ·exact re M0 (Ay _)
    rw[qD];have:=M.size;simp at this;omega
   case measure=>simp[intOf];omega
 case neg=>
 have j3:0<n9:=by
  have:n9≠0:=λh=>L1 (List.eq_nil_of_length_eq_zero (by rw[W1];exact h));omega
 have i3:decide ((n9:Int)>0)=true:=by simp;omega
 have Q2:Hid (zI Z A9 c9 lw):=zc (by
  have h:=V1;rw[<-W1]at h;obtain⟨Ax,cx,ex,hx⟩:=rM h (λx hx=>by
   have hi:i≠0:=λh=>L1 (HL.out.1 h);obtain⟨p,hp⟩:=zl (show i-1<D.length by omega);have:=(HL.out.2 (i-1) p (by omega) hp).1;rw[this]at hx;exact Zg (by omega) x hx)
  have ex:A9=Ax/\c9=cx:=by simpa using ex
  obtain⟨rfl,rfl⟩:=ex;exact hx)
 have c0:=Yn A9 Am c9 cm n9 nm o9 om lw j (Z.alloc (Obj.cells #[.slice Am nm cm,.int .i64 s,.bool o] 241)) (Q2.out.ext J) (F1.out.ext J) W1 U;unfold gE at c0;rw[O0.out,d1.out]at c0
 by_cases q0:lw=j/\o9=om
 case neg=>
  rw[decide_eq_false q0]at c0;have M1:lw=[]∨¬(lw=j/\o9=om):=.inr q0;clear q0;go_wp2_with fail;refine c0.mono ?_;rintro ee w4 ⟨rfl,B0⟩;have J:=za J B0;have X0:=(B0.cell (p:=⟨b,G+i,none⟩) (by simp;omega)).trans X0;have X1:=(B0.cell (p:=⟨b,G+(i+1),none⟩) (by simp;omega)).trans X1;have n:=I0.ext B0;have Q:=Q.ext B0;have l2:Z.heap.size<w4.heap.size:=Q.lt;have s1:=F1.out.ext J
  have C0:=za m0 J;have W:=W.ext J;have R:=R.ext J;have T:=T.ext J;have I:b<w4.heap.size:=by omega
  have Y:u.heap.size<=w4.heap.size:=by omega
  clear c0 f1 f2 f3 g1 g2 g3 I0 J m0 B0;obtain⟨g1,g2,g3⟩:=Q.facts;go_wp2_with fail;clear g1 g2 g3;have J0:=zc (aY j0.out HD.out.1 HT.out S1.out U1.out K2.out q1.out HL.out (by rw[F0.out];exact s0) (by rw[F0.out,D1.out];exact M1));rw[F0.out,D1.out]at J0;obtain⟨vv,r0⟩:∃vv,rP l E j=vv:=⟨_,rfl⟩;have E1:=zc r0;have S:=kL Am B cm d nm om j l E w4 s1 U s0 (λi hi=>by rw[<-F0.out]at hi;have:=se hi;exact⟨this.1,this.2.1⟩) (HB.out.ext C0) HM.out.2 HM.out.1 (by rw[U];exact X2) HK.out
  rw[r0]at S;unfold gE at S;rw[O0.out]at S;clear M1 r0;refine S.mono ?_;rintro ee K ⟨rfl,L⟩;have W:=W.ext L;have n:=n.ext L;have Q:=Q.ext L;have R:=R.ext L;have T:=T.ext L;have X0:=(L.cell (p:=⟨b,G+i,none⟩) I).trans X0;have X1:=(L.cell (p:=⟨b,G+(i+1),none⟩) I).trans X1;have I:b<K.heap.size:=AV I L.size;have C0:=za C0 L
  have Y:=Ai Y L.size;have U0:=Q.lt;clear S L;obtain⟨fb,o0⟩:∃fb,vp vv=fb:=⟨_,rfl⟩;have I1:=λw=>uf o0 w;obtain⟨qa,Q0⟩:∃qa,out.any (mw l E)=qa:=⟨_,rfl⟩;have b0:Hid ((out++[pk a e j om]).any (mw l E)=(qa || fb)):=zc (by rw[List.any_append,Q0];simp[mw,pk,E1.out,o0]);have p1:Hid (yP l E (pk a e j om)=⟨a,e,s,o,vv⟩):=zc (by unfold yP pk;simp only[E1.out,O2.out,N2.out])
  have K0:Hid ((out++[pk a e j om]).map (yP l E)=out.map (yP l E)++[⟨a,e,s,o,vv⟩]):=zc (by rw[List.map_append,List.map_cons,List.map_nil,p1.out]);have n0:(out.map (yP l E)).length+1<=1000000:=by rw[Az];omega
  obtain⟨oc,N1⟩:∃oc,oc=out.map (yP l E):=⟨_,rfl⟩;rw[<-N1]at W K0 n0;rw[Q0];clear Q0 o0 N1
  cases qa
  case true=>
   clear I1;obtain⟨Ao,co,rfl⟩:=W.form;obtain⟨f1,f2,f3⟩:=n.facts;obtain⟨g1,g2,g3⟩:=Q.facts;go_wp2_with fail;have S0:K.drew.cell? ⟨b,G+i,none⟩=some (.int .i64 a)/\K.drew.cell? ⟨b,G+(i+1),none⟩=some (.int .i64 e)/\K.drew.cell? ⟨Z.heap.size,1,none⟩=some (.int .i64 s)/\K.drew.cell? ⟨Z.heap.size,2,none⟩=some (.bool o):=⟨X0,X1,Q.cell 1,Q.cell 2⟩;have l0:=W.drew;have L0:=R.drew;have g0:=Q.drew
   have h0:=n.drew;have P:u.heap.size<=K.drew.heap.size:=Y;clear f1 f2 f3 g1 g2 g3
   go_region_held_law (λw'=>w'.cell? ⟨b,G+i,none⟩=some (.int .i64 a)/\w'.cell? ⟨b,G+(i+1),none⟩=some (.int .i64 e)/\w'.cell? ⟨Z.heap.size,1,none⟩=some (.int .i64 s)/\w'.cell? ⟨Z.heap.size,2,none⟩=some (.bool o))
    (first|exact S0|(exact ZO (B:=K.drew.heap.size) ((Ae _ K.drew).alloc (Ay _) _) I I U0 U0 S0)|(exact⟨(mW (B:=u.heap.size) (((Ae _ K.drew).alloc P _).trans M) H H ⟨S0.1,S0.2.1⟩).1,(mW (B:=u.heap.size) (((Ae _ K.drew).alloc P _).trans M) H H ⟨S0.1,S0.2.1⟩).2,V.cell 1,V.cell 2⟩))
    (first|(refine tW (enc:=mK) rfl (.tmp 66) (.tmp 82) 217 rfl u.heap.size 221 i0 _ 5 40 Tryz.underlying217 hi Y1 y0 Z1 rfl (by decide) _ oc [⟨a,e,s,o,vv⟩] 1 rfl (by decide) rfl (l0.alloc _) #[.int .i64 a,.int .i64 e,.int .i64 s,.bool o,.int .i64 vv] rfl _ (zj.new K.drew 221 _) rfl rfl nE n0 (by decide) (by simp;omega) ?_;intro v' w8 X M N;have V:=N _ _ _ (g0.alloc _) (by decide);have O:=N _ _ _ (h0.alloc _) (by decide)))
   obtain⟨f1,f2,f3⟩:=O.facts;obtain⟨g1,g2,g3⟩:=V.facts;go_wp2_with fail;go_roundw
   case rel=>
    have M0:Below w.heap.size w w8:=(zi C0).trans ((((Ae _ K.drew).alloc P _).trans M).mono (by omega));refine⟨i+1,out++[pk a e j om],Am,nm,cm,om,j,bm,by go_num,by rw[b0.out];simp,zc (.inl p0),J0,k0,U,?_,?_,?_,?_,?_,?_⟩
    ·rw[K0.out];exact X.set3 O (by decide)
    ·rw[O0.out];exact O.set3
    ·exact(Own.keep L0 λbb cs h=>N _ _ _ (h.alloc _) (by decide)).set3 O (by decide)
    ·exact qB (nL T (((zi (Ae u.heap.size K)).alloc P _).trans M) λb' C=>by injection C with C;rw[<-C];exact H) λb' C=>by injection C with C;rw[<-C];exact w0
    ·exact re M0 (Ay _)
    rw[qD];have:=M.size;simp at this;omega
   case measure=>simp[intOf];omega
  case false=>
   go_wp2_with (go_at_call 178;refine(I1 _).mono ?_;rintro ee w6 ⟨rfl,rfl⟩);obtain⟨Ao,co,rfl⟩:=W.form;obtain⟨f1,f2,f3⟩:=n.facts;obtain⟨g1,g2,g3⟩:=Q.facts;have S0:K.drew.cell? ⟨b,G+i,none⟩=some (.int .i64 a)/\K.drew.cell? ⟨b,G+(i+1),none⟩=some (.int .i64 e)/\K.drew.cell? ⟨Z.heap.size,1,none⟩=some (.int .i64 s)/\K.drew.cell? ⟨Z.heap.size,2,none⟩=some (.bool o):=⟨X0,X1,Q.cell 1,Q.cell 2⟩
   have l0:=W.drew;have L0:=R.drew;have g0:=Q.drew;have h0:=n.drew;have P:u.heap.size<=K.drew.heap.size:=Y;clear f1 f2 f3 g1 g2 g3
   go_region_held_law (λw'=>w'.cell? ⟨b,G+i,none⟩=some (.int .i64 a)/\w'.cell? ⟨b,G+(i+1),none⟩=some (.int .i64 e)/\w'.cell? ⟨Z.heap.size,1,none⟩=some (.int .i64 s)/\w'.cell? ⟨Z.heap.size,2,none⟩=some (.bool o))
    (first|exact S0|(exact ZO (B:=K.drew.heap.size) ((Ae _ K.drew).alloc (Ay _) _) I I U0 U0 S0)|(exact⟨(mW (B:=u.heap.size) (((Ae _ K.drew).alloc P _).trans M) H H ⟨S0.1,S0.2.1⟩).1,(mW (B:=u.heap.size) (((Ae _ K.drew).alloc P _).trans M) H H ⟨S0.1,S0.2.1⟩).2,V.cell 1,V.cell 2⟩))
    (first|(refine tW (enc:=mK) rfl (.tmp 66) (.tmp 82) 217 rfl u.heap.size 221 i0 _ 5 40 Tryz.underlying217 hi Y1 y0 Z1 rfl (by decide) _ oc [⟨a,e,s,o,vv⟩] 1 rfl (by decide) rfl (l0.alloc _) #[.int .i64 a,.int .i64 e,.int .i64 s,.bool o,.int .i64 vv] rfl _ (zj.new K.drew 221 _) rfl rfl nE n0 (by decide) (by simp;omega) ?_;intro v' w8 X M N;have V:=N _ _ _ (g0.alloc _) (by decide);have O:=N _ _ _ (h0.alloc _) (by decide)))
   obtain⟨f1,f2,f3⟩:=O.facts;obtain⟨g1,g2,g3⟩:=V.facts;go_wp2_with fail;go_roundw
   case rel=>
    have M0:Below w.heap.size w w8:=(zi C0).trans ((((Ae _ K.drew).alloc P _).trans M).mono (by omega));refine⟨i+1,out++[pk a e j om],Am,nm,cm,om,j,bm,by go_num,by rw[b0.out];simp,zc (.inl p0),J0,k0,U,?_,?_,?_,?_,?_,?_⟩
    ·rw[K0.out];exact X.set3 O (by decide)
    ·rw[O0.out];exact O.set3
    ·exact(Own.keep L0 λbb cs h=>N _ _ _ (h.alloc _) (by decide)).set3 O (by decide)
    ·exact qB (nL T (((zi (Ae u.heap.size K)).alloc P _).trans M) λb' C=>by injection C with C;rw[<-C];exact H) λb' C=>by injection C with C;rw[<-C];exact w0
    ·exact re M0 (Ay _)
    rw[qD];have:=M.size;simp at this;omega
   case measure=>simp[intOf];omega
 rw[decide_eq_true q0]at c0;obtain⟨q,z,rfl,hz,O3,W2⟩:=Rd j0.out HD.out.1 HT.out S1.out U1.out q1.out HL.out L1 (by rw[F0.out];exact q0.1) (by rw[D1.out];exact q0.2);have J0:=zc W2;have b0:Hid ((q++[pk z.f e z.v.1 z.v.2]).any (mw l E)=(q.any (mw l E) || mw l E z)):=zc (by simp[List.any_append,mw,pk]);clear q0 hz O3 W2;go_wp2_with fail;refine c0.mono ?_;rintro ee w4 ⟨rfl,B0⟩
 have J:=za J B0;have X0:=(B0.cell (p:=⟨b,G+i,none⟩) (by simp;omega)).trans X0;have X1:=(B0.cell (p:=⟨b,G+(i+1),none⟩) (by simp;omega)).trans X1;have n:=I0.ext B0;have Q:=Q.ext B0;have l2:Z.heap.size<w4.heap.size:=Q.lt;have C0:=za m0 J;have W:=W.ext J;have R:=R.ext J;have T:=T.ext J;have Y:u.heap.size<=w4.heap.size:=by omega
 clear c0 f1 f2 f3 g1 g2 g3 I0 J m0 B0;obtain⟨qa,Q0⟩:∃qa,(q.any (mw l E) || mw l E z)=qa:=⟨_,rfl⟩;rw[Q0]at b0⊢;have G4:q.length+1<=1000:=by simp at N3;omega
 clear Q0;rw[List.map_append,List.map_cons,List.map_nil]at W;obtain⟨Ao,co,rfl⟩:=W.form;rw[Ag,Az]at W⊢;simp only[Ap,AC,Nat.zero_add]at W⊢;obtain⟨go,rfl⟩:∃g,Ao=some ⟨g,0,none⟩:=by
  rcases W.2 with⟨h1,_⟩|⟨g,u3,v3,hv,_⟩
  ·simp at h1
  simp only[Value.slice.injEq]at hv;exact⟨g,hv.1⟩
 obtain⟨d2,L3,Z2,J3,cs,H1,K3,E0⟩:=W.cells bZ;have E2:(q.map (yP l E)++[yP l E z])[q.length]?=some (yP l E z):=by
  rw[List.getElem?_append_right (by simp)];simp
 have y0:cs[q.length*5+1]?=some (.int .i64 z.t):=by have:=E0 _ _ E2 1 (by decide);simpa[mK,yP]using this
 have F4:IntKind.i64.wrap (q.length:Int)=q.length:=AQ _ (by omega);have E4:q.length<q.length+1:=by omega
 have V2:w.heap.size≠go:=by omega
 have x2:=Q.far (p:=⟨go,q.length*5+1,none⟩) (by
  intro h;unfold zj at Q H1;rw[show Z.heap.size=go from h,H1]at Q
  cases Q) (.int .i64 e)
 have R1:=n.far (p:=⟨go,q.length*5+1,none⟩) V2 (.int .i64 e);obtain⟨r3,s3,t3⟩:=H1.facts;obtain⟨f1,f2,f3⟩:=R1.facts;obtain⟨g1,g2,g3⟩:=x2.facts;have HR:=zc E0;have M2:=zc Z2;have A3:=zc E2;clear E0 Z2 d2 E2;go_wp2_with fail;go_roundw
 case rel=>
  have BS:zj (w4.setCell ⟨go,q.length*5+1,none⟩ (.int .i64 e)) go 221 (cs.setIfInBounds (q.length*5+1) (.int .i64 e)):=H1.set_ _ _;have S2:(q++[pk z.f e z.v.1 z.v.2]).map (yP l E)=(q.map (yP l E)++[yP l E z]).set q.length (yP l E (pk z.f e z.v.1 z.v.2)):=by
   rw[List.map_append,List.map_cons,List.map_nil];have:q.length=(q.map (yP l E)).length:=by simp
   rw[this,List.set_append_right (h:=Ay _)];simp
  have H3:Own mK 5 (w4.setCell ⟨go,q.length*5+1,none⟩ (.int .i64 e)) u.heap.size 221 (.slice (some ⟨go,0,none⟩) (q.length+1) co) ((q++[pk z.f e z.v.1 z.v.2]).map (yP l E)):=by
   have h2:=Own.of_cells (enc:=mK) (m:=(q++[pk z.f e z.v.1 z.v.2]).map (yP l E)) bZ (by decide) BS L3 (by have:=M2.out;simpa using this) J3 (by simpa using K3) (by
    rw[S2];refine HR.out.set (by simp) (λt ht=>by rw[Aj (by omega)]) (λt ht=>?_);have k1:q.length*5+1<cs.size:=(Array.getElem?_eq_some_iff.1 y0).1;have E0:=HR.out _ _ A3.out
    match t,ht with
    |0,_=>rw[Aj (by omega)];exact E0 0 (by decide)
    |1,_=>rw[Ak k1];rfl
    |2,_=>rw[Aj (by omega)];exact E0 2 (by decide)
    |3,_=>rw[Aj (by omega)];exact E0 3 (by decide)
    |4,_=>rw[Aj (by omega)];exact E0 4 (by decide))
   simpa using h2
  refine⟨i+1,q++[pk z.f e z.v.1 z.v.2],Am,nm,cm,om,j,bm,by go_num,by rw[b0.out],zc (.inl p0),J0,k0,U,?_,?_,?_,?_,?_,?_⟩
  ·exact H3.set3 R1 (by decide)
  ·rw[O0.out];exact R1.set3
  ·exact(R.set_far H1 (by decide) _ _).set3 R1 (by decide)
  ·exact qB (jZ T λb' C=>by injection C with C;rw[<-C];simp only;omega) λb' C=>by injection C with C;rw[<-C];exact w0
  ·exact re (C0.setCell (by simp only;omega) _) (Ay _)
  rw[qD];simpa using Y
 case measure=>simp[intOf];omega
