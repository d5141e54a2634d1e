import Derived.Test.YtjcimdpldlamfaaGreatDoorBd00f54a5566
namespace Go.Proofs.YtjcimdpldlamfaaGreatDoor
set_option maxRecDepth 100000
set_option maxHeartbeats 8000000
open Go.RowKit
theorem Wo{g:zf}{p v:Int}(h:zZ g p v=0):(1<=p/\p<=3)/\(p=3∨(0<=v/\v<g.lives.length)):=by
 unfold zZ at h
 split at h
 ·split at h
  ·next hp=>
   refine⟨hp,?_⟩
   by_cases A:p=3
   ·exact .inl A
   right
   split at h
   ·simp at h
   next hn=>exact Classical.byContradiction λB=>hn ⟨A,B⟩
  simp at h
 next h1=>exact absurd h h1
theorem Ud(A A' An:Option Addr)(c c' cn:Nat)(g:zf)(n:List Int)(V4:Value)(w:World)(hG:zv w A c A' c' g)(hV:zx g)(hN:zI w An cn n)(hn:n.length=2)(D1:∀x,x∈n->0<=x)(ht:ITab w) :
  Calls Tryz.prog 40 #[gV A c A' c' g,.string ⟨#[97,108,108]⟩,.slice An n.length cn,V4] w λe D=>e=.returned (.string (bs (rb g n)))/\Below w.heap.size w D:=by
 obtain⟨x,y,rfl⟩:=vI hn;obtain⟨b,o,rfl,i1,x0,x1⟩:=hN.two;have HG:=zc hG;have HT:=zc ht;have HV:=zc hV;have o3:Hid (0<=x/\0<=y):=zc ⟨D1 x (by simp),D1 y (by simp)⟩;have HI:Hid (∀k,k∈[x,y]->zM k):=zc hN.i64;have m1:g.lives.length<=9223372036854775807:=Ai hG.lc hG.cm;clear hG ht hV hN hn D1
 go_enter Tryz.func40,Tryz.ntmps40
 go_wp2_with fail;have BG:=zj.new w 68 (gC A c A' c' g);have U0:=ze (Ae w.heap.size w) (Obj.cells (gC A c A' c' g) 68);change Code.wp _ _ _ _ (w.alloc (Obj.cells (gC A c A' c' g) 68));obtain⟨j,hq⟩:∃j,w.alloc (Obj.cells (gC A c A' c' g) 68)=j:=⟨_,rfl⟩;rw[hq]at BG U0⊢;obtain⟨S1,C0⟩:∃S1:World->Prop,Hid (S1=λD=>D.cell? ⟨w.heap.size,0,none⟩=some (.int .i64 g.h)/\D.cell? ⟨w.heap.size,1,none⟩=some (.slice A g.lives.length c)/\D.cell? ⟨w.heap.size,2,none⟩=some (.slice A' g.edges.length c')/\D.cell? ⟨b,o,none⟩=some (.int .i64 x)/\D.cell? ⟨b,o+1,none⟩=some (.int .i64 y)):=⟨_,zc rfl⟩
 have HX:Hid (w.cell? ⟨b,o,none⟩=some (.int .i64 x)/\w.cell? ⟨b,o+1,none⟩=some (.int .i64 y)):=zc ⟨x0,x1⟩;have O0:Hid (∀D,Below j.heap.size j D->S1 D):=zc λD h=>by
  have hB:=BG.ext h;have hw:=za U0 h;rw[C0.out];exact⟨hB.cell 0,hB.cell 1,hB.cell 2,(hw.cell (p:=⟨b,o,none⟩) i1).trans HX.out.1,(hw.cell (p:=⟨b,o+1,none⟩) i1).trans HX.out.2⟩
 have s:=zc U0;have m3:=zc BG;have Z:Below j.heap.size j j:=Ae _ _;clear x0 x1 BG U0 hq;have w0:=zi Z;have v2:S1 j.drew:=O0.out _ w0;refine zB S1 (by kernel_rfl) ?_;refine tH 0 ?_ ?_<|tH 1 ?_ ?_<|tH 2 ?_ ?_<|tH 3 ?_ ?_<|tH 4 ?_ ?_<|tH 5 ?_ ?_<|tH 6 ?_ ?_ ?_
 iterate 7
  rotate_left;intro w B;rw[C0.out]at B;obtain⟨I,J,L,P1,Q1⟩:=B;(try simp only[pS]);go_simp;try with_reducible rfl
 try simp only[pS]
 refine zu (i:=7) rfl (by kernel_rfl) λK F=>?_;go_wp2_with fail;refine(ZY A A' c c' g x y _ (HG.out.ext (za s.out w0))).mono ?_;rintro e w3 ⟨rfl,Y⟩;have X:Below j.heap.size j w3:=za w0 Y;have Y0:=O0.out _ X;refine F.out _ _ ⟨Y0,?_⟩;clear F K v2
 try simp only[pS]
 refine tH 8 ?_ ?_ ?_;rotate_left
 ·intro w B;rw[C0.out]at B;obtain⟨I,J,L,P1,Q1⟩:=B;(try simp only[pS]);go_simp;try with_reducible rfl
 try simp only[pS]
 refine wpAnyH_done (by kernel_rfl) ?_ _
 try simp only[pS]
 clear Y0
 by_cases h0:zZ g x y=0
 case neg=>
  have w1:(zZ g x y != 0)=true:=by simp[h0]
  have HR:Hid (rb g [x,y]=yO (zZ g x y)):=zc (by show(if zZ g x y=0 then _ else yO (zZ g x y))=_;rw[Au h0]);have HE:zM (zZ g x y):=by have:=iD g x y;exact zt (by omega) (by omega)
  have HW:=zc (zP (zZ g x y) HE w3 (HT.out.ext (za s.out X)));clear h0 HE;go_wp2_with fail;refine HW.out.mono ?_;rintro e w4 ⟨rfl,B3⟩;go_wp2_with fail;go_ret;exact⟨by rw[HR.out];rfl,za s.out (za X B3)⟩
 have H0:=zc h0;obtain⟨kk,out,r⟩:∃kk out,Hid (tu g x y kk out):=by
  obtain⟨e,w9,h9⟩:=dP (eC A A' c c' g x y w HG.out);rcases h9 with⟨h9,_⟩|⟨_,Ao,co,k,sides,_,_,_,hR,_⟩
  ·exact absurd h0 h9
  exact⟨k,_,hR⟩
 have c1:Hid (rb g [x,y]=if out=[] then cU else zO 32 (out.map xe)):=zc (by
  show(if zZ g x y=0 then (if Ul g x y=[] then cU else zO 32 ((Ul g x y).map xe)) else _)=_;rw[Aq h0,UY r.out])
 have a1:Hid (∀m,m∈out->m.length<=100/\(xe m).length<=6601):=zc λm hm=>by
  have hl:=r.out.lies m hm;have h1:=hl.len (by have:=HV.out.h0;omega);have h2:=HV.out.h1;have h3:=fG (m:=m) λq hq=>by
   have h4:=hl.in_ q hq;have h5:=hl.map.2 q hq;exact⟨zt (by omega) (by omega),zt (by omega) (by omega),zt (by omega) (by omega)⟩
  omega
 rw[h0];clear h0;go_wp2_with fail;have z0:=zi X;have w2:S1 w3.drew:=O0.out _ z0;refine zB S1 (by kernel_rfl) ?_;refine tH 0 ?_ ?_<|tH 1 ?_ ?_<|tH 2 ?_ ?_<|tH 3 ?_ ?_<|tH 4 ?_ ?_<|tH 5 ?_ ?_<|tH 6 ?_ ?_ ?_
 iterate 7
  rotate_left;intro w B;rw[C0.out]at B;obtain⟨I,J,L,P1,Q1⟩:=B;(try simp only[pS]);go_simp;try with_reducible rfl
 try simp only[pS]
 refine zu (i:=7) rfl (by kernel_rfl) λK F=>?_;go_wp2_with fail;refine(Uc A A' c c' g x y kk out _ (HG.out.ext (za s.out z0)) HV.out (Wo H0.out).1 r.out).mono ?_;rintro e wm ⟨gb,rk,bx,rfl,hM,Q0,o0⟩;have a0:Below j.heap.size j wm:=za z0 o0;have Z0:=O0.out _ a0;refine F.out _ _ ⟨Z0,?_⟩;clear F K w2
 try simp only[pS]
 refine tH 8 ?_ ?_<|tH 9 ?_ ?_<|tH 10 ?_ ?_<|tH 11 ?_ ?_<|tH 12 ?_ ?_ ?_
 iterate 5
  rotate_left;intro w B;rw[C0.out]at B;obtain⟨I,J,L,P1,Q1⟩:=B;(try simp only[pS]);go_simp;try with_reducible rfl
 try simp only[pS]
 refine wpAnyH_done (by kernel_rfl) ?_ _
 try simp only[pS]
 clear Z0;have I3:=HV.out.nl;have z3:out.length<=12:=by have:=r.out.len;omega
 have t3:bx.length=out.length:=by rw[<-Q0,Az]
 have X2:=zc Q0;have V2:=zc hM.blk;have U2:Hid (ju wm bx):=zc (hM.sides.at_ (h:=g.h) (by rw[Q0];exact r.out.lies) HV.out.h1);have d0:=zc (za s.out a0);have f2:=zc (HT.out.ext d0.out);obtain⟨i0,hi,L1,M1,N1⟩:=td;clear hM Q0 I3;go_wp2_with fail
 go_loopw [22,23] (λu z wt=>∃i:Nat,z=.int .i64 i/\i<=out.length/\Own yp 1 wt wm.heap.size 9 u ((out.map xe).take i)/\Below wm.heap.size wm wt) (λ_ z _=>out.length-(intOf z).toNat)
 case atStart=>exact⟨0,rfl,AA _,Own.nil,Ae _ _⟩
 obtain⟨i,rfl,v3,H,P⟩:=hrel;have A4:=P.size;obtain⟨U,R⟩:∃U,(out.map xe).take i=U:=⟨_,rfl⟩;have s1:U.length+1<=1000000:=by rw[<-R,AE,Az];omega
 rw[R]at H
 by_cases x3:i<out.length
 case neg=>
  obtain rfl:i=out.length:=by omega
  rw[AJ (by rw[Az];omega)]at R;obtain⟨Aw,cw,rfl,m0⟩:=vG H;have J0:U.length=out.length:=by rw[<-R,Az]
  cases T0:out with
  |nil=>
   subst T0;obtain rfl:U=[]:=by rw[<-R];rfl
   clear H R J0 m0;go_wp2_with fail;go_ret;exact⟨by rw[c1.out];rfl,za d0.out P⟩
  |cons s0 sr=>
   have z1:0<out.length:=by rw[T0];simp
   have w1:(((U.length:Nat):Int)== 0)=false:=by rw[J0];exact AH.2 (by omega)
   have a2:Hid ((zO 32 U).length<=100000):=zc (by
    have h1:=si (c:=32) (m:=6601) (l:=U) λq hq=>by
     rw[<-R]at hq;obtain⟨m,hm,rfl⟩:=AD.1 hq;exact(a1.out m hm).2
    omega)
   have hj:=tL Aw cw U 32 wr m0 (by have:=a2.out;omega);have e2:Hid (rb g [x,y]=zO 32 U):=zc (by rw[c1.out,Au (by rw[T0];simp),R]);clear H R J0 m0 T0 z1;go_wp2_with fail;refine hj.mono ?_;rintro e w5 ⟨rfl,o0⟩;clear hj;go_wp2_with fail;go_ret;exact⟨by rw[e2.out];rfl,za d0.out (za P o0)⟩
 obtain⟨z,hz⟩:=zl (show i<bx.length by omega);have S0:out[i]?=some z.1:=by rw[<-X2.out,AU,hz];rfl
 obtain⟨m,Am,cm⟩:=z;simp only at S0;have HN:Hid (U++[xe m]=(out.map xe).take (i+1)):=zc (by rw[<-R,AO,AU,S0];rfl);have G1:=a1.out m (Ad S0);have y3:m.length<=100:=G1.1;have d2:=zc G1.2;obtain⟨wo,rfl⟩:∃x,x=wr:=⟨_,rfl⟩;have b1:Hid (PiecesAt wo Am cm m):=zc ((U2.out.ext P) (m,Am,cm) (Ad hz));have j0:=V2.out.ext P
 have Y1:Hid (gb<wo.heap.size):=zc j0.lt;have cz:wo.cell? ⟨gb,i,none⟩=some (.slice Am m.length cm):=by
  rw[j0.cell];simp[hz,sV]
 have X1:=zc cz;have V1:=zc P;have Z1:=zc H;have g2:=zc (f2.out.ext P);clear hz S0 R j0 G1 H P cz;have b3:m.length<=9223372036854775807:=by omega
 go_wp2_with fail
 go_loopw [24,25] (λu v wt=>∃k:Nat,k<=m.length/\v=.int .i64 k/\Own yp 1 wt wo.heap.size 9 u ((m.take k).map ux)/\Below wo.heap.size wo wt) (λ_ v _=>m.length-(intOf v).toNat)
 case atStart=>exact⟨0,AA _,rfl,Own.nil,Ae _ _⟩
 obtain⟨k,hk,rfl,hO,hb⟩:=hrel;have B4:=hb.size;have G0:((m.take k).map ux).length+1<=1000000:=by rw[Az,AE];omega
 by_cases v1:k<m.length
 case neg=>
  obtain rfl:k=m.length:=by omega
  rw[AL]at hO G0;obtain⟨d,a⟩:∃d,m.map ux=d:=⟨_,rfl⟩;have I0:d.length=m.length:=by rw[<-a,Az]
  rw[a]at hO G0;obtain⟨Ao,co,rfl,hS⟩:=vG hO;have d1:=(hb.cell (p:=⟨gb,i,none⟩) Y1.out).trans X1.out
  cases m with
  |nil=>
   obtain rfl:d=[]:=by rw[<-a];rfl
   obtain⟨tz,T⟩:∃tz,tz=([45]:List UInt8):=⟨_,rfl⟩;have BS:=zj.new wr 9 #[.string (bs [45])];have hj:=zc (tL (some ⟨wr.heap.size,0,none⟩) 1 [[45]] 44 (wr.alloc (Obj.cells #[.string (bs [45])] 9)) (pM (l:=[[45]]) BS rfl (by unfold maxLen;simp)) (by decide));have j1:=ze hb (Obj.cells #[.string (bs [45])] 9);have HN:Hid (U++[tz]=(out.map xe).take (i+1)):=by rw[T];exact HN
   clear hO a I0 hS BS;go_wp2_with fail;refine hj.out.mono ?_;rintro e w6 ⟨rfl,D0⟩;rw[show zO 44 [[45]]=tz from T.symm];have M:=za j1 D0;have k0:=Z1.out.ext M;have Q:=za V1.out M;have K1:wm.heap.size<=w6.heap.size:=Q.size;clear T j1 D0;go_wp2_with (at_builtin;refine zr (enc:=yp) rfl (.tmp 176) (.tmp 179) 23 rfl wm.heap.size 9 i0 _ 1 16 Tryz.underlying23 hi L1 M1 N1 rfl (by decide) _ U tz rfl k0 _ rfl w6.heap.size rfl rfl rfl uE s1 (by decide) K1 ?_;intro gn n2 w7 S r0 F3 D3)
   go_roundw
   case rel=>exact⟨i+1,by go_num,by omega,by rw[<-HN.out];exact S,Q.trans r0⟩
   case measure=>simp[intOf];omega
  |cons p0 pr=>
   have w1:(((d.length:Nat):Int)== 0)=false:=by rw[I0];simp;omega
   have HR:Hid (xe (p0::pr)=zO 44 d):=zc (by rw[<-a];unfold xe;rw[Au (by simp)]);have hj:=zc (tL Ao co d 44 wr hS (by have:=d2.out;rw[HR.out]at this;omega));obtain⟨tz,T⟩:∃tz,zO 44 d=tz:=⟨_,rfl⟩;have HN:Hid (U++[tz]=(out.map xe).take (i+1)):=zc (by have:=HN.out;rw[HR.out,T]at this;exact this);rw[T]at hj;clear hO a I0 hS T;go_wp2_with fail
   refine hj.out.mono ?_;rintro e w6 ⟨rfl,D0⟩;have M:=za hb D0;have k0:=Z1.out.ext M;have Q:=za V1.out M;have K1:wm.heap.size<=w6.heap.size:=Q.size;clear D0;go_wp2_with (at_builtin;refine zr (enc:=yp) rfl (.tmp 176) (.tmp 179) 23 rfl wm.heap.size 9 i0 _ 1 16 Tryz.underlying23 hi L1 M1 N1 rfl (by decide) _ U tz rfl k0 _ rfl w6.heap.size rfl rfl rfl uE s1 (by decide) K1 ?_;intro gn n2 w7 S r0 F3 D3)
   go_roundw
   case rel=>exact⟨i+1,by go_num,by omega,by rw[<-HN.out];exact S,Q.trans r0⟩
   case measure=>simp[intOf];omega
 obtain⟨p,hp⟩:=zl v1;obtain⟨bp,O1,rfl,E0,y0,y1,y2⟩:=b1.out.get hp;obtain⟨q0,q1,q2⟩:=b1.out.i64 hp;have x0:=(hb.cell (p:=⟨bp,O1+k*3,none⟩) E0).trans y0;have x1:=(hb.cell (p:=⟨bp,O1+k*3+1,none⟩) E0).trans y1;have x2:=(hb.cell (p:=⟨bp,O1+k*3+2,none⟩) E0).trans y2;have d1:=(hb.cell (p:=⟨gb,i,none⟩) Y1.out).trans X1.out;clear y0 y1 y2;have A1:=λW (h:ITab W)=>wO p.f q0 W h
 have uF:=λW (h:ITab W)=>wO p.t q1 W h;have B1:=λW (h:ITab W)=>wO p.v q2 W h;have l0:=Lib.itoa_length_le p.f q0.1 q0.2;have l1:=Lib.itoa_length_le p.t q1.1 q1.2;have l2:=Lib.itoa_length_le p.v q2.1 q2.2;obtain⟨d,R⟩:∃d,(m.take k).map ux=d:=⟨_,rfl⟩;have C:Hid (d++[ux p]=(m.take (k+1)).map ux):=zc (by rw[<-R];exact lT hp);rw[R]at hO G0;have A2:ux p=Lib.itoa p.f++[45]++Lib.itoa p.t++[58]++Lib.itoa p.v:=rfl
 rw[A2]at C;obtain⟨tf,H1⟩:∃tf,Lib.itoa p.f=tf:=⟨_,rfl⟩;obtain⟨tt,I1⟩:∃tt,Lib.itoa p.t=tt:=⟨_,rfl⟩;obtain⟨tv,J1⟩:∃tv,Lib.itoa p.v=tv:=⟨_,rfl⟩;rw[H1]at l0 C;rw[I1]at l1 C;rw[J1]at l2 C;simp only[H1]at A1;simp only[I1]at uF;simp only[J1]at B1;have r1:=wl tf [45] (by simp;omega);have u0:=wl (tf++[45]) tt (by simp;omega);have R0:=wl (tf++[45]++tt) [58] (by simp;omega)
 have F0:=wl (tf++[45]++tt++[58]) tv (by simp;omega);obtain⟨u1,B2⟩:∃u,tf++[45]=u:=⟨_,rfl⟩;rw[B2]at r1 u0 R0 F0 C;obtain⟨u2,C2⟩:∃u,u1++tt=u:=⟨_,rfl⟩;rw[C2]at u0 R0 F0 C;obtain⟨u3,D2⟩:∃u,u2++[58]=u:=⟨_,rfl⟩;rw[D2]at R0 F0 C;obtain⟨u4,E2⟩:∃u,u3++tv=u:=⟨_,rfl⟩;rw[E2]at F0 C;have b2:=C;have j2:=zc (g2.out.ext hb);clear hp R A2 H1 I1 J1 B2 C2 D2 E2 C
 go_upto_region 37 with fail;have BP:=zj.new wr 113 #[.int .i64 p.f,.int .i64 p.t,.int .i64 p.v];have n0:Below wr.heap.size wr (wr.alloc (Obj.cells #[.int .i64 p.f,.int .i64 p.t,.int .i64 p.v] 113)):=ze (Ae _ _) _;have Z:=ze hb (Obj.cells #[.int .i64 p.f,.int .i64 p.t,.int .i64 p.v] 113);have hO:=hO.alloc (Obj.cells #[.int .i64 p.f,.int .i64 p.t,.int .i64 p.v] 113);obtain⟨E,F2⟩:∃E,wr.alloc (Obj.cells #[.int .i64 p.f,.int .i64 p.t,.int .i64 p.v] 113)=E:=⟨_,rfl⟩
 obtain⟨gp,t1⟩:∃gp,wr.heap.size=gp:=⟨_,rfl⟩;rw[F2]at BP n0 Z hO⊢;rw[t1]at BP⊢;have e0:=zc (j2.out.ext n0);have c2:=zc hO;have W1:=zc BP;have W2:=zc Z;have HZ:Hid (wo.heap.size<=E.heap.size):=zc Z.size;have Y2:Hid (∀W,Below E.heap.size E W->Calls Tryz.prog 36 #[.int .i64 p.f] W λe D=>e=.returned (.string (bs tf))/\Below W.heap.size W D):=zc λW h=>A1 W (e0.out.ext h)
 have i2:Hid (∀W,Below E.heap.size E W->Calls Tryz.prog 36 #[.int .i64 p.t] W λe D=>e=.returned (.string (bs tt))/\Below W.heap.size W D):=zc λW h=>uF W (e0.out.ext h);have HV:Hid (∀W,Below E.heap.size E W->Calls Tryz.prog 36 #[.int .i64 p.v] W λe D=>e=.returned (.string (bs tv))/\Below W.heap.size W D):=zc λW h=>B1 W (e0.out.ext h);obtain⟨S9,N⟩:∃S9:World->Prop,Hid (S9=λD=>D.cell? ⟨gp,0,none⟩=some (.int .i64 p.f)/\D.cell? ⟨gp,1,none⟩=some (.int .i64 p.t)/\D.cell? ⟨gp,2,none⟩=some (.int .i64 p.v)):=⟨_,zc rfl⟩
 have G:Hid (∀D,Below E.heap.size E D->S9 D):=zc λD h=>by
  have hB:=W1.out.ext h;rw[N.out];exact⟨hB.cell 0,hB.cell 1,hB.cell 2⟩
 have v0:=zi (Ae E.heap.size E);have t2:S9 E.drew:=G.out _ v0;clear d1 hO BP Z A1 uF B1 F2 t1 n0 x0 x1 x2;refine zB S9 (by kernel_rfl) ?_;refine tH 0 ?_ ?_<|tH 1 ?_ ?_<|tH 2 ?_ ?_<|tH 5 ?_ ?_<|tH 6 ?_ ?_<|tH 10 ?_ ?_<|tH 11 ?_ ?_ ?_
 iterate 7
  rotate_left;intro w B;rw[N.out]at B;obtain⟨I,J,L⟩:=B;(try simp only[pS]);go_simp;try with_reducible rfl
 try simp only[pS]
 refine zu (i:=3) rfl (by kernel_rfl) λK F=>?_;go_wp2_with fail;refine(Y2.out _ v0).mono ?_;rintro e w3 ⟨rfl,o1⟩;have Y:Below E.heap.size E w3:=za v0 o1;refine F.out _ _ ⟨G.out _ Y,?_⟩;have z2:=G.out _ Y;clear F K
 try simp only[pS]
 refine tH 4 ?_ ?_ ?_;rotate_left
 ·intro w B;rw[N.out]at B;obtain⟨I,J,L⟩:=B;have hc:=r1 w;(try simp only[pS]);go_simp;try with_reducible rfl
 try simp only[pS]
 refine zu (i:=7) rfl (by kernel_rfl) λK F=>?_;go_wp2_with fail;refine(i2.out _ Y).mono ?_;rintro e w4 ⟨rfl,p1⟩;have P0:Below E.heap.size E w4:=za Y p1;refine F.out _ _ ⟨G.out _ P0,?_⟩;have A3:=G.out _ P0;clear F K
 try simp only[pS]
 refine tH 8 ?_ ?_ ?_;rotate_left
 ·intro w B;rw[N.out]at B;obtain⟨I,J,L⟩:=B;have hc:=u0 w;(try simp only[pS]);go_simp;try with_reducible rfl
 try simp only[pS]
 refine tH 9 ?_ ?_ ?_;rotate_left
 ·intro w B;rw[N.out]at B;obtain⟨I,J,L⟩:=B;have hc:=R0 w;(try simp only[pS]);go_simp;try with_reducible rfl
 try simp only[pS]
 refine zu (i:=12) rfl (by kernel_rfl) λK F=>?_;go_wp2_with fail;refine(HV.out _ P0).mono ?_;rintro e w5 ⟨rfl,t0⟩;have V:Below E.heap.size E w5:=za P0 t0;refine F.out _ _ ⟨G.out _ V,?_⟩;have f1:=G.out _ V;clear F K
 try simp only[pS]
 refine tH 13 ?_ ?_ ?_;rotate_left
 ·intro w B;rw[N.out]at B;obtain⟨I,J,L⟩:=B;have hc:=F0 w;(try simp only[pS]);go_simp;try with_reducible rfl
 try simp only[pS]
 refine zu (i:=14) rfl (by kernel_rfl) λK F=>?_;go_wp2_with fail;have O:=ze V (Obj.cells #[.string (bs u4)] 9);refine F.out _ _ ⟨G.out _ O,?_⟩;have g1:=G.out _ O;clear F K
 try simp only[pS]
 refine zu (i:=15) rfl (by kernel_rfl) λK F=>?_;have H:=(c2.out.ext V).alloc (Obj.cells #[.string (bs u4)] 9);refine rD (enc:=yp) (.tmp 156) (.tmp 170) 23 rfl wo.heap.size 9 i0 _ 1 16 Tryz.underlying23 hi L1 M1 N1 rfl (by decide) _ d u4 rfl H #[.string (bs u4)] rfl w5.heap.size (zj.new _ _ _) rfl rfl uE (by unfold maxLen;omega) (by omega) (Ai HZ.out O.size) ?_
 intro v9 w9 F1 n1 E1;have k1:Below wo.heap.size E w9:=(O.mono HZ.out).trans n1;have X0:S9 w9:=by
  have hB:=E1 _ _ _ (W1.out.ext O) (by decide);rw[N.out];exact⟨hB.cell 0,hB.cell 1,hB.cell 2⟩
 refine F.out _ _ ⟨X0,?_⟩;clear F K g1
 try simp only[pS]
 refine tH 16 ?_ ?_ ?_;rotate_left
 ·intro w B;rw[N.out]at B;obtain⟨I,J,L⟩:=B;(try simp only[pS]);go_simp;try with_reducible rfl
 try simp only[pS]
 refine wpAnyH_done (by kernel_rfl) ?_ _
 try simp only[pS]
 clear t2 z2 A3 f1 X0 H;go_wp2_with fail;go_roundw
 case rel=>exact⟨k+1,by omega,by go_num,by rw[<-b2.out];exact F1,W2.out.trans k1⟩
 case measure=>simp[intOf];omega
