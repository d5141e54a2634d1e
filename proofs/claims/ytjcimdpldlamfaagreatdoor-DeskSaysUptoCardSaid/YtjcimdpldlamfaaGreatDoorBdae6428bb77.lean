import Derived.Test.YtjcimdpldlamfaaGreatDoorBd98dd668b89
namespace Go.Proofs.YtjcimdpldlamfaaGreatDoor
set_option maxRecDepth 100000
set_option maxHeartbeats 4000000
open Go.RowKit
theorem QV{cs:Array Value}{o:Nat}{v:Value}(h:cs[o]?=some v):cs.setIfInBounds o v=cs:=by
 apply Array.ext_getElem?
 intro i
 by_cases e:o=i
 ·subst e
  rw[Ak (Array.getElem?_eq_some_iff.1 h).1,h]
 rw[Aj e]
theorem aS{cs:Array Value}{o:Nat}{u v:Value}:(cs.setIfInBounds o u).setIfInBounds o v=cs.setIfInBounds o v:=by
 apply Array.ext_getElem?
 intro i
 by_cases e:o=i
 ·subst e
  by_cases h:o<cs.size
  ·rw[Ak (by simpa using h),Ak h]
  rw[Array.getElem?_eq_none (by simpa using h),Array.getElem?_eq_none (by simpa using h)]
 rw[Aj e,Aj e,Aj e]
theorem Rg{l:List zg}{k n:Nat}:l.take (k+n)=l.take k++(l.drop k).take n:=List.take_add
def ev(b0:Nat)(w:World)(A:Option Addr)(c:Nat)(S:List zg)(A':Option Addr)(c':Nat)(S':List zg):Prop:=(A'=A/\c'=c/\S'=S)∨Own zK 3 w b0 113 (.slice A' S'.length c') S'
theorem ev.only{b0 g:Nat}{w w':World}{A A':Option Addr}{c c':Nat}{S S':List zg}{t:TypeId}{cs:Array Value}(h:ev b0 w A c S A' c' S')(hO:uq g w w')(hB:zj w g t cs)(ht:113≠t):ev b0 w' A c S A' c' S':=h.imp id λk=>hO.own hB ht k
def lenOf(v:Value):Nat:=match v with|.slice _ n _=>n|_=>0
def Pp(h:Int)(gv off:Nat)(cs:Array Value)(A:Option Addr)(c:Nat)(S msgs:List zg)(w:World)(e:Ending)(w':World):Prop:=e=.returned (.tuple #[])/\∃(A':Option Addr) (c':Nat) (S':List zg) (A'':Option Addr) (c'':Nat) (F:List zg),
 Hid (wK h S'/\(∀t,val S' t=um msgs t (val S t))/\sB h S' (val S) F)/\zj w' gv 192 ((cs.setIfInBounds off (.slice A' S'.length c')).setIfInBounds (off+1) (.slice A'' F.length c'')) /\
 PiecesAt w' A' c' S'/\ev w.heap.size w' A c S A' c' S'/\xL w.heap.size w' A'' c'' F/\uq gv w w'
theorem QZ(h:Int)(R off:Nat)(cs:Array Value)(A B:Option Addr)(c d:Nat)(S D:List zg)(vf:Value)(w:World)(hV:zj w R 192 cs)(i1:∀(i:Nat) u,cs[i]?=some u->∃A n c,u=Value.slice A n c)
  (h0:cs[off]?=some (.slice A S.length c)) (h1:cs[off+1]?=some vf) (hS:PiecesAt w A c S) (hM:PiecesAt w B d D) (hL:wK h S) (hm:∀x,x∈D->sD h x) (Y0:1<=h) (Z0:h<=100) (v2:D.length<=100000) :
  Calls Tryz.prog 159 #[.pointer (some ⟨R,off,none⟩),.slice B D.length d] w (Pp h R off cs A c S D w):=by
 have Q0:=zc (show Slices w R from⟨_,cs,hV,i1⟩);have HL:=zc hL;have u1:=zc hm;have K2:off+1<cs.size:=(Array.getElem?_eq_some_iff.1 h1).1;have U1:zj w R 192 (cs.setIfInBounds off (.slice A S.length c)):=by rw[QV h0];exact hV
 have t2:=hV.lt;obtain⟨c1,c2,c3⟩:=hV.facts;have C2:=(hV.cell off).trans h0;have E2:=hM.lc;have d1:=hM.cm;unfold maxLen at d1;have HM:=zc hM;have HS:=zc hS;clear hL hm i1 hV h1 hM hS
 go_enter Tryz.func159,Tryz.ntmps159
 go_wp2_with fail;clear c1 c2 c3 C2 h0
 go_loopw [1] (λx wr=>∃(k r:Nat) (Ax:Option Addr) (cx:Nat) (A':Option Addr) (c':Nat) (Q:List zg),x=.slice Ax r cx/\k+r=D.length/\(r≠0->∃gm om,Ax=some ⟨gm,om,none⟩/\PiecesAt wr Ax cx (D.drop k))/\r<=cx/\cx<=9223372036854775807 /\
  zj wr R 192 (cs.setIfInBounds off (.slice A' Q.length c'))/\PiecesAt wr A' c' Q/\ev w.heap.size wr A c S A' c' Q/\Hid (wK h Q/\∀t,val Q t=um (D.take k) t (val S t))/\uq R w wr) (λx _=>lenOf x)
 case atStart=>
  refine⟨0,D.length,B,d,A,c,S,rfl,by omega,λhr=>?_,E2,d1,U1,HS.out,.inl ⟨rfl,rfl,rfl⟩,zc ⟨HL.out,λt=>rfl⟩,.refl w⟩;obtain⟨x,hx⟩:=zl (show 0<D.length by omega);obtain⟨b,o,rfl,_⟩:=HM.out.get hx;exact⟨b,o,rfl,HM.out⟩
 clear U1;obtain⟨k,r,Ax,cx,A',c',Q,rfl,u2,s0,B3,r2,Y,hS,hN,HI,hO⟩:=hrel;have B2:=hO.slices Q0.out;have N2:=hO.size;have l:wr.cell? ⟨R,off,none⟩=some (.slice A' Q.length c'):=(Y.cell off).trans (Ak (by omega));have e1:wr.frozen? ⟨R,off+1,none⟩=false:=Y.frozen _;have G2:=Y.lt
 by_cases A1:r=0
 case pos=>
  subst A1;have HD:Hid (wK h Q/\∀t,val Q t=um D t (val S t)):=zc (by
   have h2:=HI.out.2;rw[AJ (by omega)]at h2;exact⟨HI.out.1,h2⟩)
  have j1:=hO.pieces Q0.out HS.out;have f1:=YJ h A' A c' c Q S wr hS j1 HI.out.1 HL.out Y0 Z0;clear HI s0 e1;go_wp2_with fail;refine f1.mono ?_;rintro e w5 ⟨A5,c5,F,HF,rfl,z1,X0⟩;have E0:=Y.ext X0;obtain⟨y1,y2,y3⟩:=E0.facts;have Y1:=hO.ext X0;have k0:(cs.setIfInBounds off (.slice A' Q.length c'))[off+1]?.isSome=true:=by
   rw[Aj (by omega)];simp[K2]
  obtain⟨uu,L2⟩:=Option.isSome_iff_exists.1 k0;have n1:=(E0.cell (off+1)).trans L2;clear f1 l k0;go_wp2_with fail;refine⟨rfl,.tuple #[],by simp[results,Tryz.results159],?_⟩;have j0:=Y1.slices Q0.out;exact⟨rfl,A',c',Q,A5,c5,F,zc ⟨HD.out.1,HD.out.2,HF.out⟩,E0.set_ (off+1) (.slice A5 F.length c5),(hS.ext X0).put j0,(hN.only (.of_below X0) Y (by decide)).only (.put (off+1) A5 F.length c5 (.refl w5)) E0 (by decide),
   ((z1.since (by omega)) |> λhq=>uq.new (.put (off+1) A5 F.length c5 (.refl w5)) j0 E0 (by decide) hq),.put (off+1) A5 F.length c5 Y1⟩
 obtain⟨gm,om,rfl,w0⟩:=s0 A1;obtain⟨H,I2⟩:∃H,min r 20=H:=⟨_,rfl⟩;obtain⟨rr,rfl⟩:∃rr,r=H+rr:=⟨r-H,by omega⟩;obtain⟨cr,rfl⟩:∃cr,cx=H+cr:=⟨cx-H,by omega⟩;have a2:0<H:=by omega
 have Z2:min ((H:Int)+(rr:Int)) 20=(H:Int):=by omega
 have J2:H<=20:=by omega
 have s2:decide (((H+rr:Nat):Int)>0)=true:=by simp;omega
 obtain⟨batch,N0⟩:∃batch,(D.drop k).take H=batch:=⟨_,rfl⟩;have y0:batch.length=H:=by rw[<-N0,AE,List.length_drop];omega
 have v0:PiecesAt wr (some ⟨gm,om,none⟩) (H+cr) batch:=by rw[<-N0];exact w0.taken H
 have J1:Hid (∀x,x∈batch->sD h x):=zc λx hx=>by rw[<-N0]at hx;exact u1.out x (List.mem_of_mem_drop (List.mem_of_mem_take hx))
 have Q1:=zc w0;have s1:=zc N0;have m:=ls A' (some ⟨gm,om,none⟩) c' (H+cr) Q batch 1 wr hS v0;rw[y0]at m;have t1:=zc m;have K1:=zc y0;have q0:=zc hS;have S1:=zc hN;have P1:=zc v0;have v1:=zc (ev.only S1.out (.of_below (zi (Ae wr.heap.size wr))) Y (by decide));clear m w0 v0 N0 y0 I2 s0 A1 hS hN t1;go_wp2_with fail;obtain⟨O,E⟩:∃O:World->Prop,Hid (O=λw'=>w'.cell? ⟨R,off,none⟩=some (.slice A' Q.length c')):=⟨_,zc rfl⟩
 have l0:=Y.drew;have X1:uq R w wr.drew:=hO.ext (zi (Ae _ _));have m:=ls A' (some ⟨gm,om,none⟩) c' (H+cr) Q batch 1 wr.drew (q0.out.ext (zi (Ae _ _))) (P1.out.ext (zi (Ae _ _)));rw[K1.out]at m;have K0:O wr.drew:=by rw[E.out];exact l
 clear l Y hO;refine zV.begin (S:=O) 12 (by kernel_rfl) ?_;refine tN 0 ?_ ?_<|tN 1 ?_ ?_<|tN 2 ?_ ?_<|tN 3 ?_ ?_<|tN 4 ?_ ?_<|tN 5 ?_ ?_ ?_
 iterate 6
  rotate_left;intro w C;rw[E.out]at C;have A0:=C;clear C;(try simp only[pS]);go_simp;try with_reducible rfl
 try simp only[pS]
 refine tN 6 ?_ ?_ ?_;rotate_left
 ·intro w C;rw[E.out]at C;have A0:=C;clear C;go_simp;rw[Aq (by omega)];try with_reducible rfl
 try simp only[pS]
 refine zV.one (i:=7) rfl (by kernel_rfl) λK V=>?_;go_wp2_with fail;refine m.mono ?_;rintro e w2 ⟨er,cl,Ac,cc,M1,rfl,V0,z⟩;have m0:=l0.ext z;have a1:O w2:=by rw[E.out];exact(m0.cell off).trans (Ak (by omega))
 refine V.out _ _ ⟨λ_=>a1,?_⟩;clear V K m K0
 try simp only[pS]
 refine tN 8 ?_ ?_<|tN 9 ?_ ?_<|tN 10 ?_ ?_<|tN 11 ?_ ?_ ?_
 iterate 4
  rotate_left;intro w C;rw[E.out]at C;have A0:=C;clear C;(try simp only[pS]);go_simp;try with_reducible rfl
 try simp only[pS]
 refine zV.one (i:=12) rfl (by kernel_rfl) λK V=>?_;go_wp2_with fail;refine V.out _ _ ⟨λh=>by omega,?_⟩;refine zV.done (by kernel_rfl) ?_ _;clear V K E a1 O;obtain⟨F2,o1,i0⟩:=WV (batch:=batch) HI.out.1 Y0 Z0 (by rw[K1.out];omega) J1.out M1.out;subst F2;have L1:=zc i0;clear i0;have W0:=X1.ext z;have g0:=q0.out.ext (za (zi (Ae _ _)) z)
 have W1:=v1.out.only (.of_below z) l0 (by decide);have f0:=W0.slices Q0.out;have R1:=zc (Q1.out.ext (za (zi (Ae _ _)) z));have W2:cl.length<=cc:=V0.lc;have V2:=V0.cm;clear B2 N2 e1 G2 X1 z l0 q0 S1 Q1 P1;go_wp2_with fail
 go_loopw [33] (λv wt=>∃(j:Nat) (q:Option Addr) (y:Nat) (M:List zg),j<=cl.length/\v=.int .i64 j/\zj wt R 192 (cs.setIfInBounds off (.slice q M.length y))/\PiecesAt wt q y M/\ev w.heap.size wt A c S q y M /\
  Hid (wK h M/\∀t,xN M t=rX (xN Q) (cl.take j) t)/\xB wt Ac cc cl/\uq R w2 wt) (λv _=>cl.length-(intOf v).toNat)
 case atStart=>exact⟨0,A',c',Q,by omega,rfl,m0,g0,W1,zc ⟨HI.out.1,λt=>rfl⟩,V0,.refl w2⟩
 have p:=zc f0;clear m0 g0 W1 V0 f0;obtain⟨j,q,y,M,hj,rfl,Y,g,H0,U,a,N⟩:=hrel;have D3:=N.size;have S2:=zc (N.slices p.out)
 by_cases H2:j<cl.length
 case neg=>
  obtain rfl:j=cl.length:=by omega
  have HD:Hid (wK h M/\∀t,val M t=um (D.take (k+H)) t (val S t)):=zc ⟨U.out.1,λt=>by
   have h1:=U.out.2;rw[AL]at h1;rw[WT (batch:=batch) HI.out.1 J1.out M1.out h1 t,HI.out.2 t,Rg,ZT,s1.out]⟩
  have V1:PiecesAt wr (some ⟨gm,om+H*3,none⟩) cr (D.drop (k+H)):=by
   have h2:=(N.pieces p.out R1.out).drop (k:=H) (by rw[List.length_drop];omega);rw[List.drop_drop]at h2;have e:H+cr-H=cr:=by omega
   rw[e]at h2;exact h2
  have z2:=V1.lc;have C3:D.length-(k+H)=rr:=by omega
  have Z1:=W0.trans N;clear a N
  by_cases D2:cr=0
  case pos=>
   subst D2;have g1:rr=0:=by omega
   subst g1;go_wp2_with fail;go_roundw
   case rel=>exact⟨k+H,0,some ⟨gm,om,none⟩,0,q,y,M,rfl,by omega,λh=>absurd rfl h,Ay _,by omega,Y,g,H0,HD,Z1⟩
   case measure=>simp[lenOf];omega
  have X2:0<cr:=by omega
  go_wp2_with fail;go_roundw
  case rel=>exact⟨k+H,rr,some ⟨gm,om+H*3,none⟩,cr,q,y,M,rfl,by omega,λ_=>⟨gm,om+H*3,rfl,V1⟩,by omega,by omega,Y,g,H0,HD,Z1⟩
  case measure=>simp[lenOf];omega
 obtain⟨x,hx⟩:=zl H2;have HX:=zc hx;have O1:=zc (L1.out x (Ad hx));obtain⟨b,o5,rfl,q2,x0,x1,x2,x3,x4⟩:=a.get hx;clear hx;have b1:rX (xN Q) (cl.take (j+1))=uK (rX (xN Q) (cl.take j)) x:=YK HX.out;have o0:=zc b1;clear b1
 cases L:x.has with
 |false=>
  rw[L]at x3;have F0:Hid (ec x=true):=zc (by simp[ec,L]);clear L;go_wp2_with fail;have G:Below wr.heap.size wr (wr.alloc (Obj.cells #[.int .i64 x.f,.int .i64 x.t,.int .i64 x.s,.bool false,.int .i64 x.v] 221)).drew:=zi (ze (Ae _ _) _);have BC:=(zj.new wr 221 #[.int .i64 x.f,.int .i64 x.t,.int .i64 x.s,.bool false,.int .i64 x.v]).drew;have Z:=Y.ext G;obtain⟨O,E⟩:∃O:World->Prop,Hid (O=λw'=>w'.cell? ⟨R,off,none⟩=some (.slice q M.length y)/\w'.cell? ⟨wr.heap.size,0,none⟩=some (.int .i64 x.f)/\w'.cell? ⟨wr.heap.size,1,none⟩=some (.int .i64 x.t)/\w'.cell? ⟨wr.heap.size,4,none⟩=some (.int .i64 x.v)):=⟨_,zc rfl⟩
  have K0:O (wr.alloc (Obj.cells #[.int .i64 x.f,.int .i64 x.t,.int .i64 x.s,.bool false,.int .i64 x.v] 221)).drew:=by
   rw[E.out];exact⟨(Z.cell off).trans (Ak (by omega)),by rw[BC.cell];rfl,by rw[BC.cell];rfl,by rw[BC.cell];rfl⟩
  have X:=fw q y M ⟨x.f,x.t,x.v⟩ _ (g.ext G);have t0:=a.ext G;have J0:=N.ext G;clear x0 x1 x2 x3 x4 g H0 a N;refine mj.begin (S:=O) 18 (by kernel_rfl) ?_;refine tE 0 ?_ ?_<|tE 1 ?_ ?_<|tE 2 ?_ ?_<|tE 3 ?_ ?_<|tE 4 ?_ ?_<|tE 5 ?_ ?_<|tE 6 ?_ ?_<|tE 7 ?_ ?_<|tE 8 ?_ ?_<|tE 9 ?_ ?_<|tE 10 ?_ ?_<|tE 11 ?_ ?_ ?_
  iterate 12
   rotate_left;intro w C;rw[E.out]at C;obtain⟨A0,C1,D1,E1⟩:=C;(try simp only[pS]);go_simp;try with_reducible rfl
  try simp only[pS]
  refine mj.one (i:=12) rfl (by kernel_rfl) λK V=>?_;go_wp2_with fail;refine X.mono ?_;rintro e w6 ⟨ep,out,A6,c6,p0,rfl,I0,J⟩;have I:=Z.ext J;have P:=BC.ext J;have L0:O w6:=by
   rw[E.out];exact⟨(I.cell off).trans (Ak (by omega)),by rw[P.cell];rfl,by rw[P.cell];rfl,by rw[P.cell];rfl⟩
  refine V.out _ _ ⟨λ_=>L0,?_⟩;clear V K X K0
  try simp only[pS]
  refine tE 13 ?_ ?_<|tE 14 ?_ ?_ ?_
  iterate 2
   rotate_left;intro w C;rw[E.out]at C;obtain⟨A0,C1,D1,E1⟩:=C;(try simp only[pS]);go_simp;try with_reducible rfl
  try simp only[pS]
  refine mj.freeD (i:=15) (v:=?_) rfl rfl (by kernel_rfl) (λ_ _ _ h=>h) (Or.inl ⟨by rfl,?_⟩) (by assumption) ?_;rotate_left
  ·intro w C;clear C;go_simp;try with_reducible rfl
  try simp only[pS]
  refine mj.freeD (i:=16) (v:=?_) rfl rfl (by kernel_rfl) (λ_ _ _ h=>h) (Or.inl ⟨by rfl,?_⟩) (by assumption) ?_;rotate_left
  ·intro w C;clear C;go_simp;try with_reducible rfl
  try simp only[pS]
  refine mj.freeD (i:=17) (v:=?_) rfl rfl (by kernel_rfl) (λ_ _ _ h=>h) (Or.inl ⟨by rfl,?_⟩) (by assumption) ?_;rotate_left
  ·intro w C;clear C;go_simp;try with_reducible rfl
  try simp only[pS]
  refine mj.one (i:=18) rfl (by kernel_rfl) λK V=>?_;have y2:w6.frozen? ⟨R,off,none⟩=false:=I.frozen _;have y3:=I.lt;have T:w6.cell? ⟨R,off,none⟩=some (.slice q M.length y):=(I.cell off).trans (Ak (by omega));go_wp2_with fail;refine V.out _ _ ⟨λh=>by first|(exact absurd h (by decide))|(simp at h),?_⟩;refine mj.done (by kernel_rfl) ?_ _;clear V K E L0 O Z BC P y2 y3 T
  obtain⟨z0,u0,M0⟩:=Wa U.out.1 Y0 Z0 O1.out p0.out;have n0:=zc M0;clear M0 z0;have W:=(J0.ext J).slices p.out;go_wp2_with fail;go_roundw
  case rel=>
   refine⟨j+1,A6,c6,out,by omega,by go_num,?_,I0.toPiecesAt.put W,.inr ((I0.own.since ?_) |> uq.own (.put off A6 out.length c6 (.refl w6)) I (by decide)),zc ⟨u0,λt=>?_⟩,(t0.ext J).put W,.put off A6 out.length c6 (J0.ext J)⟩
   ·have h5:=I.set_ off (.slice A6 out.length c6)
    rwa[aS]at h5
   ·have h6:=W0.size
    simp;omega
   rw[n0.out,o0.out,uK,Aq F0.out];unfold pd;rw[U.out.2 t];rfl
  case measure=>simp[intOf];omega
 |true=>
  rw[L]at x3
  by_cases M2:x.v<x.s
  case pos=>
   have F0:Hid (ec x=true):=zc (by simp[ec,M2]);clear L;go_wp2_with fail;have G:Below wr.heap.size wr (wr.alloc (Obj.cells #[.int .i64 x.f,.int .i64 x.t,.int .i64 x.s,.bool true,.int .i64 x.v] 221)).drew:=zi (ze (Ae _ _) _);have BC:=(zj.new wr 221 #[.int .i64 x.f,.int .i64 x.t,.int .i64 x.s,.bool true,.int .i64 x.v]).drew;have Z:=Y.ext G;obtain⟨O,E⟩:∃O:World->Prop,Hid (O=λw'=>w'.cell? ⟨R,off,none⟩=some (.slice q M.length y)/\w'.cell? ⟨wr.heap.size,0,none⟩=some (.int .i64 x.f)/\w'.cell? ⟨wr.heap.size,1,none⟩=some (.int .i64 x.t)/\w'.cell? ⟨wr.heap.size,4,none⟩=some (.int .i64 x.v)):=⟨_,zc rfl⟩
   have K0:O (wr.alloc (Obj.cells #[.int .i64 x.f,.int .i64 x.t,.int .i64 x.s,.bool true,.int .i64 x.v] 221)).drew:=by
    rw[E.out];exact⟨(Z.cell off).trans (Ak (by omega)),by rw[BC.cell];rfl,by rw[BC.cell];rfl,by rw[BC.cell];rfl⟩
   have X:=fw q y M ⟨x.f,x.t,x.v⟩ _ (g.ext G);have t0:=a.ext G;have J0:=N.ext G;clear x0 x1 x2 x3 x4 g H0 a N;refine mj.begin (S:=O) 18 (by kernel_rfl) ?_;refine tE 0 ?_ ?_<|tE 1 ?_ ?_<|tE 2 ?_ ?_<|tE 3 ?_ ?_<|tE 4 ?_ ?_<|tE 5 ?_ ?_<|tE 6 ?_ ?_<|tE 7 ?_ ?_<|tE 8 ?_ ?_<|tE 9 ?_ ?_<|tE 10 ?_ ?_<|tE 11 ?_ ?_ ?_
   iterate 12
    rotate_left;intro w C;rw[E.out]at C;obtain⟨A0,C1,D1,E1⟩:=C;(try simp only[pS]);go_simp;try with_reducible rfl
   try simp only[pS]
   refine mj.one (i:=12) rfl (by kernel_rfl) λK V=>?_;go_wp2_with fail;refine X.mono ?_;rintro e w6 ⟨ep,out,A6,c6,p0,rfl,I0,J⟩;have I:=Z.ext J;have P:=BC.ext J;have L0:O w6:=by
    rw[E.out];exact⟨(I.cell off).trans (Ak (by omega)),by rw[P.cell];rfl,by rw[P.cell];rfl,by rw[P.cell];rfl⟩
   refine V.out _ _ ⟨λ_=>L0,?_⟩;clear V K X K0
   try simp only[pS]
   refine tE 13 ?_ ?_<|tE 14 ?_ ?_ ?_
   iterate 2
    rotate_left;intro w C;rw[E.out]at C;obtain⟨A0,C1,D1,E1⟩:=C;(try simp only[pS]);go_simp;try with_reducible rfl
   try simp only[pS]
   refine mj.freeD (i:=15) (v:=?_) rfl rfl (by kernel_rfl) (λ_ _ _ h=>h) (Or.inl ⟨by rfl,?_⟩) (by assumption) ?_;rotate_left
   ·intro w C;clear C;go_simp;try with_reducible rfl
   try simp only[pS]
   refine mj.freeD (i:=16) (v:=?_) rfl rfl (by kernel_rfl) (λ_ _ _ h=>h) (Or.inl ⟨by rfl,?_⟩) (by assumption) ?_;rotate_left
   ·intro w C;clear C;go_simp;try with_reducible rfl
   try simp only[pS]
   refine mj.freeD (i:=17) (v:=?_) rfl rfl (by kernel_rfl) (λ_ _ _ h=>h) (Or.inl ⟨by rfl,?_⟩) (by assumption) ?_;rotate_left
   ·intro w C;clear C;go_simp;try with_reducible rfl
   try simp only[pS]
   refine mj.one (i:=18) rfl (by kernel_rfl) λK V=>?_;have y2:w6.frozen? ⟨R,off,none⟩=false:=I.frozen _;have y3:=I.lt;have T:w6.cell? ⟨R,off,none⟩=some (.slice q M.length y):=(I.cell off).trans (Ak (by omega));go_wp2_with fail;refine V.out _ _ ⟨λh=>by first|(exact absurd h (by decide))|(simp at h),?_⟩;refine mj.done (by kernel_rfl) ?_ _
   clear V K E L0 O Z BC P y2 y3 T;obtain⟨z0,u0,M0⟩:=Wa U.out.1 Y0 Z0 O1.out p0.out;have n0:=zc M0;clear M0 z0;have W:=(J0.ext J).slices p.out;go_wp2_with fail;go_roundw
   case rel=>
    refine⟨j+1,A6,c6,out,by omega,by go_num,?_,I0.toPiecesAt.put W,.inr ((I0.own.since ?_) |> uq.own (.put off A6 out.length c6 (.refl w6)) I (by decide)),zc ⟨u0,λt=>?_⟩,(t0.ext J).put W,.put off A6 out.length c6 (J0.ext J)⟩
    ·have h5:=I.set_ off (.slice A6 out.length c6)
     rwa[aS]at h5
    ·have h6:=W0.size
     simp;omega
    rw[n0.out,o0.out,uK,Aq F0.out];unfold pd;rw[U.out.2 t];rfl
   case measure=>simp[intOf];omega
  have F0:Hid (¬ec x=true):=zc (by simp[ec,L];omega);clear L;go_wp2_with fail;have G:Below wr.heap.size wr (wr.alloc (Obj.cells #[.int .i64 x.f,.int .i64 x.t,.int .i64 x.s,.bool true,.int .i64 x.v] 221)):=ze (Ae _ _) _;go_roundw
  case rel=>exact⟨j+1,q,y,M,by omega,by go_num,Y.ext G,g.ext G,H0.only (.of_below G) Y (by decide),zc ⟨U.out.1,λt=>by rw[U.out.2 t,o0.out,uK,Au F0.out]⟩,a.ext G,N.ext G⟩
  case measure=>simp[intOf];omega
def xI(p v:Int)(i:Nat)(l:zw):List zg:=if p=3 then [⟨l.f,l.t,i⟩] else if (i:Int)=v then [⟨l.f,l.t,0⟩] else []
def uU(g:zf)(p v:Int):List (List zg):=g.lives.mapIdx (xI p v)
structure WJ(g:zf)(p:Int)(sts F sts' F':List (List zg)):Prop where
 len:sts'.length=g.lives.length
 lenF:F'.length=g.lives.length
 at_:∀(i:Nat) m m' f',sts[i]?=some m->sts'[i]?=some m'->F'[i]?=some f'->wK g.h m'/\(∀t,val m' t=um (oo (tM g p F) i) t (val m t))/\sB g.h m' (val m) f'
section
variable {p v t:Int}{k i:Nat}{g:zf}{sts F sts' F':List (List zg)}{was:Nat->Int->Int}{m m':List zg}{l:zw}
theorem sf:(uU g p v).length=g.lives.length:=by simp[uU]
theorem nY(h:g.lives[i]?=some l):(uU g p v)[i]?=some (xI p v i l):=by simp[uU,List.getElem?_mapIdx,h]
theorem fy{h:Int}{x:zg}(h1:0<=x.f/\x.f<x.t/\x.t<=h)(h2:0<=x.v/\x.v<=100000):wK h [x]:=
 ⟨⟨List.pairwise_singleton _ _,λy hy=>by obtain rfl:=List.mem_singleton.1 hy;exact h1.2.1⟩,λy hy=>by obtain rfl:=List.mem_singleton.1 hy;exact⟨⟨h1.1,h1.2.2⟩,h2⟩⟩
theorem cR{x:zg}:val [x] t=if x.f<=t/\t<x.t then x.v else vN:=by
 unfold val xN
 split <;> rfl
theorem pL(B:zx g)(h:g.lives[i]?=some l):wK g.h (xI p v i l):=by
 have A:=B.lives l (Ad h);have C:=(AW.1 h).1;have D:=B.nl;unfold xI
 split
 ·exact fy A ⟨by show(0:Int)<=i;omega,by show(i:Int)<=100000;omega⟩
 split
 ·exact fy A ⟨by show(0:Int)<=0;omega,by show(0:Int)<=100000;omega⟩
 exact wK.nil
theorem cI(h:g.lives[i]?=some l):val (xI p v i l) t=if zn g i t=true/\p=3 then (i:Int) else if zn g i t=true/\(i:Int)=v then 0 else vN:=by
 have D:zn g (i:Int) t=decide (l.f<=t/\t<l.t):=lC (by rw[Int.toNat_natCast];exact h);rw[D];unfold xI
 by_cases A:p=3
 ·rw[Aq A,cR]
  by_cases C:l.f<=t/\t<l.t <;> simp[A,C]
 rw[Au A]
 by_cases B:(i:Int)=v
 ·rw[Aq B,cR]
  by_cases C:l.f<=t/\t<l.t <;> simp[A,C,B]
 rw[Au B];simp[A,B,val,xN]
theorem Ur(E:zx g)(p v:Int):mC g p v 0 (uU g p v) (uU g p v) (λ_ _=>vN):=by
 have F:∀(i:Nat) m,(uU g p v)[i]?=some m->∃l,g.lives[i]?=some l/\m=xI p v i l:=λi m B=>by
  obtain⟨l,A⟩:=zl (show i<g.lives.length by
   have:=(AW.1 B).1
   rwa[sf]at this)
  rw[nY A]at B;exact⟨l,A,(AB B).symm⟩
 refine⟨⟨sf,sf,λm B=>?_,λi m B t G=>?_,λi m f C D=>?_⟩,.inl λ_ _=>rfl,λt _ _=>?_,.inl rfl⟩
 ·obtain⟨i,J⟩:=AM B
  obtain⟨l,A,rfl⟩:=F i m J;exact pL E A
 ·obtain⟨l,A,rfl⟩:=F i m B
  have H:=cI (p:=p) (v:=v) (t:=t) A
  cases I:zn g i t with
  |true=>rfl
  |false=>
   rw[I]at H;rcases(pL (p:=p) (v:=v) E A).val_cases t with⟨_,D⟩|⟨C,_⟩
   ·exact absurd D G
   rw[H]at C;simp[vN]at C
 ·rw[C]at D
  obtain rfl:=AB D;obtain⟨l,A,rfl⟩:=F i m C;exact Xd (pL E A)
 have e:rY (uU g p v) t=qb g p v t:=funext λi=>by
  rcases Nat.lt_or_ge i g.lives.length with h|h
  ·obtain⟨l,A⟩:=zl h
   rw[sK (nY A),cI A];unfold qb vo;rw[uL (show i<(xR g t).alive.length by rw[show(xR g t).alive=wn g t from rfl,wu];exact h)];rw[show(xR g t).alive=wn g t from rfl,gI h];simp
  rw[ei (by rw[sf];exact h)];unfold qb vo;rw[ta (by rw[show(xR g t).alive=wn g t from rfl,wu];exact h)]
 rw[e];exact .zero
theorem mC.few(B:mC g p v k sts F was)(C:zx g):k<=g.lives.length:=by
 rcases B.last with rfl|⟨t,d,E,j,rfl,D,A⟩
 ·exact AA _
 have G:=B.at_ t E.1 E.2
 cases G with
 |succ h2 hb=>
  obtain rfl:=D.eq h2;obtain⟨u,K⟩:∃u,rY sts t u≠d u:=Classical.byContradiction λJ=>A (funext λu=>Classical.byContradiction λH=>J ⟨u,λI=>H I.symm⟩);exact ly.few (Om C p t) (λi=>(dk C i).1) D hb K
theorem WJ.all(A:WJ g p sts F sts' F')(G:rU g sts F was)(h:sts'[i]?=some m'):∃m B,sts[i]?=some m/\F'[i]?=some B/\wK g.h m'/\(∀t,val m' t=um (oo (tM g p F) i) t (val m t))/\sB g.h m' (val m) B:=by
 have D:i<g.lives.length:=by
  have:=(AW.1 h).1
  rwa[A.len]at this
 obtain⟨m,E⟩:=zl (show i<sts.length by rw[G.len];exact D);obtain⟨f,C⟩:=zl (show i<F'.length by rw[A.lenF];exact D);exact⟨m,f,E,C,A.at_ i m m' f E h C⟩
theorem WJ.states(C:WJ g p sts F sts' F')(B:rU g sts F was)(P:zx g):rU g sts' F' (λi t=>rY sts t i):=by
 refine⟨C.len,C.lenF,λE A=>?_,λi E A t K=>?_,λi E M A J=>?_⟩
 ·obtain⟨i,Q⟩:=AM A
  obtain⟨_,_,_,_,H,_⟩:=C.all B Q;exact H
 ·obtain⟨m,f,G,_,H,N,_⟩:=C.all B A
  have D:val E t<=100000:=by
   rcases H.val_cases t with⟨_,T⟩|⟨S,_⟩
   ·exact absurd T K
   exact S
  rw[N t]at D;rcases qV (l:=oo (tM g p F) i) (t:=t) (d:=val m t)with I|⟨x,hx2,hp,_⟩
  ·rw[I]at D
   refine B.alive i m G t λR=>?_;rw[iN R]at D;unfold vN at D;omega
  obtain⟨_,_,O⟩:=B.mail P (el.1 hx2);simp only[ng,decide_eq_true_eq]at hp;exact(O t hp.1 hp.2).2.2
 obtain⟨m,U,G,L,_,_,I⟩:=C.all B A;rw[J]at L;obtain rfl:=AB L;have e:(λt=>rY sts t i)=val m:=funext λt=>sK G;show sB g.h E (λt=>rY sts t i) M;rw[e];exact I
theorem mC.next(A:mC g p v k sts F was)(K:zx g)(D:WJ g p sts F sts' F')(V:∃f,f∈F'/\f≠[]):k+1<=g.lives.length/\mC g p v (k+1) sts' F' (λi t=>rY sts t i):=by
 have N:=λt=>A.st.round K A.was D.len (λi m W E J=>by
  obtain⟨b,_,O,_,_,T,_⟩:=D.all A.st J;rw[E]at O;obtain rfl:=AB O;exact T) t
 obtain⟨f,U,M⟩:=V;obtain⟨i,Q⟩:=AM U;have L:i<g.lives.length:=by
  have:=(AW.1 Q).1
  rwa[D.lenF]at this
 obtain⟨W,I⟩:=zl (show i<sts'.length by rw[D.len];exact L);obtain⟨m,X,E,J,_,_,P⟩:=D.all A.st I;rw[Q]at J;obtain rfl:=AB J;obtain⟨q,Y,rfl⟩:=List.exists_cons_of_ne_nil M;have B:=P.in_ q (by simp);have R:=P.tells q (by simp) q.f (Int.le_refl _) B.1.2.1;have H:rY sts' q.f i≠rY sts q.f i:=by
  rw[sK I,sK E];have Z:=R.1;have a:=R.2;omega
 have C:0<=q.f/\q.f<g.h:=⟨B.1.1,by have:=B.1;omega⟩;have G:=A.at_ q.f C.1 C.2;exact⟨ly.few (Om K p q.f) (λi=>(dk K i).1) G (N q.f) H,D.states A.st K,.inr N,λt S E=>.succ (A.at_ t S E) (N t),.inr ⟨q.f,rY sts q.f,C,k,rfl,G,λe=>H (by rw[e])⟩⟩
theorem mC.done(C:mC g p v k sts F was)(L:zx g)(G:WJ g p sts F sts' F')(R:∀f,f∈F'->f=[]):sts'=sts/\tu g p v k sts:=by
 have E:∀(i:Nat) m A,sts[i]?=some m->sts'[i]?=some A->A=m/\∀t,um (oo (tM g p F) i) t (val m t)=val m t:=λi m A H N=>by
  obtain⟨U,f,I,O,P,J,Q⟩:=G.all C.st N;rw[H]at I;obtain rfl:=AB I;obtain rfl:=R f (Ad O);have M:∀t,val A t=val m t:=λt=>by
   have T:val A t<=val m t:=by rw[J t];exact oU
   rcases Int.lt_or_le (val A t) (val m t)with K|K
   ·obtain⟨q,S,_⟩:=Q.all t K
    simp at S
   omega
  exact⟨P.eq (C.st.lies m (Ad H)) M,λt=>by rw[<-J t];exact M t⟩
 refine⟨List.ext_getElem? λi=>?_,C.fin L (C.few L) λi m D t=>?_⟩
 ·rcases Nat.lt_or_ge i g.lives.length with h|h
  ·obtain⟨m,D⟩:=zl (show i<sts.length by rw[C.st.len];exact h)
   obtain⟨A,B⟩:=zl (show i<sts'.length by rw[G.len];exact h);rw[D,B,(E i m A D B).1]
  rw[List.getElem?_eq_none (by rw[G.len];exact h),List.getElem?_eq_none (by rw[C.st.len];exact h)]
 obtain⟨A,B⟩:=zl (show i<sts'.length by
  have:=(AW.1 D).1;rw[C.st.len]at this;rw[G.len];exact this)
 exact(E i m A D B).2 t
end
abbrev yZ:=List zg×Option Addr×Nat
def sV(x:yZ):Value:=.slice x.2.1 x.1.length x.2.2
abbrev xQ:=yZ×yZ
def gQ(it:xQ):List Value:=[sV it.1,sV it.2]
def kN(u:Value):Prop:=∃A n c,u=Value.slice A n c
theorem Wy(it:xQ):(gQ it).length=2:=rfl
structure tC(w:World)(base:Nat)(E:TypeId)(l:List yZ):Prop where
 own:∀x,x∈l->Own zK 3 w base E (sV x) x.1
 apart:∀(i j:Nat) x y,i≠j->l[i]?=some x->l[j]?=some y->∀b,(sV x).ownBlock=some b->(sV y).ownBlock≠some b
section
variable {w w':World}{base e gv:Nat}{E:TypeId}{l:List yZ}{items:List xQ}
theorem tC.keep(h:tC w base E l)(hk:∀x,x∈l->Own zK 3 w base E (sV x) x.1->Own zK 3 w' base E (sV x) x.1):tC w' base E l:=⟨λx hx=>hk x hx (h.own x hx),h.apart⟩
theorem tC.ext(h:tC w base E l)(hb:Below w.heap.size w w'):tC w' base E l:=h.keep λ_ _ hO=>hO.ext hb
theorem tC.nil:tC w base E []:=⟨λx hx=>by simp at hx,λi j x y _ hx=>by simp at hx⟩
theorem ti{x:yZ}(h:Own zK 3 w base E (sV x) x.1){b:Nat}(hb:(sV x).ownBlock=some b):base<=b/\b<w.heap.size:=World.ownsRow.lt h b hb
theorem tC.set(h:tC w base E l){i:Nat}{x y:yZ}(K:l[i]?=some x)(S:Own zK 3 w' base E (sV y) y.1)(R:∀(j:Nat) z,j≠i->l[j]?=some z->Own zK 3 w' base E (sV z) z.1)
  (N:∀b,(sV y).ownBlock=some b->(sV x).ownBlock=some b∨w.heap.size<=b):tC w' base E (l.set i y):=by
 have Q:=zy K;have A:∀(j:Nat) z,(l.set i y)[j]?=some z->(j=i/\z=y)∨(j≠i/\l[j]?=some z):=λj z D=>by
  by_cases H:i=j
  ·subst H
   rw[AY Q]at D;exact .inl ⟨rfl,(AB D).symm⟩
  rw[AX H]at D;exact .inr ⟨λe=>H e.symm,D⟩
 refine⟨λz D=>?_,λj k a c C P M b J B=>?_⟩
 ·obtain⟨j,H⟩:=AM D
  rcases A j z H with⟨_,rfl⟩|⟨L,F⟩
  ·exact S
  exact R j z L F
 rcases A j a P with⟨rfl,rfl⟩|⟨L,F⟩
 ·rcases A k c M with⟨rfl,_⟩|⟨O,I⟩
  ·exact C rfl
  rcases N b J with G|G
  ·exact h.apart j k x c C K I b G B
  have:=(ti (h.own c (Ad I)) B).2;omega
 rcases A k c M with⟨rfl,rfl⟩|⟨O,I⟩
 ·rcases N b B with G|G
  ·exact h.apart j k a x C F K b J G
  have:=(ti (h.own a (Ad F)) J).2;omega
 exact h.apart j k a c C F I b J B
theorem tC.snoc(h:tC w base E l){y:yZ}(P:Own zK 3 w' base E (sV y) y.1)(O:∀z,z∈l->Own zK 3 w' base E (sV z) z.1)(K:∀b,(sV y).ownBlock=some b->w.heap.size<=b):tC w' base E (l++[y]):=by
 have B:∀(j:Nat) z,(l++[y])[j]?=some z->(j=l.length/\z=y)∨(j<l.length/\l[j]?=some z):=λj z A=>by
  rcases Nat.lt_or_ge j l.length with D|D
  ·rw[List.getElem?_append_left D]at A
   exact .inr ⟨D,A⟩
  rw[List.getElem?_append_right D]at A;have G:=zy A;simp at G;obtain rfl:j=l.length:=by omega
  simp at A;exact .inl ⟨rfl,A.symm⟩
 refine⟨λz A=>?_,λj k a c F N J b I C=>?_⟩
 ·rcases AK.1 A with A|A
  ·exact O z A
  obtain rfl:z=y:=by simpa using A
  exact P
 rcases B j a N with⟨rfl,rfl⟩|⟨D,G⟩
 ·rcases B k c J with⟨rfl,_⟩|⟨L,H⟩
  ·exact F rfl
  have M:=K b I;have:=(ti (h.own c (Ad H)) C).2;omega
 rcases B k c J with⟨rfl,rfl⟩|⟨L,H⟩
 ·have M:=K b C
  have:=(ti (h.own a (Ad G)) I).2;omega
 exact h.apart j k a c F G H b I C
end
structure cX(w:World)(base e:Nat)(A:Option Addr)(c:Nat)(A':Option Addr)(c':Nat)(g:zf)(p:Int)(Av:Option Addr)(cv:Nat)(items:List xQ):Prop where
 blk:zj w e 190 #[.int .i64 g.h,.slice A g.lives.length c,.slice A' g.edges.length c',.int .i64 p,.slice Av items.length cv]
 eb:base<=e
 own:Own gQ 2 w base 192 (.slice Av items.length cv) items
 all:po kN w (.slice Av items.length cv)
 st:tC w base 113 (items.map Prod.fst)
 fr:∀it,it∈items->Own zK 3 w base 113 (sV it.2) it.2.1
 gr:zv w A c A' c' g
def pg(items:List xQ):List (List zg):=items.map λit=>it.1.1
def yV(items:List xQ):List (List zg):=items.map λit=>it.2.1
section
variable {w w':World}{base e gv c c' cv:Nat}{A A' Av:Option Addr}{g:zf}{p:Int}{items:List xQ}
theorem po.ext{Z:Value->Prop}{v:Value}{b0:Nat}(h:po Z w v)(hb:Below b0 w w')(hv:∀k,v.ownBlock=some k->k<b0):po Z w' v:=λk hk cs t fr hh=>by
 rw[hb.block k (hv k hk)]at hh;exact h k hk cs t fr hh
theorem po.blk{Z:Value->Prop}{v:Value}{k:Nat}{t:TypeId}{cs:Array Value}(h:po Z w v)(hv:v.ownBlock=some k)(hB:zj w k t cs):∀(i:Nat) u,cs[i]?=some u->Z u:=h k hv cs t (0,0) hB
theorem cX.ext(h:cX w base e A c A' c' g p Av cv items)(hb:Below w.heap.size w w'):cX w' base e A c A' c' g p Av cv items:=
 ⟨h.blk.ext hb,h.eb,h.own.ext hb,h.all.ext hb λk hk=>(World.ownsRow.lt h.own k hk).2,h.st.ext hb,λit hi=>(h.fr it hi).ext hb,h.gr.ext hb⟩
theorem cX.stays(h:cX w base e A c A' c' g p Av cv items){b0:Nat}(hb:Below b0 w w')(h0:w.heap.size<=b0):cX w' base e A c A' c' g p Av cv items:=h.ext (hb.mono h0)
theorem cX.vert(h:cX w base e A c A' c' g p Av cv items)(h0:0<items.length):∃C B,Av=some ⟨C,0,none⟩/\base<=C/\zj w C 192 B/\B.size=cv*2/\items.length<=cv/\cv<=maxLen /\
  (∀(i:Nat) it,items[i]?=some it->B[i*2]?=some (sV it.1)/\B[i*2+1]?=some (sV it.2))/\(∀(i:Nat) u,B[i]?=some u->kN u):=by
 have F:=h.own;rcases F.2 with⟨K,R⟩|⟨C,I,J,H,S,T,_⟩
 ·simp only[Value.slice.injEq]at K;omega
 simp only[Value.slice.injEq]at H;obtain⟨rfl,_,rfl⟩:=H;obtain⟨_,L,M,N,B,E,O,D⟩:=F.cells Wy;refine⟨C,B,rfl,L,E,O,M,N,λi it G=>?_,h.all.blk rfl E⟩;have P:=D i it G 0 (by decide);have Q:=D i it G 1 (by decide);exact⟨by simpa[gQ]using P,by simpa[gQ]using Q⟩
theorem qw{E:TypeId}{x:yZ}{h:Int}(A:Own zK 3 w base E (sV x) x.1)(hi:∀q,q∈x.1->sD h q)(I:h<=100):PiecesAt w x.2.1 x.2.2 x.1:=by
 obtain⟨G,H,C,F⟩:=Own.slAt (R:=iS) (enc:=zK) (λ_=>rfl) (λq D b o B=>⟨⟨by have:=B 0 _ rfl;simpa using this,by have:=B 1 _ rfl;simpa using this,by have:=B 2 _ rfl;simpa using this⟩,by
  have:=hi q D;unfold sD at this;unfold zM;omega⟩) A
 unfold sV at C A;simp only[Value.slice.injEq]at C;obtain⟨rfl,_,rfl⟩:=C;exact⟨A.room.1,A.room.2,F⟩
theorem dA{h:Int}{m:List zg}(hm:wK h m):∀q,q∈m->sD h q:=λq hq=>by
 have h1:=hm.in_ q hq;have h2:=hm.map.2 q hq;exact⟨⟨h1.1.1,h2,h1.1.2⟩,h1.2⟩
theorem cX.took(h:cX w base e A c A' c' g p Av cv items){i K:Nat}{M it':xQ}{cs:Array Value}(hi:items[i]?=some M)(s:Av=some ⟨K,0,none⟩)(P:zj w K 192 cs)(H:cs.size=cv*2)(Y:items.length<=cv)(S:cv<=maxLen)
  (T:∀(j:Nat) y,items[j]?=some y->cs[j*2]?=some (sV y.1)/\cs[j*2+1]?=some (sV y.2)) (Z:∀(j:Nat) u,cs[j]?=some u->kN u) (V:base<=K)
  (G:zj w' K 192 ((cs.setIfInBounds (i*2) (sV it'.1)).setIfInBounds (i*2+1) (sV it'.2))) (Q:uq K w w')
  (f:(it'.1=M.1)∨Own zK 3 w' w.heap.size 113 (sV it'.1) it'.1.1) (r:Own zK 3 w' w.heap.size 113 (sV it'.2) it'.2.1) (N:base<=w.heap.size) (q:zv w' A c A' c' g) :
  cX w' base e A c A' c' g p Av cv (items.set i it'):=by
 subst s;have W:=zy hi;have J:113≠192:=by decide
 have U:e≠K:=wv h.blk P (by decide);have O:Own zK 3 w base 113 (sV M.1) M.1.1:=h.st.own _ (AD.2 ⟨M,Ad hi,rfl⟩);have E:∀(j:Nat) y,(items.set i it')[j]?=some y->(j=i/\y=it')∨(j≠i/\items[j]?=some y):=λj y F=>by
  by_cases L:i=j
  ·subst L
   rw[AY W]at F;exact .inl ⟨rfl,(AB F).symm⟩
  rw[AX L]at F;exact .inr ⟨λe=>L e.symm,F⟩
 refine⟨?_,h.eb,?_,?_,?_,λy F=>?_,q⟩
 ·rw[List.length_set]
  exact Q.blk U h.blk
 ·refine Own.of_cells Wy (by decide) G V (by rw[List.length_set];exact Y) S (by simp[H]) λj y F k X=>?_
  rcases E j y F with⟨rfl,rfl⟩|⟨B,D⟩
  ·have I:k=0∨k=1:=by omega
   rcases I with rfl|rfl
   ·simp only[Nat.add_zero]
    rw[Aj (by omega),Ak (by rw[H];omega)];rfl
   rw[Ak (by simp[H];omega)];rfl
  have I:k=0∨k=1:=by omega
  obtain⟨l,m⟩:=T j y D;rcases I with rfl|rfl
  ·simp only[Nat.add_zero]
   rw[Aj (by omega),Aj (by omega),l];rfl
  rw[Aj (by omega),Aj (by omega),m];rfl
 ·intro k X n v o d j u C
  simp only[Value.ownBlock,Option.some.injEq]at X;subst X;unfold zj at G;rw[G]at d
  cases d
  by_cases B:i*2+1=j
  ·subst B
   by_cases D:i*2+1<(cs.setIfInBounds (i*2) (sV it'.1)).size
   ·rw[Ak D]at C
    exact⟨_,_,_,(AB C).symm⟩
   rw[Array.getElem?_eq_none (by simpa using D)]at C;cases C
  rw[Aj B]at C
  by_cases a:i*2=j
  ·subst a
   by_cases D:i*2<cs.size
   ·rw[Ak D]at C
    exact⟨_,_,_,(AB C).symm⟩
   rw[Array.getElem?_eq_none (by simpa using D)]at C;cases C
  rw[Aj a]at C;exact Z j u C
 ·rw[List.map_set]
  refine h.st.set (x:=M.1) (by rw[AU,hi];rfl) ?_ (λj z L t=>?_) λb R=>?_
  ·rcases f with B|B
   ·rw[B];exact Q.own P J O
   exact B.since N
  ·exact Q.own P J (h.st.own z (Ad t))
  rcases f with B|B
  ·rw[B]at R;exact .inl R
  exact .inr (ti B R).1
 obtain⟨j,L⟩:=AM F;rcases E j y L with⟨_,rfl⟩|⟨_,D⟩
 ·exact r.since N
 exact Q.own P J (h.fr y (Ad D))
end
