import Derived.Test.YtjcimdpldlamfaaGreatDoorBd5de06ae57f
namespace Go.Proofs.YtjcimdpldlamfaaGreatDoor
set_option maxHeartbeats 1000000
open Go.RowKit
abbrev OC(l:zR):Value:=.agg #[.int .i64 l.f,.int .i64 l.t,.int .i64 l.time,.int .i64 l.cost]
theorem XM(e:Nat)(cs:Array Value)(p:Int)(l:zR)(w:World)(E:zj w e 190 cs)(H:cs[3]?=some (.int .i64 p)) :
  Calls Tryz.prog 160 #[.pointer (some ⟨e,0,none⟩),OC l] w λF I=>F=.returned (.int .i64 (moreL p l))/\Below w.heap.size w I:=by
 have G:=E.lt;have D:w.cell? ⟨e,3,none⟩=some (.int .i64 p):=(E.cell 3).trans H
 by_cases B:p=1
 ·have A:Hid (moreL p l=1):=zc (by unfold moreL;rw[Aq B])
  subst B
  go_enter Tryz.func160,Tryz.ntmps160
  go_wp2_with fail;go_ret;exact⟨zC A.out.symm,by go_grown⟩
 by_cases C:p=2
 ·have A:Hid (moreL p l=l.cost):=zc (by unfold moreL;rw[Au B,Aq C])
  subst C
  go_enter Tryz.func160,Tryz.ntmps160
  go_wp2_with fail;go_ret;exact⟨zC A.out.symm,by go_grown⟩
 have A:Hid (moreL p l=0):=zc (by unfold moreL;rw[Au B,Au C])
 go_enter Tryz.func160,Tryz.ntmps160
 go_wp2_with fail;go_ret;exact⟨zC A.out.symm,by go_grown⟩
set_option maxRecDepth 100000
set_option maxHeartbeats 4000000
def sj(m:vP):List Value:=[.int .i64 m.1,.int .i64 m.2.f,.int .i64 m.2.t,.int .i64 m.2.v]
theorem aE{a b c d:Int}:∀u∈(#[.int .i64 a,.int .i64 b,.int .i64 c,.int .i64 d]:Array Value).toList,u.oneCell'=true:=by simp[Value.oneCell']
theorem Sa:(Tryz.prog.info? 212).map (λi=>(i.zero,i.size,i.bytes))=some (some (.agg #[.int .i64 0,.int .i64 0,.int .i64 0,.int .i64 0]),4,32):=by kernel_rfl
theorem di:∃i,Tryz.prog.info? 212=some i/\i.zero=some (.agg #[.int .i64 0,.int .i64 0,.int .i64 0,.int .i64 0])/\i.size=4/\i.bytes=32:=by
 obtain⟨C,B,A⟩:=Option.map_eq_some_iff.1 Sa;simp only[Prod.mk.injEq]at A;exact⟨C,B,A.1,A.2.1,A.2.2⟩
def eA(p:Int)(life:zw)(legs:List zR)(fresh:List zg)(k:Nat):List zg:=uJ p life (legs.take k) fresh
def kQ(p:Int)(life:zw)(l:zR)(fresh:List zg)(j:Nat):List zg:=(fresh.take j).flatMap (uV p life l)
theorem YB{p:Int}{A:zw}{legs:List zR}{fresh:List zg}{k:Nat}{l:zR}(h:legs[k]?=some l):eA p A legs fresh (k+1)=eA p A legs fresh k++kQ p A l fresh fresh.length:=by
 unfold eA kQ uJ;rw[AO,h,List.flatMap_append];simp
theorem pA{p:Int}{A:zw}{l:zR}{fresh:List zg}{j:Nat}{q:zg}(h:fresh[j]?=some q):kQ p A l fresh (j+1)=kQ p A l fresh j++uV p A l q:=by
 unfold kQ;rw[AO,h,List.flatMap_append];simp
def Yp(to:Int)(l:List zg)(w:World)(e:Ending)(w':World):Prop:=∃v,e=.returned v/\Own sj 4 w' w.heap.size 212 v (l.map (Prod.mk to))/\Below w.heap.size w w'
theorem Tj(e gv n cv c c' d cl:Nat)(cs:Array Value)(A A' B L:Option Addr)(g:zf)(p:Int)(x:zA)(fr to:Int)(fresh:List zg)(C:zw)(w:World)
  (hE:zj w e 190 #[.int .i64 g.h,.slice A g.lives.length c,.slice A' g.edges.length c',.int .i64 p,.slice (some ⟨gv,0,none⟩) n cv])
  (hG:zv w A c A' c' g) (hV:zj w gv 192 cs) (B3:0<=fr) (C3:fr<n) (w0:cs[fr.toNat*2+1]?=some (.slice B fresh.length d)) (hF:PiecesAt w B d fresh)
  (hX:zU yY 4 w L x.legs) (hl:x.legs.length<=maxLen) (I3:0<=to) (J3:to<g.lives.length) (x0:g.lives[to.toNat]?=some C)
  (hq:∀q,q∈fresh->0<=q.v/\q.v<=100000) (hm:∀l,l∈x.legs->0<=moreL p l/\moreL p l<=1000) (R0:x.legs.length*fresh.length<=100000) :
  Calls Tryz.prog 152 #[.pointer (some ⟨e,0,none⟩),.agg #[.int .i64 x.a,.int .i64 x.b,.slice L x.legs.length cl],.int .i64 fr,.int .i64 to] w (Yp to (uJ p C x.legs fresh) w):=by
 obtain⟨i0,hi,B1,C1,D1⟩:=di;have m1:g.lives.length<=9223372036854775807:=Ai hG.lc hG.cm;have m2:=hF.len;unfold maxLen at hl;have HQ:=zc hq;have HM:=zc hm;have k0:=zc R0;obtain⟨bl,ol,s0⟩:=hG.lives;obtain⟨rfl,A3,⟨v0,v1⟩,_⟩:=s0 _ C x0;unfold zJ at v0 v1;have HF:=zc hF;have HX:=zc hX;have HE:=zc hE;have HV:=zc hV;have Q1:=zc w0;have HG:=zc hG;obtain⟨e1,e2,e3⟩:=hE.facts
 clear s0 hq hm R0 hF hX hV w0 x0 hG
 go_enter Tryz.func152,Tryz.ntmps152
 go_wp2_with fail;have u0:Below w.heap.size w ((w.alloc (Obj.cells #[.int .i64 x.a,.int .i64 x.b,.slice L x.legs.length cl] 97)).alloc (Obj.cells #[.int .i64 C.f,.int .i64 C.t] 94)):=by go_grown
 have BL:zj ((w.alloc (Obj.cells #[.int .i64 x.a,.int .i64 x.b,.slice L x.legs.length cl] 97)).alloc (Obj.cells #[.int .i64 C.f,.int .i64 C.t] 94)) (w.heap.size+1) 94 #[.int .i64 C.f,.int .i64 C.t]:=zj.new_ (by simp);clear e1 e2 e3 v0 v1
 go_loopw [10,27] (λu v wt=>∃(k:Nat) (o:List vP),k<=x.legs.length/\v=.int .i64 k/\Own sj 4 wt w.heap.size 212 u o/\Hid (o=(eA p C x.legs fresh k).map (Prod.mk to)/\o.length<=k*fresh.length) /\
  zj wt (w.heap.size+1) 94 #[.int .i64 C.f,.int .i64 C.t]/\Below w.heap.size w wt) (λ_ v _=>x.legs.length-(intOf v).toNat)
 case atStart=>exact⟨0,[],AA _,rfl,Own.nil,zc ⟨rfl,by simp⟩,BL,u0⟩
 clear BL u0 hE;obtain⟨k,o,hk,rfl,hO,HO,BL,hb⟩:=hrel;have w1:=hb.size;obtain⟨Ao,co,rfl⟩:=hO.form
 by_cases p1:k<x.legs.length
 case neg=>
  obtain rfl:k=x.legs.length:=by omega
  go_wp2_with fail;refine AP (v:=.slice Ao o.length co) (by simp[results,Tryz.results152]) rfl ?_;refine⟨_,rfl,?_,hb⟩;have h1:=HO.out.1;unfold eA at h1;rw[AL]at h1;rw[<-h1];exact hO
 obtain⟨l,Y0⟩:=zl p1;have j0:=zc Y0;obtain⟨bg,og,hS⟩:=HX.out;obtain⟨rfl,i1,⟨l0,l1,l2,l3⟩,Q0⟩:=hS k l Y0;unfold zJ at l0 l1 l2 l3;rw[<-hb.cell (by exact i1)]at l0 l1 l2 l3;obtain⟨e1,e2,e3⟩:=(HE.out.ext hb).facts;obtain⟨y1,y2,y3⟩:=(HV.out.ext hb).facts;have j1:=(y1 _).trans Q1.out;have x2:=zc Q0;obtain⟨b1,b2,b3⟩:=BL.facts;clear hS Y0 y1 Q0;go_wp2_with fail;have BG:=zj.new wr 100 #[.int .i64 l.f,.int .i64 l.t,.int .i64 l.time,.int .i64 l.cost]
 have O1:=hO.alloc (Obj.cells #[.int .i64 l.f,.int .i64 l.t,.int .i64 l.time,.int .i64 l.cost] 100);have N:=BL.alloc (Obj.cells #[.int .i64 l.f,.int .i64 l.t,.int .i64 l.time,.int .i64 l.cost] 100);have s:=ze hb (Obj.cells #[.int .i64 l.f,.int .i64 l.t,.int .i64 l.time,.int .i64 l.cost] 100);obtain⟨gl,k1⟩:∃gl:Nat,wr.heap.size=gl:=⟨_,rfl⟩;have c2:Hid (moreL p l=moreL p l):=zc rfl;rw[k1]at BG w1⊢
 clear e1 e2 e3 y2 y3 j1 b1 b2 b3 l0 l1 l2 l3 hO BL hb
 go_loopw [10,40] (λu v wt=>∃(j:Nat) (o2:List vP),j<=fresh.length/\v=.int .i64 j/\Own sj 4 wt w.heap.size 212 u o2/\Hid (o2=o++(kQ p C l fresh j).map (Prod.mk to)/\o2.length<=k*fresh.length+j) /\
  zj wt (w.heap.size+1) 94 #[.int .i64 C.f,.int .i64 C.t]/\zj wt gl 100 #[.int .i64 l.f,.int .i64 l.t,.int .i64 l.time,.int .i64 l.cost]/\Below w.heap.size w wt) (λ_ v _=>fresh.length-(intOf v).toNat)
 case atStart=>exact⟨0,o,AA _,rfl,O1,zc ⟨by simp[kQ],by simpa using HO.out.2⟩,N,BG,s⟩
 clear BG O1 N s;obtain⟨j,o2,hj,rfl,hO,E,BL,BG,hb⟩:=hrel;have O2:=hb.size;obtain⟨W2,r2,rfl⟩:=hO.form
 by_cases A1:j<fresh.length
 case neg=>
  obtain rfl:j=fresh.length:=by omega
  go_wp2_with fail;go_roundw
  case rel=>
   refine⟨k+1,o2,by omega,by go_num,hO,zc ⟨?_,?_⟩,BL,hb⟩
   ·rw[E.out.1,HO.out.1,YB j0.out,List.map_append]
   rw[Nat.succ_mul];exact E.out.2
  case measure=>simp[intOf];omega
 obtain⟨q,hq⟩:=zl A1;have L0:=zc hq;obtain⟨bf,L3,rfl,g1,q0,q1,q2⟩:=HF.out.get hq;rw[<-hb.cell (by exact g1)]at q0 q1 q2;have t1:=HQ.out q (Ad hq);have H3:=HM.out l (Ad j0.out);have Y2:=zc t1;clear hq;go_wp2_with fail;have F0:Below wr.heap.size wr (wr.alloc (Obj.cells #[.int .i64 q.f,.int .i64 q.t,.int .i64 q.v] 113)):=ze (Ae _ _) _
 have BP:=zj.new wr 113 #[.int .i64 q.f,.int .i64 q.t,.int .i64 q.v];have N:=BL.ext F0;have R:=BG.ext F0;have g0:=HE.out.ext (za hb F0);have O1:=hO.ext F0;have s:=za hb F0;obtain⟨gp,n1⟩:∃gp:Nat,wr.heap.size=gp:=⟨_,rfl⟩;obtain⟨D,u1⟩:∃D:World,wr.alloc (Obj.cells #[.int .i64 q.f,.int .i64 q.t,.int .i64 q.v] 113)=D:=⟨_,rfl⟩;rw[u1]at BP N R g0 O1 s⊢;rw[n1]at BP⊢
 have S0:D.cell? ⟨gp,0,none⟩=some (.int .i64 q.f)/\D.cell? ⟨gp,1,none⟩=some (.int .i64 q.t)/\D.cell? ⟨gp,2,none⟩=some (.int .i64 q.v)/\D.cell? ⟨gl,0,none⟩=some (.int .i64 l.f)/\D.cell? ⟨gl,1,none⟩=some (.int .i64 l.t)/\D.cell? ⟨gl,2,none⟩=some (.int .i64 l.time)/\D.cell? ⟨gl,3,none⟩=some (.int .i64 l.cost)/\D.cell? ⟨w.heap.size+1,0,none⟩=some (.int .i64 C.f)/\D.cell? ⟨w.heap.size+1,1,none⟩=some (.int .i64 C.t):=
  ⟨by rw[BP.cell];rfl,by rw[BP.cell];rfl,by rw[BP.cell];rfl,by rw[R.cell];rfl,by rw[R.cell];rfl,by rw[R.cell];rfl,by rw[R.cell];rfl,by rw[N.cell];rfl,by rw[N.cell];rfl⟩
 have N2:IntKind.i64.wrap (q.v+moreL p l)=q.v+moreL p l:=AQ _ (by omega);obtain⟨J,s1⟩:∃J:Int,(if (if q.f<l.f then l.f else q.f)<C.f then C.f else if q.f<l.f then l.f else q.f)=J:=⟨_,rfl⟩;obtain⟨M,r1⟩:∃M:Int,(if C.t<(if l.t<q.t then l.t else q.t) then C.t else if l.t<q.t then l.t else q.t)=M:=⟨_,rfl⟩;have K0:Hid (oV p C l q=⟨J,M,q.v+moreL p l⟩):=zc (by
  have e1:max (max q.f l.f) C.f=J:=by rw[<-s1];split <;> split <;> omega
  have e2:min (min q.t l.t) C.t=M:=by rw[<-r1];split <;> split <;> omega
  unfold oV;rw[e1,e2])
 have K3:=s.size;have G3:=BP.lt;have E3:=R.lt;have F3:=N.lt;clear q0 q1 q2 hO BL BG hb;obtain⟨S1,r⟩:∃S1:World->Prop,Hid (S1=λV=>V.cell? ⟨gp,0,none⟩=some (.int .i64 q.f)/\V.cell? ⟨gp,1,none⟩=some (.int .i64 q.t)/\V.cell? ⟨gp,2,none⟩=some (.int .i64 q.v)/\V.cell? ⟨gl,0,none⟩=some (.int .i64 l.f)/\V.cell? ⟨gl,1,none⟩=some (.int .i64 l.t)/\V.cell? ⟨gl,2,none⟩=some (.int .i64 l.time)/\V.cell? ⟨gl,3,none⟩=some (.int .i64 l.cost)/\V.cell? ⟨w.heap.size+1,0,none⟩=some (.int .i64 C.f)/\V.cell? ⟨w.heap.size+1,1,none⟩=some (.int .i64 C.t)):=⟨_,zc rfl⟩
 have c1:S1 D.drew:=by rw[r.out];exact S0
 have O:Hid (∀V,Below D.heap.size D V->S1 V):=zc λV h=>by rw[r.out];exact OO h S0
 have J0:Hid (∀V,Below D.heap.size D V->zj V e 190 #[.int .i64 g.h,.slice (some ⟨bl,ol,none⟩) g.lives.length c,.slice A' g.edges.length c',.int .i64 p,.slice (some ⟨gv,0,none⟩) n cv]):=zc λV h=>g0.ext h;clear S0;refine zB S1 (by kernel_rfl) ?_;refine tH 0 ?_ ?_<|tH 1 ?_ ?_<|tH 2 ?_ ?_<|tH 3 ?_ ?_<|tH 4 ?_ ?_<|tH 5 ?_ ?_<|tH 6 ?_ ?_<|tH 7 ?_ ?_<|tH 8 ?_ ?_<|tH 9 ?_ ?_<|tH 10 ?_ ?_<|tH 11 ?_ ?_<|tH 12 ?_ ?_<|tH 13 ?_ ?_<|tH 14 ?_ ?_<|tH 15 ?_ ?_<|tH 16 ?_ ?_<|tH 17 ?_ ?_ ?_
 iterate 18
  rotate_left;intro w T;rw[r.out]at T;obtain⟨E1,F1,G1,H1,I1,J1,K1,L1,M1⟩:=T;(try simp only[pS]);go_simp;try with_reducible rfl
 try simp only[pS]
 refine jB (i:=18) (j:=21) rfl rfl (by kernel_rfl) (λK S=>?_) (λK S=>?_)
 ·go_wp2_with fail
  refine(XM e _ p l _ (J0.out _ (zi (Ae D.heap.size D))) rfl).mono ?_;rintro en X ⟨rfl,B0⟩;have Q:Below D.heap.size D X:=za (zi (Ae D.heap.size D)) B0;have P:S1 X:=O.out _ Q;refine S.out _ _ ⟨P,?_⟩;clear S K
  try simp only[pS]
  refine tH 19 ?_ ?_<|tH 20 ?_ ?_ ?_
  iterate 2
   rotate_left;intro w T;rw[r.out]at T;obtain⟨E1,F1,G1,H1,I1,J1,K1,L1,M1⟩:=T;(try simp only[pS]);go_simp;try with_reducible rfl
  try simp only[pS]
  refine zu (i:=21) rfl (by kernel_rfl) λK S=>?_;go_wp2_with fail;refine S.out _ _ ⟨O.out _ (ze Q _),?_⟩;clear S K
  try simp only[pS]
  refine zu (i:=22) rfl (by kernel_rfl) λK S=>?_;go_wp2_with fail;refine S.out _ _ ⟨O.out _ (ze Q _),?_⟩;clear S K;refine wpAnyH_done (by kernel_rfl) ?_ _
  try simp only[pS]
  have BM:=zj.new X 210 #[.int .i64 J,.int .i64 M,.int .i64 (q.v+moreL p l)];have G:Below D.heap.size D (X.alloc (Obj.cells #[.int .i64 J,.int .i64 M,.int .i64 (q.v+moreL p l)] 210)):=ze Q _;obtain⟨gm,O0⟩:∃gm:Nat,X.heap.size=gm:=⟨_,rfl⟩;obtain⟨W,hW⟩:∃W:World,X.alloc (Obj.cells #[.int .i64 J,.int .i64 M,.int .i64 (q.v+moreL p l)] 210)=W:=⟨_,rfl⟩;rw[O0]at BM⊢;rw[hW]at BM G⊢
  have P:=P;clear P Q B0 J0 O r;have Z:=N.ext G;have Y:=R.ext G;have OW:=O1.ext G;have H:=za s G;have b0:=H.size;obtain⟨z0,z1,z2⟩:=BM.facts;have y:o2.length+1<=1000000:=by
   have h1:=E.out.2;have h2:(k+1)*fresh.length<=100000:=Ai (Nat.mul_le_mul_right _ (by omega)) k0.out;rw[Nat.succ_mul]at h2;omega
  have o1:k*fresh.length+j+1<=k*fresh.length+(j+1):=by omega
  by_cases U:J<M
  case neg=>
   have m:Hid (uV p C l q=[]):=zc (by unfold uV;rw[K0.out,Au U]);go_wp2_with fail;go_roundw
   case rel=>exact⟨j+1,o2,by omega,by go_num,OW,zc ⟨by rw[E.out.1,pA L0.out,m.out,AR],by have:=E.out.2;omega⟩,Z,Y,H⟩
   case measure=>simp[intOf];omega
  have m:Hid (uV p C l q=[⟨J,M,q.v+moreL p l⟩]):=zc (by unfold uV;rw[K0.out,Aq U]);go_wp2_with (at_builtin;refine zr (enc:=sj) rfl (.tmp 70) (.tmp 74) 166 rfl w.heap.size 212 i0 _ 4 32 Tryz.underlying166 hi B1 C1 D1 rfl (by decide) _ o2 ((to,⟨J,M,q.v+moreL p l⟩):vP) rfl OW #[.int .i64 to,.int .i64 J,.int .i64 M,.int .i64 (q.v+moreL p l)] rfl _ rfl rfl rfl aE y (by decide) b0 ?_;intro g7 m0 w7 z G0 I Z0;have V0:=I _ _ _ Z (OW.other Z (by decide));have U0:=I _ _ _ Y (OW.other Y (by decide));have X0:=H.trans G0)
  go_roundw
  case rel=>
   refine⟨j+1,o2++[(to,⟨J,M,q.v+moreL p l⟩)],by omega,by go_num,?_,zc ⟨by rw[E.out.1,pA L0.out,m.out];simp,by have:=E.out.2;simp;omega⟩,V0,U0,X0⟩;simpa using z
  case measure=>simp[intOf];omega
 go_wp2_with fail;refine S.out _ _ ⟨O.out _ (ze (zi (Ae D.heap.size D)) (Obj.cells #[.int .i64 0,.int .i64 0,.int .i64 0] 210)),?_⟩;have d1:=O.out _ (ze (zi (Ae D.heap.size D)) (Obj.cells #[.int .i64 0,.int .i64 0,.int .i64 0] 210));clear S K c1
 try simp only[pS]
 refine zu (i:=18) rfl (by kernel_rfl) λK S=>?_;go_wp2_with fail;refine(XM e _ p l _ (J0.out _ (ze (zi (Ae D.heap.size D)) (Obj.cells #[.int .i64 0,.int .i64 0,.int .i64 0] 210))) rfl).mono ?_;rintro en X ⟨rfl,B0⟩;have Q:Below D.heap.size D X:=za (ze (zi (Ae D.heap.size D)) (Obj.cells #[.int .i64 0,.int .i64 0,.int .i64 0] 210)) B0
 have P:S1 X:=O.out _ Q;refine S.out _ _ ⟨P,?_⟩;clear S K
 try simp only[pS]
 refine tH 19 ?_ ?_<|tH 20 ?_ ?_ ?_
 iterate 2
  rotate_left;intro w T;rw[r.out]at T;obtain⟨E1,F1,G1,H1,I1,J1,K1,L1,M1⟩:=T;(try simp only[pS]);go_simp;try with_reducible rfl
 try simp only[pS]
 have F:=(zj.new D.drew 210 #[.int .i64 0,.int .i64 0,.int .i64 0]).ext B0;have y0:X.cell? ⟨D.heap.size,0,none⟩=some (.int .i64 0):=F.cell 0;have y1:X.cell? ⟨D.heap.size,1,none⟩=some (.int .i64 0):=F.cell 1;have y2:X.cell? ⟨D.heap.size,2,none⟩=some (.int .i64 0):=F.cell 2;have f0:X.frozen? ⟨D.heap.size,0,none⟩=false:=F.frozen 0;have f1:X.frozen? ⟨D.heap.size,1,none⟩=false:=F.frozen 1
 have f2:X.frozen? ⟨D.heap.size,2,none⟩=false:=F.frozen 2;have y3:=F.lt;refine zu (i:=22) rfl (by kernel_rfl) λK S=>?_;go_wp2_with fail;obtain⟨gm,O0⟩:∃gm:Nat,D.heap.size=gm:=⟨_,rfl⟩;have H0:D.heap.size<=gm:=by omega
 obtain⟨W,hW⟩:∃W:World,((X.setCell ⟨gm,0,none⟩ (.int .i64 J)).setCell ⟨gm,1,none⟩ (.int .i64 M)).setCell ⟨gm,2,none⟩ (.int .i64 (q.v+moreL p l))=W:=⟨_,rfl⟩;have F:zj X gm 210 #[.int .i64 0,.int .i64 0,.int .i64 0]:=by rw[<-O0];exact F
 have BM:zj W gm 210 #[.int .i64 J,.int .i64 M,.int .i64 (q.v+moreL p l)]:=by
  have h9:=((F.set_ 0 (.int .i64 J)).set_ 1 (.int .i64 M)).set_ 2 (.int .i64 (q.v+moreL p l));rw[hW]at h9;exact h9
 have G:Below D.heap.size D W:=by rw[<-hW];exact((Q.setCell H0 _).setCell H0 _).setCell H0 _
 rw[O0,hW];refine S.out _ _ ⟨O.out _ G,?_⟩;clear S K y0 y1 y2 y3 f0 f1 f2 F d1;refine wpAnyH_done (by kernel_rfl) ?_ _
 try simp only[pS]
 have P:=P;clear P Q B0 J0 O r;have Z:=N.ext G;have Y:=R.ext G;have OW:=O1.ext G;have H:=za s G;have b0:=H.size;obtain⟨z0,z1,z2⟩:=BM.facts;have y:o2.length+1<=1000000:=by
  have h1:=E.out.2;have h2:(k+1)*fresh.length<=100000:=Ai (Nat.mul_le_mul_right _ (by omega)) k0.out;rw[Nat.succ_mul]at h2;omega
 have o1:k*fresh.length+j+1<=k*fresh.length+(j+1):=by omega
 by_cases U:J<M
 case neg=>
  have m:Hid (uV p C l q=[]):=zc (by unfold uV;rw[K0.out,Au U]);go_wp2_with fail;go_roundw
  case rel=>exact⟨j+1,o2,by omega,by go_num,OW,zc ⟨by rw[E.out.1,pA L0.out,m.out,AR],by have:=E.out.2;omega⟩,Z,Y,H⟩
  case measure=>simp[intOf];omega
 have m:Hid (uV p C l q=[⟨J,M,q.v+moreL p l⟩]):=zc (by unfold uV;rw[K0.out,Aq U]);go_wp2_with (at_builtin;refine zr (enc:=sj) rfl (.tmp 70) (.tmp 74) 166 rfl w.heap.size 212 i0 _ 4 32 Tryz.underlying166 hi B1 C1 D1 rfl (by decide) _ o2 ((to,⟨J,M,q.v+moreL p l⟩):vP) rfl OW #[.int .i64 to,.int .i64 J,.int .i64 M,.int .i64 (q.v+moreL p l)] rfl _ rfl rfl rfl aE y (by decide) b0 ?_;intro g7 m0 w7 z G0 I Z0;have V0:=I _ _ _ Z (OW.other Z (by decide));have U0:=I _ _ _ Y (OW.other Y (by decide));have X0:=H.trans G0)
 go_roundw
 case rel=>
  refine⟨j+1,o2++[(to,⟨J,M,q.v+moreL p l⟩)],by omega,by go_num,?_,zc ⟨by rw[E.out.1,pA L0.out,m.out];simp,by have:=E.out.2;simp;omega⟩,V0,U0,X0⟩;simpa using z
 case measure=>simp[intOf];omega
