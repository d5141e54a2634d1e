import Derived.Deep.CutBlock
import Derived.Test.YtjcimdpldlamfaaGreatDoorBd5284351ea8
import Derived.Test.YtjcimdpldlamfaaGreatDoorBd345c9495f3
namespace Go.Proofs.YtjcimdpldlamfaaGreatDoor
set_option maxRecDepth 100000
set_option maxHeartbeats 8000000
open Go.RowKit
theorem rx.put{base k i:Nat}{w:World}{A H:Option Addr}{c I:Nat}{s:zH}{cs:Array Value}{u:Value}(h:rx base w A c H I s)(J:zj w k 86 cs):rx base (w.setCell ⟨k,i,none⟩ u) A c H I s:=by
 have C:=h.2.1.keep (zG J (by decide) i u);have D:=h.2.2.keep (zG J (by decide) i u);refine⟨⟨C.room.1,C.room.2,D.room.1,D.room.2,?_,?_⟩,C,D⟩
 ·obtain⟨B,d,G,F⟩:=lY C
  injection G with E;subst E;exact F
 obtain⟨b,o,K⟩:=h.1.arcs;obtain⟨B,d,G,F⟩:=XU D λx M=>by
  obtain⟨j,L⟩:=AM M;exact(K j x L).2.2.2
 injection G with E;subst E;exact F
theorem bE(A U An:Option Addr)(c Y cn:Nat)(g:zf)(n:List Int)(V4:Value)(w:World)(hG:zv w A c U Y g)(hV:zx g)(hN:zI w An cn n)(hn:n.length=1)(H0:∀x,x∈n->0<=x)(ht:ITab w) :
  Calls Tryz.prog 40 #[gV A c U Y g,.string ⟨#[108,97,98,101,108,115]⟩,.slice An n.length cn,V4] w λe L=>e=.returned (.string (bs (vA g n)))/\Below w.heap.size w L:=by
 obtain⟨x,rfl⟩:∃x,n=[x]:=by
  match n,hn with
  |[x],_=>exact⟨x,rfl⟩
 obtain⟨b,o,rfl,b0,x0⟩:=hN.get (k:=0) (x:=x) rfl;rw[Nat.add_zero]at x0;have HG:=zc hG;have HT:=zc ht;have m:=zc hV;have E1:Hid (0<=x):=zc (H0 x (by simp));have HI:Hid (∀k,k∈[x]->zM k):=zc hN.i64;have m1:g.lives.length<=9223372036854775807:=Ai hG.lc hG.cm;clear hG ht hV hN hn H0
 go_enter Tryz.func40,Tryz.ntmps40
 go_wp2_with fail;have BG:=zj.new w 68 (gC A c U Y g);have d:=ze (Ae w.heap.size w) (Obj.cells (gC A c U Y g) 68);change Code.wp _ _ _ _ (w.alloc (Obj.cells (gC A c U Y g) 68));obtain⟨C,u⟩:∃C,w.alloc (Obj.cells (gC A c U Y g) 68)=C:=⟨_,rfl⟩;rw[u]at BG d⊢;obtain⟨X,Z⟩:∃X:World->Prop,Hid (X=λL=>L.cell? ⟨w.heap.size,0,none⟩=some (.int .i64 g.h)/\L.cell? ⟨w.heap.size,1,none⟩=some (.slice A g.lives.length c)/\L.cell? ⟨w.heap.size,2,none⟩=some (.slice U g.edges.length Y)/\L.cell? ⟨b,o,none⟩=some (.int .i64 x)  ):=⟨_,zc rfl⟩
 have HX:Hid (w.cell? ⟨b,o,none⟩=some (.int .i64 x)):=zc x0;have F:Hid (∀L,Below C.heap.size C L->X L):=zc λL h=>by
  have hB:=BG.ext h;have hw:=za d h;rw[Z.out];exact⟨hB.cell 0,hB.cell 1,hB.cell 2,(hw.cell (p:=⟨b,o,none⟩) b0).trans HX.out⟩
 have S:=zc d;have z0:=zc BG;have g0:Below C.heap.size C C:=Ae _ _;clear x0 BG d u;have J1:=m.out.h1;have I1:=m.out.h0;have N1:IntKind.i64.wrap (g.h-1)=g.h-1:=AQ _ (by omega);obtain⟨q,u⟩:∃q,vQ x 0 (g.h-1)=q:=⟨_,rfl⟩;have R0:Hid (∀W:World,Calls Tryz.prog 82 #[.int .i64 x,.int .i64 0,.int .i64 (g.h-1)] W λe L=>e=.returned (.bool q)/\Below W.heap.size W L):=zc λW=>(xh x 0 (g.h-1) W).mono λe L ⟨h1,h2⟩=>⟨by rw[h1,u],by rw[h2];exact Ae _ _⟩
 have HQ:=zc u;clear u;have G0:=zi g0;have Z0:X C.drew:=F.out _ G0;refine zB X (by kernel_rfl) ?_;refine tH 0 ?_ ?_<|tH 1 ?_ ?_<|tH 2 ?_ ?_<|tH 3 ?_ ?_<|tH 4 ?_ ?_<|tH 5 ?_ ?_ ?_
 iterate 6
  rotate_left;intro w I;rw[Z.out]at I;obtain⟨J0,K0,L0,M0⟩:=I;(try simp only[pS]);go_simp;try with_reducible rfl
 try simp only[pS]
 refine zu (i:=6) rfl (by kernel_rfl) λK D=>?_;go_wp2_with fail;refine(R0.out _).mono ?_;rintro e Q ⟨rfl,c0⟩;have E:Below C.heap.size C Q:=za G0 c0;have f:=F.out _ E;refine D.out _ _ ⟨f,?_⟩;clear D K Z0
 try simp only[pS]
 refine tH 7 ?_ ?_ ?_;rotate_left
 ·intro w I;rw[Z.out]at I;obtain⟨J0,K0,L0,M0⟩:=I;(try simp only[pS]);go_simp;try with_reducible rfl
 try simp only[pS]
 refine wpAnyH_done (by kernel_rfl) ?_ _
 try simp only[pS]
 clear f
 cases q with
 |false=>
  have HR:Hid (vA g [x]=yO 1):=zc (by
   have h1:wF g x=1:=by
    unfold wF;rw[Aq (xK m.out),Au];intro h;have h2:=sO.2 h;rw[HQ.out]at h2
    cases h2
   show uo g x _=_;unfold uo;rw[h1,Au (by decide)])
  have HW:=zc (zP 1 (zt (by decide) (by decide)) Q (HT.out.ext (za S.out E)));go_wp2_with fail;refine HW.out.mono ?_;rintro e R ⟨rfl,G⟩;go_wp2_with fail;go_ret;exact⟨by rw[HR.out];rfl,za S.out (za E G)⟩
 |true=>
  have I0:0<=x/\x<=g.h-1:=sO.1 HQ.out;have v:Hid (wF g x=0):=zc (by unfold wF;rw[Aq (xK m.out),Aq I0]);have y:Hid (pu g x=xR g x):=zc (by unfold pu;rw[Aq v.out]);have V:Hid (zW (xR g x)=0):=zc (kg m.out x);have z:Hid ((xR g x).alive.length=g.lives.length):=zc (wu g x);have A0:Hid (∀W:World,Below C.heap.size C W->Calls Tryz.prog 83 #[gV A c U Y g,.int .i64 x] W (jv g x W)):=zc λW h=>iH A U c Y g x W (HG.out.ext (za S.out h)) m.out
  obtain⟨s,hs⟩:∃s,xR g x=s:=⟨_,rfl⟩;have B0:=zc hs;rw[hs]at y V z;clear hs I0;go_upto_region 12 with fail
  go_cut [13] from 74 to 78 (λn0 wx=>∃(gs:Nat) (M N:Option Addr) (O P:Nat),n0=.pointer (some ⟨gs,0,none⟩)/\zj wx gs 86 #[.slice M s.alive.length O,.slice N s.arcs.length P]/\wY wx M O N P s/\Below C.heap.size C wx)
  case first=>
   have a:=zi E;have Y0:X Q.drew:=F.out _ a;go_wp2_with fail;refine zB X (by kernel_rfl) ?_;refine tH 0 ?_ ?_<|tH 1 ?_ ?_<|tH 2 ?_ ?_<|tH 3 ?_ ?_ ?_
   iterate 4
    rotate_left;intro w I;rw[Z.out]at I;obtain⟨J0,K0,L0,M0⟩:=I;(try simp only[pS]);go_simp;try with_reducible rfl
   try simp only[pS]
   refine jB (i:=4) (j:=5) rfl rfl (by kernel_rfl) (λK D=>?_) (λK D=>?_)
   ·go_wp2_with fail
    refine(A0.out _ a).mono ?_;rintro e R ⟨M,O,N,P,rfl,B,J⟩;rw[B0.out]at B⊢;have G:Below C.heap.size C R:=za a J;have r:X R:=F.out _ G;refine D.out _ _ ⟨r,?_⟩;clear D K
    try simp only[pS]
    refine zu (i:=5) rfl (by kernel_rfl) λK D=>?_;go_wp2_with fail;refine D.out _ _ ⟨F.out _ (ze G _),?_⟩;clear D K
    try simp only[pS]
    refine zu (i:=6) rfl (by kernel_rfl) λK D=>?_;go_wp2_with fail;have t:=F.out _ (ze G (Obj.cells #[.slice M s.alive.length O,.slice N s.arcs.length P] 86));refine D.out _ _ ⟨t,?_⟩;clear D K
    try simp only[pS]
    refine wpAnyH_done (by kernel_rfl) ?_ _;go_wp2_with fail;go_meet;exact⟨R.heap.size,M,N,O,P,rfl,zj.new _ _ _,B.1.ext (ze (Ae _ _) _),ze G _⟩
   go_wp2_with fail;have T:Below C.heap.size C (Q.drew.alloc (Obj.cells #[.slice none 0 0,.slice none 0 0] 86)):=ze a _;have D0:=F.out _ T;refine D.out _ _ ⟨D0,?_⟩;clear D K Y0
   try simp only[pS]
   refine zu (i:=4) rfl (by kernel_rfl) λK D=>?_;go_wp2_with fail;refine(A0.out _ T).mono ?_;rintro e R ⟨M,O,N,P,rfl,B,J⟩;rw[B0.out]at B⊢;have G:Below C.heap.size C R:=za T J;have r:X R:=F.out _ G;refine D.out _ _ ⟨r,?_⟩;clear D K
   try simp only[pS]
   have H:=(zj.new Q.drew 86 #[.slice none 0 0,.slice none 0 0]).ext J;have y0:R.cell? ⟨Q.heap.size,0,none⟩=some (.slice none 0 0):=H.cell 0;have y1:R.cell? ⟨Q.heap.size,1,none⟩=some (.slice none 0 0):=H.cell 1;have f0:R.frozen? ⟨Q.heap.size,0,none⟩=false:=H.frozen 0;have f1:R.frozen? ⟨Q.heap.size,1,none⟩=false:=H.frozen 1;have y3:=H.lt;refine zu (i:=6) rfl (by kernel_rfl) λK D=>?_
   go_wp2_with fail;have F0:Below C.heap.size C ((R.setCell ⟨Q.heap.size,0,none⟩ (.slice M s.alive.length O)).setCell ⟨Q.heap.size,1,none⟩ (.slice N s.arcs.length P)):=(G.setCell E.size _).setCell E.size _;have t:=F.out _ F0;refine D.out _ _ ⟨t,?_⟩;clear D K
   try simp only[pS]
   refine wpAnyH_done (by kernel_rfl) ?_ _;go_wp2_with fail;go_meet;refine⟨Q.heap.size,M,N,O,P,rfl,?_,?_,F0⟩
   ·have h9:=(H.set_ 0 (.slice M s.alive.length O)).set_ 1 (.slice N s.arcs.length P)
    exact h9
   exact((B.put H).put (H.set_ 0 _)).1
  obtain⟨gs,M,N,O,P,rfl,BS,B,T⟩:=hcut;obtain⟨wA,rfl⟩:∃x,x=wc:=⟨_,rfl⟩;have m5:=B.lc;have m6:=B.cm;have m7:=B.lc';have m8:=B.cm';have T0:=zc (sw V.out);have B1:=zc B;obtain⟨s0,s1,_⟩:wA.cell? ⟨gs,0,none⟩=some (.slice M s.alive.length O)/\wA.cell? ⟨gs,1,none⟩=some (.slice N s.arcs.length P)/\True:=⟨BS.cell 0,BS.cell 1,trivial⟩;have S0:=zc (bF M N O P s 0 wA B T0.out)
  clear BS B;go_wp2_with fail;refine S0.out.mono ?_;rintro e w5 ⟨l,Al,cl,kk,hl,rfl,a0,j0,d0⟩;have HR:Hid (vA g [x]=yb l 0):=zc (by
   have ho:vc s l:=dt V.out hl;show uo g x _=_;unfold uo;rw[Aq v.out,y.out];show yb (the (vc s)) (zW s)=_;rw[du ho,V.out])
  have K1:l.length<=12:=by rw[hl.1,z.out];exact m.out.nl
  have E0:=za T d0;have V0:=zc (vm Al l.length cl l 0 w5 (xZ a0 j0) (by omega) (zt (by decide) (by decide)) (HT.out.ext (za S.out E0)));clear hl;go_wp2_with fail;refine V0.out.mono ?_;rintro e w7 ⟨rfl,e0⟩;go_wp2_with fail;go_ret;rw[HR.out];exact⟨rfl,za S.out (za E0 e0)⟩
theorem We(A Z An:Option Addr)(c a cn:Nat)(g:zf)(n:List Int)(V4:Value)(w:World)(hG:zv w A c Z a g)(hV:zx g)(hN:zI w An cn n)(hn:n.length=2)(M0:∀x,x∈n->0<=x)(ht:ITab w) :
  Calls Tryz.prog 40 #[gV A c Z a g,.string ⟨#[104,111,112,115]⟩,.slice An n.length cn,V4] w λe E=>e=.returned (.string (bs (tT g n)))/\Below w.heap.size w E:=by
 obtain⟨x,y,rfl⟩:=vI hn;obtain⟨b,o,rfl,J0,x0,x1⟩:=hN.two;have HG:=zc hG;have HT:=zc ht;have HV:=zc hV;have v0:Hid (0<=x/\0<=y):=zc ⟨M0 x (by simp),M0 y (by simp)⟩;have HI:Hid (∀k,k∈[x,y]->zM k):=zc hN.i64;have m1:g.lives.length<=9223372036854775807:=Ai hG.lc hG.cm;clear hG ht hV hN hn M0
 go_enter Tryz.func40,Tryz.ntmps40
 go_wp2_with fail;have BG:=zj.new w 68 (gC A c Z a g);have u:=ze (Ae w.heap.size w) (Obj.cells (gC A c Z a g) 68);change Code.wp _ _ _ _ (w.alloc (Obj.cells (gC A c Z a g) 68));obtain⟨F,hq⟩:∃F,w.alloc (Obj.cells (gC A c Z a g) 68)=F:=⟨_,rfl⟩;rw[hq]at BG u⊢;obtain⟨m,X⟩:∃m:World->Prop,Hid (m=λE=>E.cell? ⟨w.heap.size,0,none⟩=some (.int .i64 g.h)/\E.cell? ⟨w.heap.size,1,none⟩=some (.slice A g.lives.length c)/\E.cell? ⟨w.heap.size,2,none⟩=some (.slice Z g.edges.length a)/\E.cell? ⟨b,o,none⟩=some (.int .i64 x)/\E.cell? ⟨b,o+1,none⟩=some (.int .i64 y)):=⟨_,zc rfl⟩
 have HX:Hid (w.cell? ⟨b,o,none⟩=some (.int .i64 x)/\w.cell? ⟨b,o+1,none⟩=some (.int .i64 y)):=zc ⟨x0,x1⟩;have G:Hid (∀E,Below F.heap.size F E->m E):=zc λE h=>by
  have hB:=BG.ext h;have hw:=za u h;rw[X.out];exact⟨hB.cell 0,hB.cell 1,hB.cell 2,(hw.cell (p:=⟨b,o,none⟩) J0).trans HX.out.1,(hw.cell (p:=⟨b,o+1,none⟩) J0).trans HX.out.2⟩
 have M:=zc u;have b1:=zc BG;have G1:Below F.heap.size F F:=Ae _ _;clear x0 x1 BG u hq;have o1:=HV.out.h1;have n1:=HV.out.h0;have r1:IntKind.i64.wrap (g.h-1)=g.h-1:=AQ _ (by omega);obtain⟨q,hq⟩:∃q,vQ x 0 (g.h-1)=q:=⟨_,rfl⟩;have p0:Hid (∀W:World,Calls Tryz.prog 82 #[.int .i64 x,.int .i64 0,.int .i64 (g.h-1)] W λe E=>e=.returned (.bool q)/\Below W.heap.size W E):=zc λW=>(xh x 0 (g.h-1) W).mono λe E ⟨h1,h2⟩=>⟨by rw[h1,hq],by rw[h2];exact Ae _ _⟩
 have HQ:=zc hq;clear hq;have t:=zi G1;have A1:m F.drew:=G.out _ t;refine zB m (by kernel_rfl) ?_;refine tH 0 ?_ ?_<|tH 1 ?_ ?_<|tH 2 ?_ ?_<|tH 3 ?_ ?_<|tH 4 ?_ ?_<|tH 5 ?_ ?_ ?_
 iterate 6
  rotate_left;intro w B;rw[X.out]at B;obtain⟨v,z,A0,d0,e0⟩:=B;(try simp only[pS]);go_simp;try with_reducible rfl
 try simp only[pS]
 refine zu (i:=6) rfl (by kernel_rfl) λK D=>?_;go_wp2_with fail;refine(p0.out _).mono ?_;rintro e S ⟨rfl,D1⟩;have H:Below F.heap.size F S:=za t D1;have B0:=G.out _ H;refine D.out _ _ ⟨B0,?_⟩;clear D K A1
 try simp only[pS]
 refine tH 7 ?_ ?_ ?_;rotate_left
 ·intro w B;rw[X.out]at B;obtain⟨v,z,A0,d0,e0⟩:=B;(try simp only[pS]);go_simp;try with_reducible rfl
 try simp only[pS]
 refine wpAnyH_done (by kernel_rfl) ?_ _
 try simp only[pS]
 clear B0
 cases q with
 |false=>
  have HR:Hid (tT g [x,y]=yO 1):=zc (by
   have h1:wF g x=1:=by
    unfold wF;rw[Aq (xK HV.out),Au];intro h;have h2:=sO.2 h;rw[HQ.out]at h2
    cases h2
   show uo g x _=_;unfold uo;rw[h1,Au (by decide)])
  have HW:=zc (zP 1 (zt (by decide) (by decide)) S (HT.out.ext (za M.out H)));go_wp2_with fail;refine HW.out.mono ?_;rintro e T ⟨rfl,I⟩;go_wp2_with fail;go_ret;exact⟨by rw[HR.out];rfl,za M.out (za H I)⟩
 |true=>
  have a0:0<=x/\x<=g.h-1:=sO.1 HQ.out;have E0:Hid (wF g x=0):=zc (by unfold wF;rw[Aq (xK HV.out),Aq a0]);have F0:Hid (pu g x=xR g x):=zc (by unfold pu;rw[Aq E0.out]);have d:Hid (zW (xR g x)=0):=zc (kg HV.out x);have f:Hid ((xR g x).alive.length=g.lives.length):=zc (wu g x);have S0:Hid (∀W:World,Below F.heap.size F W->Calls Tryz.prog 83 #[gV A c Z a g,.int .i64 x] W (jv g x W)):=zc λW h=>iH A Z c a g x W (HG.out.ext (za M.out h)) HV.out
  obtain⟨s,hs⟩:∃s,xR g x=s:=⟨_,rfl⟩;have T0:=zc hs;rw[hs]at F0 d f;clear hs a0;go_upto_region 12 with fail
  go_cut [13] from 74 to 78 (λL1 wx=>∃(gs:Nat) (O P:Option Addr) (Q R:Nat),L1=.pointer (some ⟨gs,0,none⟩)/\zj wx gs 86 #[.slice O s.alive.length Q,.slice P s.arcs.length R]/\wY wx O Q P R s/\Below F.heap.size F wx)
  case first=>
   have r:=zi H;have z0:m S.drew:=G.out _ r;go_wp2_with fail;refine zB m (by kernel_rfl) ?_;refine tH 0 ?_ ?_<|tH 1 ?_ ?_<|tH 2 ?_ ?_<|tH 3 ?_ ?_ ?_
   iterate 4
    rotate_left;intro w B;rw[X.out]at B;obtain⟨v,z,A0,d0,e0⟩:=B;(try simp only[pS]);go_simp;try with_reducible rfl
   try simp only[pS]
   refine jB (i:=4) (j:=5) rfl rfl (by kernel_rfl) (λK D=>?_) (λK D=>?_)
   ·go_wp2_with fail
    refine(S0.out _ r).mono ?_;rintro e T ⟨O,Q,P,R,rfl,C,N⟩;rw[T0.out]at C⊢;have I:Below F.heap.size F T:=za r N;have H0:m T:=G.out _ I;refine D.out _ _ ⟨H0,?_⟩;clear D K
    try simp only[pS]
    refine zu (i:=5) rfl (by kernel_rfl) λK D=>?_;go_wp2_with fail;refine D.out _ _ ⟨G.out _ (ze I _),?_⟩;clear D K
    try simp only[pS]
    refine zu (i:=6) rfl (by kernel_rfl) λK D=>?_;go_wp2_with fail;have I0:=G.out _ (ze I (Obj.cells #[.slice O s.alive.length Q,.slice P s.arcs.length R] 86));refine D.out _ _ ⟨I0,?_⟩;clear D K
    try simp only[pS]
    refine wpAnyH_done (by kernel_rfl) ?_ _;go_wp2_with fail;go_meet;exact⟨T.heap.size,O,P,Q,R,rfl,zj.new _ _ _,C.1.ext (ze (Ae _ _) _),ze I _⟩
   go_wp2_with fail;have J:Below F.heap.size F (S.drew.alloc (Obj.cells #[.slice none 0 0,.slice none 0 0] 86)):=ze r _;have X0:=G.out _ J;refine D.out _ _ ⟨X0,?_⟩;clear D K z0
   try simp only[pS]
   refine zu (i:=4) rfl (by kernel_rfl) λK D=>?_;go_wp2_with fail;refine(S0.out _ J).mono ?_;rintro e T ⟨O,Q,P,R,rfl,C,N⟩;rw[T0.out]at C⊢;have I:Below F.heap.size F T:=za J N;have H0:m T:=G.out _ I;refine D.out _ _ ⟨H0,?_⟩;clear D K
   try simp only[pS]
   have L:=(zj.new S.drew 86 #[.slice none 0 0,.slice none 0 0]).ext N;have y0:T.cell? ⟨S.heap.size,0,none⟩=some (.slice none 0 0):=L.cell 0;have y1:T.cell? ⟨S.heap.size,1,none⟩=some (.slice none 0 0):=L.cell 1;have f0:T.frozen? ⟨S.heap.size,0,none⟩=false:=L.frozen 0;have f1:T.frozen? ⟨S.heap.size,1,none⟩=false:=L.frozen 1;have y3:=L.lt;refine zu (i:=6) rfl (by kernel_rfl) λK D=>?_
   go_wp2_with fail;have Z0:Below F.heap.size F ((T.setCell ⟨S.heap.size,0,none⟩ (.slice O s.alive.length Q)).setCell ⟨S.heap.size,1,none⟩ (.slice P s.arcs.length R)):=(I.setCell H.size _).setCell H.size _;have I0:=G.out _ Z0;refine D.out _ _ ⟨I0,?_⟩;clear D K
   try simp only[pS]
   refine wpAnyH_done (by kernel_rfl) ?_ _;go_wp2_with fail;go_meet;refine⟨S.heap.size,O,P,Q,R,rfl,?_,?_,Z0⟩
   ·have h9:=(L.set_ 0 (.slice O s.alive.length Q)).set_ 1 (.slice P s.arcs.length R)
    exact h9
   exact((C.put L).put (L.set_ 0 _)).1
  obtain⟨gs,O,P,Q,R,rfl,BS,C,J⟩:=hcut;obtain⟨Y,rfl⟩:∃x,x=wc:=⟨_,rfl⟩;have m5:=C.lc;have m6:=C.cm;have m7:=C.lc';have m8:=C.cm';have q0:=zc (sw d.out);have r0:=zc C;obtain⟨c0,c1,c2,c3,c4⟩:Y.cell? ⟨w.heap.size,0,none⟩=some (.int .i64 g.h)/\Y.cell? ⟨w.heap.size,1,none⟩=some (.slice A g.lives.length c)/\Y.cell? ⟨w.heap.size,2,none⟩=some (.slice Z g.edges.length a)/\Y.cell? ⟨b,o,none⟩=some (.int .i64 x)/\Y.cell? ⟨b,o+1,none⟩=some (.int .i64 y):=by
   have h9:=G.out Y J;rw[X.out]at h9;exact h9
  have o0:=zc c4;have F1:b<Y.heap.size:=AV J0 (Ai M.out.size J.size)
  by_cases hy:y<g.lives.length
  case neg=>
   have t:decide (y ≥ (g.lives.length:Int))=true:=by simp;omega
   have HR:Hid (tT g [x,y]=yO 4):=zc (by
    have h1:yk s y=4:=sT d.out (by rw[f.out];exact λh=>hy h.2);show uo g x _=_;unfold uo;rw[Aq E0.out,F0.out];show yb (the (xu s gS y)) (yk s y)=_;rw[h1];rfl)
   have HW:=zc (λnq=>zP 4 (zt (by decide) (by decide)) (Y.drewN nq) (HT.out.ext (za M.out (zo J nq))));clear hy BS C;go_wp2_with fail
   go_quiet (fail)
   go_wp2_with fail;refine(HW.out _).mono ?_;rintro e w5 ⟨rfl,K0⟩;go_wp2_with fail;go_ret;exact⟨by rw[HR.out];rfl,za M.out (za (zo J nq) K0)⟩
  have t:decide (y ≥ (g.lives.length:Int))=false:=by simp;omega
  have U0:Hid (yk s y=0):=zc (pl d.out (by rw[f.out];exact⟨v0.out.2,hy⟩));have n0:=zc BS;clear hy BS C;go_wp2_with fail
  go_quiet (fail)
  clear c0 c1 c2 c3 c4;go_wp2_with fail;obtain⟨wr,N0⟩:∃wr,Y.drewN nq=wr:=⟨_,rfl⟩;have U:Hid (Below Y.heap.size Y wr):=zc (by rw[<-N0];exact zo (Ae _ _) nq);rw[N0];clear N0;obtain⟨S2,V⟩:∃S2:World->Prop,Hid (S2=λE=>E.cell? ⟨gs,0,none⟩=some (.slice O s.alive.length Q)/\E.cell? ⟨gs,1,none⟩=some (.slice P s.arcs.length R)/\E.cell? ⟨b,o+1,none⟩=some (.int .i64 y)):=⟨_,zc rfl⟩
  have Q0:Hid (∀E,Below wr.heap.size wr E->S2 E):=zc λE h=>by
   have h8:=za U.out h;have hB:=n0.out.ext h8;rw[V.out];exact⟨hB.cell 0,hB.cell 1,(h8.cell (p:=⟨b,o+1,none⟩) F1).trans o0.out⟩
  have H1:Below wr.heap.size wr wr:=Ae _ _;have L0:=zi H1;have B1:S2 wr.drew:=Q0.out _ L0;refine zB S2 (by kernel_rfl) ?_;refine tH 0 ?_ ?_<|tH 1 ?_ ?_<|tH 2 ?_ ?_<|tH 3 ?_ ?_<|tH 4 ?_ ?_ ?_
  iterate 5
   rotate_left;intro w B;rw[V.out]at B;obtain⟨v,z,A0⟩:=B;(try simp only[pS]);go_simp;try with_reducible rfl
  try simp only[pS]
  refine zu (i:=5) rfl (by kernel_rfl) λK D=>?_;go_wp2_with fail;refine(Wi O P Q R s y _ (r0.out.ext (za U.out L0)) q0.out).mono ?_;rintro e w5 ⟨l,Al,cl,kk,hl,rfl,C1,I1,K0⟩;have D0:Below wr.heap.size wr w5:=za L0 K0;have C0:=Q0.out _ D0;have HR:Hid (tT g [x,y]=yb l 0):=zc (by
   have ho:xu s gS y l:=by unfold xu;rw[Aq U0.out];exact hl
   show uo g x _=_;unfold uo;rw[Aq E0.out,F0.out];show yb (the (xu s gS y)) (yk s y)=_;rw[iP ho,U0.out])
  have p1:l.length<=12:=by rw[hl.1,f.out];exact HV.out.nl
  refine D.out _ _ ⟨C0,?_⟩;clear D K B1
  try simp only[pS]
  refine tH 6 ?_ ?_<|tH 7 ?_ ?_<|tH 8 ?_ ?_<|tH 9 ?_ ?_<|tH 10 ?_ ?_ ?_
  iterate 5
   rotate_left;intro w B;rw[V.out]at B;obtain⟨v,z,A0⟩:=B;(try simp only[pS]);go_simp;try with_reducible rfl
  try simp only[pS]
  refine wpAnyH_done (by kernel_rfl) ?_ _
  try simp only[pS]
  clear C0;have Y0:=za J (za U.out D0);have s0:=zc (vm Al l.length cl l 0 w5 (xZ C1 I1) (by omega) (zt (by decide) (by decide)) (HT.out.ext (za M.out Y0)));go_wp2_with fail;refine s0.out.mono ?_;rintro e w7 ⟨rfl,E1⟩;go_wp2_with fail;go_ret;rw[HR.out];exact⟨rfl,za M.out (za Y0 E1)⟩
theorem ZW(A Z An:Option Addr)(c a cn:Nat)(g:zf)(n:List Int)(V4:Value)(w:World)(hG:zv w A c Z a g)(hV:zx g)(hN:zI w An cn n)(hn:n.length=2)(M0:∀x,x∈n->0<=x)(ht:ITab w) :
  Calls Tryz.prog 40 #[gV A c Z a g,.string ⟨#[99,111,115,116,115]⟩,.slice An n.length cn,V4] w λe E=>e=.returned (.string (bs (uj g n)))/\Below w.heap.size w E:=by
 obtain⟨x,y,rfl⟩:=vI hn;obtain⟨b,o,rfl,J0,x0,x1⟩:=hN.two;have HG:=zc hG;have HT:=zc ht;have HV:=zc hV;have v0:Hid (0<=x/\0<=y):=zc ⟨M0 x (by simp),M0 y (by simp)⟩;have HI:Hid (∀k,k∈[x,y]->zM k):=zc hN.i64;have m1:g.lives.length<=9223372036854775807:=Ai hG.lc hG.cm;clear hG ht hV hN hn M0
 go_enter Tryz.func40,Tryz.ntmps40
 go_wp2_with fail;have BG:=zj.new w 68 (gC A c Z a g);have u:=ze (Ae w.heap.size w) (Obj.cells (gC A c Z a g) 68);change Code.wp _ _ _ _ (w.alloc (Obj.cells (gC A c Z a g) 68));obtain⟨F,hq⟩:∃F,w.alloc (Obj.cells (gC A c Z a g) 68)=F:=⟨_,rfl⟩;rw[hq]at BG u⊢;obtain⟨m,X⟩:∃m:World->Prop,Hid (m=λE=>E.cell? ⟨w.heap.size,0,none⟩=some (.int .i64 g.h)/\E.cell? ⟨w.heap.size,1,none⟩=some (.slice A g.lives.length c)/\E.cell? ⟨w.heap.size,2,none⟩=some (.slice Z g.edges.length a)/\E.cell? ⟨b,o,none⟩=some (.int .i64 x)/\E.cell? ⟨b,o+1,none⟩=some (.int .i64 y)):=⟨_,zc rfl⟩
 have HX:Hid (w.cell? ⟨b,o,none⟩=some (.int .i64 x)/\w.cell? ⟨b,o+1,none⟩=some (.int .i64 y)):=zc ⟨x0,x1⟩;have G:Hid (∀E,Below F.heap.size F E->m E):=zc λE h=>by
  have hB:=BG.ext h;have hw:=za u h;rw[X.out];exact⟨hB.cell 0,hB.cell 1,hB.cell 2,(hw.cell (p:=⟨b,o,none⟩) J0).trans HX.out.1,(hw.cell (p:=⟨b,o+1,none⟩) J0).trans HX.out.2⟩
 have M:=zc u;have b1:=zc BG;have G1:Below F.heap.size F F:=Ae _ _;clear x0 x1 BG u hq;have o1:=HV.out.h1;have n1:=HV.out.h0;have r1:IntKind.i64.wrap (g.h-1)=g.h-1:=AQ _ (by omega);obtain⟨q,hq⟩:∃q,vQ x 0 (g.h-1)=q:=⟨_,rfl⟩;have p0:Hid (∀W:World,Calls Tryz.prog 82 #[.int .i64 x,.int .i64 0,.int .i64 (g.h-1)] W λe E=>e=.returned (.bool q)/\Below W.heap.size W E):=zc λW=>(xh x 0 (g.h-1) W).mono λe E ⟨h1,h2⟩=>⟨by rw[h1,hq],by rw[h2];exact Ae _ _⟩
 have HQ:=zc hq;clear hq;have t:=zi G1;have A1:m F.drew:=G.out _ t;refine zB m (by kernel_rfl) ?_;refine tH 0 ?_ ?_<|tH 1 ?_ ?_<|tH 2 ?_ ?_<|tH 3 ?_ ?_<|tH 4 ?_ ?_<|tH 5 ?_ ?_ ?_
 iterate 6
  rotate_left;intro w B;rw[X.out]at B;obtain⟨v,z,A0,d0,e0⟩:=B;(try simp only[pS]);go_simp;try with_reducible rfl
 try simp only[pS]
 refine zu (i:=6) rfl (by kernel_rfl) λK D=>?_;go_wp2_with fail;refine(p0.out _).mono ?_;rintro e S ⟨rfl,D1⟩;have H:Below F.heap.size F S:=za t D1;have B0:=G.out _ H;refine D.out _ _ ⟨B0,?_⟩;clear D K A1
 try simp only[pS]
 refine tH 7 ?_ ?_ ?_;rotate_left
 ·intro w B;rw[X.out]at B;obtain⟨v,z,A0,d0,e0⟩:=B;(try simp only[pS]);go_simp;try with_reducible rfl
 try simp only[pS]
 refine wpAnyH_done (by kernel_rfl) ?_ _
 try simp only[pS]
 clear B0
 cases q with
 |false=>
  have HR:Hid (uj g [x,y]=yO 1):=zc (by
   have h1:wF g x=1:=by
    unfold wF;rw[Aq (xK HV.out),Au];intro h;have h2:=sO.2 h;rw[HQ.out]at h2
    cases h2
   show uo g x _=_;unfold uo;rw[h1,Au (by decide)])
  have HW:=zc (zP 1 (zt (by decide) (by decide)) S (HT.out.ext (za M.out H)));go_wp2_with fail;refine HW.out.mono ?_;rintro e T ⟨rfl,I⟩;go_wp2_with fail;go_ret;exact⟨by rw[HR.out];rfl,za M.out (za H I)⟩
 |true=>
  have a0:0<=x/\x<=g.h-1:=sO.1 HQ.out;have E0:Hid (wF g x=0):=zc (by unfold wF;rw[Aq (xK HV.out),Aq a0]);have F0:Hid (pu g x=xR g x):=zc (by unfold pu;rw[Aq E0.out]);have d:Hid (zW (xR g x)=0):=zc (kg HV.out x);have f:Hid ((xR g x).alive.length=g.lives.length):=zc (wu g x);have S0:Hid (∀W:World,Below F.heap.size F W->Calls Tryz.prog 83 #[gV A c Z a g,.int .i64 x] W (jv g x W)):=zc λW h=>iH A Z c a g x W (HG.out.ext (za M.out h)) HV.out
  obtain⟨s,hs⟩:∃s,xR g x=s:=⟨_,rfl⟩;have T0:=zc hs;rw[hs]at F0 d f;clear hs a0;go_upto_region 12 with fail
  go_cut [13] from 74 to 78 (λL1 wx=>∃(gs:Nat) (O P:Option Addr) (Q R:Nat),L1=.pointer (some ⟨gs,0,none⟩)/\zj wx gs 86 #[.slice O s.alive.length Q,.slice P s.arcs.length R]/\wY wx O Q P R s/\Below F.heap.size F wx)
  case first=>
   have r:=zi H;have z0:m S.drew:=G.out _ r;go_wp2_with fail;refine zB m (by kernel_rfl) ?_;refine tH 0 ?_ ?_<|tH 1 ?_ ?_<|tH 2 ?_ ?_<|tH 3 ?_ ?_ ?_
   iterate 4
    rotate_left;intro w B;rw[X.out]at B;obtain⟨v,z,A0,d0,e0⟩:=B;(try simp only[pS]);go_simp;try with_reducible rfl
   try simp only[pS]
   refine jB (i:=4) (j:=5) rfl rfl (by kernel_rfl) (λK D=>?_) (λK D=>?_)
   ·go_wp2_with fail
    refine(S0.out _ r).mono ?_;rintro e T ⟨O,Q,P,R,rfl,C,N⟩;rw[T0.out]at C⊢;have I:Below F.heap.size F T:=za r N;have H0:m T:=G.out _ I;refine D.out _ _ ⟨H0,?_⟩;clear D K
    try simp only[pS]
    refine zu (i:=5) rfl (by kernel_rfl) λK D=>?_;go_wp2_with fail;refine D.out _ _ ⟨G.out _ (ze I _),?_⟩;clear D K
    try simp only[pS]
    refine zu (i:=6) rfl (by kernel_rfl) λK D=>?_;go_wp2_with fail;have I0:=G.out _ (ze I (Obj.cells #[.slice O s.alive.length Q,.slice P s.arcs.length R] 86));refine D.out _ _ ⟨I0,?_⟩;clear D K
    try simp only[pS]
    refine wpAnyH_done (by kernel_rfl) ?_ _;go_wp2_with fail;go_meet;exact⟨T.heap.size,O,P,Q,R,rfl,zj.new _ _ _,C.1.ext (ze (Ae _ _) _),ze I _⟩
   go_wp2_with fail;have J:Below F.heap.size F (S.drew.alloc (Obj.cells #[.slice none 0 0,.slice none 0 0] 86)):=ze r _;have X0:=G.out _ J;refine D.out _ _ ⟨X0,?_⟩;clear D K z0
   try simp only[pS]
   refine zu (i:=4) rfl (by kernel_rfl) λK D=>?_;go_wp2_with fail;refine(S0.out _ J).mono ?_;rintro e T ⟨O,Q,P,R,rfl,C,N⟩;rw[T0.out]at C⊢;have I:Below F.heap.size F T:=za J N;have H0:m T:=G.out _ I;refine D.out _ _ ⟨H0,?_⟩;clear D K
   try simp only[pS]
   have L:=(zj.new S.drew 86 #[.slice none 0 0,.slice none 0 0]).ext N;have y0:T.cell? ⟨S.heap.size,0,none⟩=some (.slice none 0 0):=L.cell 0;have y1:T.cell? ⟨S.heap.size,1,none⟩=some (.slice none 0 0):=L.cell 1;have f0:T.frozen? ⟨S.heap.size,0,none⟩=false:=L.frozen 0;have f1:T.frozen? ⟨S.heap.size,1,none⟩=false:=L.frozen 1;have y3:=L.lt;refine zu (i:=6) rfl (by kernel_rfl) λK D=>?_
   go_wp2_with fail;have Z0:Below F.heap.size F ((T.setCell ⟨S.heap.size,0,none⟩ (.slice O s.alive.length Q)).setCell ⟨S.heap.size,1,none⟩ (.slice P s.arcs.length R)):=(I.setCell H.size _).setCell H.size _;have I0:=G.out _ Z0;refine D.out _ _ ⟨I0,?_⟩;clear D K
   try simp only[pS]
   refine wpAnyH_done (by kernel_rfl) ?_ _;go_wp2_with fail;go_meet;refine⟨S.heap.size,O,P,Q,R,rfl,?_,?_,Z0⟩
   ·have h9:=(L.set_ 0 (.slice O s.alive.length Q)).set_ 1 (.slice P s.arcs.length R)
    exact h9
   exact((C.put L).put (L.set_ 0 _)).1
  obtain⟨gs,O,P,Q,R,rfl,BS,C,J⟩:=hcut;obtain⟨Y,rfl⟩:∃x,x=wc:=⟨_,rfl⟩;have m5:=C.lc;have m6:=C.cm;have m7:=C.lc';have m8:=C.cm';have q0:=zc (sw d.out);have r0:=zc C;obtain⟨c0,c1,c2,c3,c4⟩:Y.cell? ⟨w.heap.size,0,none⟩=some (.int .i64 g.h)/\Y.cell? ⟨w.heap.size,1,none⟩=some (.slice A g.lives.length c)/\Y.cell? ⟨w.heap.size,2,none⟩=some (.slice Z g.edges.length a)/\Y.cell? ⟨b,o,none⟩=some (.int .i64 x)/\Y.cell? ⟨b,o+1,none⟩=some (.int .i64 y):=by
   have h9:=G.out Y J;rw[X.out]at h9;exact h9
  have o0:=zc c4;have F1:b<Y.heap.size:=AV J0 (Ai M.out.size J.size)
  by_cases hy:y<g.lives.length
  case neg=>
   have t:decide (y ≥ (g.lives.length:Int))=true:=by simp;omega
   have HR:Hid (uj g [x,y]=yO 4):=zc (by
    have h1:yk s y=4:=sT d.out (by rw[f.out];exact λh=>hy h.2);show uo g x _=_;unfold uo;rw[Aq E0.out,F0.out];show yb (the (xu s mq y)) (yk s y)=_;rw[h1];rfl)
   have HW:=zc (λnq=>zP 4 (zt (by decide) (by decide)) (Y.drewN nq) (HT.out.ext (za M.out (zo J nq))));clear hy BS C;go_wp2_with fail
   go_quiet (fail)
   go_wp2_with fail;refine(HW.out _).mono ?_;rintro e w5 ⟨rfl,K0⟩;go_wp2_with fail;go_ret;exact⟨by rw[HR.out];rfl,za M.out (za (zo J nq) K0)⟩
  have t:decide (y ≥ (g.lives.length:Int))=false:=by simp;omega
  have U0:Hid (yk s y=0):=zc (pl d.out (by rw[f.out];exact⟨v0.out.2,hy⟩));have n0:=zc BS;clear hy BS C;go_wp2_with fail
  go_quiet (fail)
  clear c0 c1 c2 c3 c4;go_wp2_with fail;obtain⟨wr,N0⟩:∃wr,Y.drewN nq=wr:=⟨_,rfl⟩;have U:Hid (Below Y.heap.size Y wr):=zc (by rw[<-N0];exact zo (Ae _ _) nq);rw[N0];clear N0;obtain⟨S2,V⟩:∃S2:World->Prop,Hid (S2=λE=>E.cell? ⟨gs,0,none⟩=some (.slice O s.alive.length Q)/\E.cell? ⟨gs,1,none⟩=some (.slice P s.arcs.length R)/\E.cell? ⟨b,o+1,none⟩=some (.int .i64 y)):=⟨_,zc rfl⟩
  have Q0:Hid (∀E,Below wr.heap.size wr E->S2 E):=zc λE h=>by
   have h8:=za U.out h;have hB:=n0.out.ext h8;rw[V.out];exact⟨hB.cell 0,hB.cell 1,(h8.cell (p:=⟨b,o+1,none⟩) F1).trans o0.out⟩
  have H1:Below wr.heap.size wr wr:=Ae _ _;have L0:=zi H1;have B1:S2 wr.drew:=Q0.out _ L0;refine zB S2 (by kernel_rfl) ?_;refine tH 0 ?_ ?_<|tH 1 ?_ ?_<|tH 2 ?_ ?_<|tH 3 ?_ ?_<|tH 4 ?_ ?_ ?_
  iterate 5
   rotate_left;intro w B;rw[V.out]at B;obtain⟨v,z,A0⟩:=B;(try simp only[pS]);go_simp;try with_reducible rfl
  try simp only[pS]
  refine zu (i:=5) rfl (by kernel_rfl) λK D=>?_;go_wp2_with fail;refine(ZZ O P Q R s y _ (r0.out.ext (za U.out L0)) q0.out).mono ?_;rintro e w5 ⟨l,Al,cl,kk,hl,rfl,C1,I1,K0⟩;have D0:Below wr.heap.size wr w5:=za L0 K0;have C0:=Q0.out _ D0;have HR:Hid (uj g [x,y]=yb l 0):=zc (by
   have ho:xu s mq y l:=by unfold xu;rw[Aq U0.out];exact hl
   show uo g x _=_;unfold uo;rw[Aq E0.out,F0.out];show yb (the (xu s mq y)) (yk s y)=_;rw[iP ho,U0.out])
  have p1:l.length<=12:=by rw[hl.1,f.out];exact HV.out.nl
  refine D.out _ _ ⟨C0,?_⟩;clear D K B1
  try simp only[pS]
  refine tH 6 ?_ ?_<|tH 7 ?_ ?_<|tH 8 ?_ ?_<|tH 9 ?_ ?_<|tH 10 ?_ ?_ ?_
  iterate 5
   rotate_left;intro w B;rw[V.out]at B;obtain⟨v,z,A0⟩:=B;(try simp only[pS]);go_simp;try with_reducible rfl
  try simp only[pS]
  refine wpAnyH_done (by kernel_rfl) ?_ _
  try simp only[pS]
  clear C0;have Y0:=za J (za U.out D0);have s0:=zc (vm Al l.length cl l 0 w5 (xZ C1 I1) (by omega) (zt (by decide) (by decide)) (HT.out.ext (za M.out Y0)));go_wp2_with fail;refine s0.out.mono ?_;rintro e w7 ⟨rfl,E1⟩;go_wp2_with fail;go_ret;rw[HR.out];exact⟨rfl,za M.out (za Y0 E1)⟩
