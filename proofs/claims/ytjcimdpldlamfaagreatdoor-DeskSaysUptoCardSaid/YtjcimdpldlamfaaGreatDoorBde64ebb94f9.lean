import Derived.Test.YtjcimdpldlamfaaGreatDoorBd499fa5f2e6
namespace Go.Proofs.YtjcimdpldlamfaaGreatDoor
set_option maxRecDepth 100000
set_option maxHeartbeats 16000000
open Go.RowKit
theorem RU(s:List UInt8)(w:World)(hs:s.length<=2000000)(ht:ITab w)(hm:mE w) :
  Calls Tryz.prog 6 #[.string (bs s)] w λe w'=>e=.returned (.string (bs (tJ s)))/\(tJ s).length<=30000000/\Below w.heap.size w w':=by
 obtain⟨i0,hi,X2,Y2,Z2⟩:=td;have HT:=zc ht;have HM:=zc hm;have L2:=cE 10 s w (by omega) hm;have D3:=xU 10 s;have B3:0<(zk 10 s).length:=List.length_pos_iff.2 (su 10 s);have j2:Hid ((xG 10 (zk 10 s)).length=(zk 10 s).length):=zc (nu 10 _);obtain⟨n,hn⟩:∃n,(zk 10 s).length=n:=⟨_,rfl⟩;have HN:=zc hn;rw[hn]at L2 D3 B3
 clear ht hm hn
 go_enter Tryz.func6,Tryz.ntmps6
 go_wp2_with fail;refine L2.mono ?_;rintro e A ⟨rfl,hA,c0⟩;have Q1:(xG 10 (zk 10 s)).length=n:=j2.out.trans HN.out;obtain⟨xl,P2⟩:=zl (show n-1<(xG 10 (zk 10 s)).length by omega);obtain⟨ba,oa,he,T3,x0⟩:=hA.get P2;simp only[Option.some.injEq,Addr.mk.injEq,and_true]at he;obtain⟨rfl,rfl⟩:=he;rw[Nat.zero_add]at x0;have P0:(xG 10 (zk 10 s)).getLast?=some xl:=by rw[List.getLast?_eq_getElem?,Q1];exact P2
 have I2:IntKind.i64.wrap ((n:Int)-1)=((n-1:Nat):Int):=by rw[AQ _ (by omega)];omega
 have HA:=zc hA;clear L2 hA P2
 by_cases hx:xl=[]
 case pos=>
  have L1:Hid (tw s=(xG 10 (zk 10 s)).dropLast):=zc (by unfold tw;rw[Aq (by rw[P0,hx])]);have H1:Hid (zS A (some ⟨w.heap.size,0,none⟩) n (tw s)):=zc (by rw[L1.out,List.dropLast_eq_take];exact HA.out.take _);have C1:Hid ((tw s).length=n-1):=zc (by rw[L1.out,List.length_dropLast,Q1]);subst hx;clear P0 Q1;go_upto_region 4 with fail;obtain⟨m,hm⟩:∃m,n-1=m:=⟨_,rfl⟩
  have x2:m<=n:=by omega
  rw[hm]at C1 I2 x0⊢;clear hm I2 x0;have g0:Hid ((wP s).length=m):=zc (by rw[<-dE,C1.out])
  by_cases H:65536<s.length∨200<m
  case pos=>
   have HQ:Hid (tJ s=ae):=zc (by unfold tJ;rw[g0.out,Aq H])
   by_cases M0:65536<s.length
   ·have V1:decide ((s.length:Int)>65536)=true:=by simp;omega
    clear H M0;go_wp2_with fail;go_ret;exact⟨by rw[HQ.out];rfl,by rw[HQ.out];decide,c0⟩
   have V1:decide ((s.length:Int)>65536)=false:=by simp;omega
   have C2:decide ((m:Int)>200)=true:=by simp;omega
   clear H M0;go_wp2_with fail;go_ret;exact⟨by rw[HQ.out];rfl,by rw[HQ.out];decide,c0⟩
  have HQ:Hid (tJ s=(vj (wP s)).2):=zc (by unfold tJ;rw[g0.out,Au H]);have V1:decide ((s.length:Int)>65536)=false:=by simp;omega
  have C2:decide ((m:Int)>200)=false:=by simp;omega
  have G3:s.length<=65536:=by omega
  have w2:m<=200:=by omega
  clear H;go_wp2_with fail;have S:=(zj.new A 31 #[.string (bs [])]).alloc (Obj.cells #[.pointer none,.slice none 0 0] 35);have G:rR (A.heap.size+1) (A.heap.size+1) [] ((A.alloc (Obj.cells #[.string (bs [])] 31)).alloc (Obj.cells #[.pointer none,.slice none 0 0] 35)):=by
   have h:=Lib.IsBuilderF.of (Lib.fresh_isBuilder 35 5 (A.alloc (Obj.cells #[.string (bs [])] 31)));rw[show(A.alloc (Obj.cells #[.string (bs [])] 31)).heap.size=A.heap.size+1 by simp]at h;exact h
  have T1:Below A.heap.size A ((A.alloc (Obj.cells #[.string (bs [])] 31)).alloc (Obj.cells #[.pointer none,.slice none 0 0] 35)):=ze (ze (Ae _ _) _) _
  go_loopw [37] (λv wr=>∃(k:Nat) (N out:List UInt8),v=.int .i64 k/\k<=m/\Hid (vj ((wP s).take k)=(N,out))/\N.length<=8192/\out.length<=k*100001/\zj wr A.heap.size 31 #[.string (bs N)]/\rR (A.heap.size+1) (A.heap.size+1) out wr/\Below A.heap.size A wr) (λv _=>m-(intOf v).toNat)
  case atStart=>exact⟨0,[],[],rfl,AA _,zc rfl,by simp,by simp,S,G,T1⟩
  clear S G T1;obtain⟨k,N,out,rfl,hk,HR,Q0,Q,S,G,hb⟩:=hrel
  by_cases H2:k<m
  case neg=>
   obtain rfl:k=m:=by omega
   have HF:Hid (tJ s=out):=zc (by
    have h1:=HR.out;rw[AJ (by rw[g0.out];exact Ay _)]at h1;rw[HQ.out,h1])
   have p1:Hid (out.length<=30000000):=zc (by omega);have hz:=rR.lt G;have e1:=Txt.Builder_String_any_k (A.heap.size+1) (A.heap.size+1) out wr G (by omega);have k0:=zc e1;clear e1 S G HR;go_wp2_with fail;refine k0.out.mono ?_;rintro e w9 ⟨rfl,_,M0,_⟩;go_wp2_with fail;go_ret;exact⟨by rw[HF.out];rfl,by rw[HF.out];exact p1.out,za c0 (hb.trans (M0.mono (Nat.le_succ _)))⟩
  obtain⟨ws,rfl⟩:∃x,x=wr:=⟨_,rfl⟩;obtain⟨x,hx⟩:=zl (show k<(tw s).length by rw[C1.out];exact H2);have hp:=dD hx;have O2:=fB (Ad hx);have f1:=Zc x 10;obtain⟨l2,H3,W1,U1,x9⟩:=H1.out.get hx;simp only[Option.some.injEq,Addr.mk.injEq,and_true]at W1;obtain⟨rfl,rfl⟩:=W1;rw[Nat.zero_add]at x9;have x9:=(hb.cell (p:=⟨w.heap.size,k,none⟩) U1).trans x9
  have O0:=za c0 hb;have Z0:=zc (Wx 10 x ws (by omega));obtain⟨p,b1⟩:∃p,Lib.trimSuffix x [10]=p:=⟨_,rfl⟩;rw[b1]at Z0 hp f1;have Y0:=zc (gJ 32 p ws (by omega) (HM.out.ext O0));have K0:Hid (vj ((wP s).take (k+1))=xk (N,out) p):=zc (by rw[oy hp,HR.out]);have M1:Hid (∀q,q∈zk 32 p->q.length<=65537):=zc λq hq=>by have:=uQ 32 p q hq;omega
  have q1:Hid (p.length<=65537):=zc (by omega);have h0:Hid ((zk 32 p).length<=65538):=zc (by have:=xU 32 p;omega);have J0:=zc S;have V:=zc G;have J1:=zc O0;have HB:=zc hb;have b:Hid (vL p=(zk 32 p).filter λp=>decide (p≠[])):=zc rfl;obtain⟨ps,c1⟩:∃ps,zk 32 p=ps:=⟨_,rfl⟩;rw[c1]at Y0 M1 h0 b;clear hx hp b1 c1 O2 f1 S G HR O0 hb;go_wp2_with fail
  refine Z0.out.mono ?_;rintro e w3 ⟨rfl,rfl⟩;go_wp2_with fail;refine Y0.out.mono ?_;rintro e w4 ⟨rfl,P1,D⟩;have k0:=zc P1;have C3:=h0.out;clear P1;go_wp2_with fail
  go_loopw [8,45] (λu v wt=>∃(j:Nat),v=.int .i64 j/\j<=ps.length/\Own yp 1 wt w4.heap.size 9 u ((ps.take j).filter λp=>decide (p≠[]))/\Below w4.heap.size w4 wt) (λ_ v _=>ps.length-(intOf v).toNat)
  case atStart=>exact⟨0,rfl,AA _,Own.nil,Ae _ _⟩
  obtain⟨j,rfl,hj,hO,C⟩:=hrel;obtain⟨I,ho⟩:∃o,((ps.take j).filter λp=>decide (p≠[]))=o:=⟨_,rfl⟩;have A3:I.length<=j:=by rw[<-ho];exact Ai (List.length_filter_le _ _) (by rw[AE];omega)
  rw[ho]at hO
  by_cases G2:j<ps.length
  case pos=>
   obtain⟨q,hq⟩:=zl G2;obtain⟨bq,oq,Y1,z1,xq⟩:=k0.out.get hq;simp only[Option.some.injEq,Addr.mk.injEq,and_true]at Y1;obtain⟨rfl,rfl⟩:=Y1;rw[Nat.zero_add]at xq;have xq:wr.cell? ⟨w3.heap.size,j,none⟩=some (.string (bs q)):=(C.cell (p:=⟨w3.heap.size,j,none⟩) z1).trans xq;have A1:=C.size;have c:=zc (Zh hq);rw[ho]at c;clear hq ho
   by_cases D0:q=[]
   ·subst D0
    rw[Aq rfl,AR]at c;go_wp2_with fail;go_roundw
    case rel=>exact⟨j+1,by go_num,by omega,by rw[c.out];exact hO,C⟩
    case measure=>simp[intOf];omega
   rw[Au D0]at c;have F3:(q != ([]:List UInt8))=true:=by simpa using D0
   have E3:q.isEmpty=false:=by simpa using D0
   clear D0;go_wp2_with (at_builtin;refine zr (enc:=yp) rfl (.tmp 51) (.tmp 53) 23 rfl w4.heap.size 9 i0 _ 1 16 Tryz.underlying23 hi X2 Y2 Z2 rfl (by decide) _ I q rfl hO _ rfl wr.heap.size rfl rfl rfl uE (by omega) (by decide) A1 ?_;intro gn m2 w6 y0 y1 v2 u2);go_roundw
   case rel=>exact⟨j+1,by go_num,by omega,by rw[c.out];exact y0,C.trans y1⟩
   case measure=>simp[intOf];omega
  obtain rfl:j=ps.length:=by omega
  rw[AL]at ho;have L:Hid (vL p=I):=zc (by rw[b.out,ho]);obtain⟨Aw,cw,rfl,s0⟩:=vG hO;have n1:Hid (0<I.length->∃g cs,Aw=some ⟨g,0,none⟩/\w4.heap.size<=g/\zj wr g 9 cs):=zc (dT hO);have N0:=za HB.out (za D C);clear ho hO
  cases I with
  |nil=>
   go_wp2_with fail;go_roundw
   case rel=>exact⟨k+1,N,out,by go_num,by omega,zc (by rw[K0.out,gN L.out]),Q0,Ai Q (Nat.mul_le_mul_right _ (Nat.le_succ k)),J0.out.ext (za D C),rR.ext V.out (za D C),N0⟩
   case measure=>simp[intOf];omega
  |cons v vs=>
   have z0:v≠[]:=by
    have h9:v∈vL p:=by rw[L.out];simp
    rw[b.out,List.mem_filter]at h9;simpa using h9.2
   obtain⟨J,U,rfl⟩:=List.exists_cons_of_ne_nil z0;obtain⟨bw,ow,rfl,O0,xw⟩:=s0.get (k:=0) (x:=J::U) rfl;rw[Nat.add_zero]at xw
   by_cases L0:J=35
   ·subst L0
    clear z0;go_wp2_with fail;go_roundw
    case rel=>exact⟨k+1,N,out,by go_num,by omega,zc (by rw[K0.out,gM L.out rfl]),Q0,Ai Q (Nat.mul_le_mul_right _ (Nat.le_succ k)),J0.out.ext (za D C),rR.ext V.out (za D C),N0⟩
    case measure=>simp[intOf];omega
   have V2:((((bs (J::U))[0]'(by rw[xT];simp)).toNat:Int) != 35)=true:=by
    show((J.toNat:Int) != 35)=true;simp only[bne_iff_ne,ne_eq];intro e;exact L0 (UInt8.toNat_inj.1 (by show J.toNat=35;omega))
   have j0:Hid (xk (N,out) p=((kq N (J::U) vs).1,out++((kq N (J::U) vs).2++[10]))):=zc (Ye L.out (by simpa using L0));have a:=zc s0;clear z0 L0;have Z1:=jq p;rw[L.out]at Z1;have E2:=sP 32 (J::U) vs;have F2:=q1.out;have N1:Hid (vs.length<=70000/\(zO 32 vs).length<=100000):=zc ⟨by
    have h:=List.length_filter_le (λp=>decide (p≠[])) ps;rw[<-b.out,L.out,Ap]at h;have:=h0.out;omega,by omega⟩
   have u1:Hid (∀x,x∈vs->x.length<=70000):=zc λx hx=>by
    have h9:x∈vL p:=by rw[L.out];simp[hx]
    rw[b.out,List.mem_filter]at h9;have:=M1.out x h9.1;omega
   obtain⟨g9,x1,X1,t2,p0⟩:=n1.out (by simp);simp only[Option.some.injEq,Addr.mk.injEq,and_true]at X1;obtain⟨rfl,rfl⟩:=X1;have D2:=J0.out.lt;have Q2:=D.size;have A1:=C.size;have d0:bw≠A.heap.size:=by omega
   have A0:bw≠A.heap.size+1:=by have:=rR.lt V.out;omega
   have f0:=zc p0;have R:Hid (bw≠A.heap.size/\bw≠A.heap.size+1/\A.heap.size+1<wr.heap.size):=zc ⟨d0,A0,by have:=rR.lt V.out;omega⟩;have X:=zc (J0.out.ext (za D C));have W0:=zc (rR.ext V.out (za D C));have I1:=zc N0;have s1:=zc (HT.out.ext (za J1.out (za D C)));have o1:=zc (HM.out.ext (za J1.out (za D C)))
   have t1:=zc Q0;have P:=zc Q;have v1:=zc xw;obtain⟨r,hr⟩:∃r,kq N (J::U) vs=r:=⟨_,rfl⟩;rw[hr]at j0;have K1:Hid (∀W:World,Below wr.heap.size wr W->∀(A2:Option Addr) (c2:Nat),zS W A2 c2 vs->Calls Tryz.prog 16 #[.pointer (some ⟨A.heap.size,0,none⟩),.string (bs (J::U)),.slice A2 vs.length c2] W (js A.heap.size r N W)):=zc λW h A2 c2 hS=>by
    have h9:=Vb A.heap.size c2 A2 N (J::U) vs W (X.out.ext h) hS N1.out.1 u1.out N1.out.2 t1.out (s1.out.ext h) (o1.out.ext h)
    rwa[hr]at h9
   have e0:=λh=>wl r.2 [10] h;have X0:Hid (r.2.length<=100000->∀W:World,(Op.stringOp .add (bs r.2) (bs [10])).run Tryz.prog W=.ok (.string (bs (r.2++[10]))) W):=zc λh W=>e0 (by simp;omega) W;obtain⟨S1,T⟩:∃S1:World->Prop,Hid (S1=λw'=>w'.cell? ⟨bw,0,none⟩=some (.string (bs (J::U)))/\True):=⟨_,zc rfl⟩;have Z:Hid (∀w',zj w' bw 9 x1->S1 w'):=zc λw' h=>by
    rw[T.out];exact⟨(h.cell 0).trans ((p0.cell 0).symm.trans v1.out),trivial⟩
   have E:=zi (Ae wr.heap.size wr);have O1:S1 wr.drew:=Z.out _ (f0.out.ext E);have r1:Hid (∀W:World,Below wr.heap.size wr W->zS W (some ⟨bw,0+1,none⟩) (cw-1) vs):=zc λW h=>(a.out.ext h).tail;clear Z1 E2 F2 p0 hr e0 D2 Q2 A1 d0 A0 N0 Q0 Q s0
   by_cases B2:1<cw
   case neg=>
    have N2:vs=[]:=by have h:=a.out.lc;simp only[Ap]at h;exact List.length_eq_zero_iff.1 (by omega)
    subst N2;obtain rfl:cw=1:=by have h:=a.out.lc;simp only[Ap,AC]at h;omega
    have O:Hid (∀A2:Option Addr,Calls Tryz.prog 16 #[.pointer (some ⟨A.heap.size,0,none⟩),.string (bs (J::U)),.slice A2 0 0] wr.drew (js A.heap.size r N wr.drew)):=zc λA2=>K1.out _ E A2 0 (iL (by simp));clear B2;go_upto_region 19 with fail;clear xw;rw[show [J::U].length=1 from rfl];refine zB S1 (by kernel_rfl) ?_;refine tH 0 ?_ ?_<|tH 1 ?_ ?_<|tH 2 ?_ ?_<|tH 3 ?_ ?_<|tH 4 ?_ ?_<|tH 5 ?_ ?_ ?_
    iterate 6
     rotate_left;intro w B;rw[T.out]at B;obtain⟨T0,U0⟩:=B;(try simp only[pS]);go_simp;try with_reducible rfl
    try simp only[pS]
    refine zu (i:=6) rfl (by kernel_rfl) λK t=>?_;go_wp2_with fail;refine(O.out _).mono ?_;rintro e w5 B0;obtain⟨rfl,F,l,d,f,z,E0⟩:=jJ B0 (X.out.ext E) (rR.ext W0.out E) (f0.out.ext E) R.out.1;have y:=Z.out _ f;refine t.out _ _ ⟨y,?_⟩;clear t K O1 B0
    try simp only[pS]
    refine tH 7 ?_ ?_ ?_;rotate_left
    ·intro w B;rw[T.out]at B;obtain⟨T0,U0⟩:=B;have hc:=X0.out F.2 w;(try simp only[pS]);go_simp;try with_reducible rfl
    try simp only[pS]
    refine zu (i:=8) rfl (by kernel_rfl) λK t=>?_;have v0:=R.out.2.2;have F0:wr.heap.size<=w5.heap.size:=E0;have M:=P.out;have C0:=F.2;have I0:out.length+(r.2++[10]).length<=140737488355328:=by simp only[Ag,Ap,AC];omega
    have H0:A.heap.size+1<=w5.heap.size:=by omega
    have l0:=zc (xF (A.heap.size+1) (A.heap.size+1) out (r.2++[10]) w5 d I0 H0);clear I0 H0 v0 F0 M C0;go_wp2_with fail;refine l0.out.mono ?_;rintro e w6 ⟨rfl,G0⟩;obtain⟨r0,o0,q0,t0⟩:=pR G0 l f R.out.2.1;refine t.out _ _ ⟨Z.out _ q0,?_⟩;clear t K y
    try simp only[pS]
    refine wpAnyH_done (by kernel_rfl) ?_ _
    try simp only[pS]
    have Y:Hid ((out++(r.2++[10])).length<=(k+1)*100001):=zc (by have h1:=P.out;have h2:=F.2;simp only[Ag,Ap,AC];omega);have u0:Below A.heap.size A w6:=I1.out.trans ((zi (Ae _ _)).trans (z.trans t0));clear G0 d l;go_wp2_with fail;go_roundw
    case rel=>exact⟨k+1,r.1,out++(r.2++[10]),by go_num,by omega,zc (by rw[K0.out,j0.out]),F.1,Y.out,r0,o0,u0⟩
    case measure=>simp[intOf];omega
   have O:Hid (Calls Tryz.prog 16 #[.pointer (some ⟨A.heap.size,0,none⟩),.string (bs (J::U)),.slice (some ⟨bw,1,none⟩) vs.length (cw-1)] wr.drew (js A.heap.size r N wr.drew)):=zc (K1.out _ E _ _ (r1.out _ E));have M2:vs.length+1<=cw:=by have h:=a.out.lc;simpa using h
   have W2:cw<=maxLen:=a.out.cm;have s2:¬cw=1:=by omega
   go_upto_region 19 with fail;clear xw;rw[show((J::U)::vs).length=vs.length+1 from rfl];obtain⟨nv,a1⟩:∃nv,vs.length=nv:=⟨_,rfl⟩;rw[a1]at O M2⊢;clear a1;refine zB S1 (by kernel_rfl) ?_;refine tH 0 ?_ ?_<|tH 1 ?_ ?_<|tH 2 ?_ ?_<|tH 3 ?_ ?_<|tH 4 ?_ ?_ ?_
   iterate 5
    rotate_left;intro w B;rw[T.out]at B;obtain⟨T0,U0⟩:=B;(try simp only[pS]);go_simp;try with_reducible rfl
   try simp only[pS]
   refine tH 5 ?_ ?_ ?_;rotate_left
   ·intro w B;rw[T.out]at B;obtain⟨T0,U0⟩:=B;go_simp;rw[Aq (by omega)]
   try simp only[pS]
   refine zu (i:=6) rfl (by kernel_rfl) λK t=>?_;go_wp2_with fail;refine(O.out).mono ?_;rintro e w5 B0;obtain⟨rfl,F,l,d,f,z,E0⟩:=jJ B0 (X.out.ext E) (rR.ext W0.out E) (f0.out.ext E) R.out.1;have y:=Z.out _ f;refine t.out _ _ ⟨y,?_⟩;clear t K O1 B0
   try simp only[pS]
   refine tH 7 ?_ ?_ ?_;rotate_left
   ·intro w B;rw[T.out]at B;obtain⟨T0,U0⟩:=B;have hc:=X0.out F.2 w;(try simp only[pS]);go_simp;try with_reducible rfl
   try simp only[pS]
   refine zu (i:=8) rfl (by kernel_rfl) λK t=>?_;have v0:=R.out.2.2;have F0:wr.heap.size<=w5.heap.size:=E0;have M:=P.out;have C0:=F.2;have I0:out.length+(r.2++[10]).length<=140737488355328:=by simp only[Ag,Ap,AC];omega
   have H0:A.heap.size+1<=w5.heap.size:=by omega
   have l0:=zc (xF (A.heap.size+1) (A.heap.size+1) out (r.2++[10]) w5 d I0 H0);clear I0 H0 v0 F0 M C0;go_wp2_with fail;refine l0.out.mono ?_;rintro e w6 ⟨rfl,G0⟩;obtain⟨r0,o0,q0,t0⟩:=pR G0 l f R.out.2.1;refine t.out _ _ ⟨Z.out _ q0,?_⟩;clear t K y
   try simp only[pS]
   refine wpAnyH_done (by kernel_rfl) ?_ _
   try simp only[pS]
   have Y:Hid ((out++(r.2++[10])).length<=(k+1)*100001):=zc (by have h1:=P.out;have h2:=F.2;simp only[Ag,Ap,AC];omega);have u0:Below A.heap.size A w6:=I1.out.trans ((zi (Ae _ _)).trans (z.trans t0));clear G0 d l;go_wp2_with fail;go_roundw
   case rel=>exact⟨k+1,r.1,out++(r.2++[10]),by go_num,by omega,zc (by rw[K0.out,j0.out]),F.1,Y.out,r0,o0,u0⟩
   case measure=>simp[intOf];omega
 have L1:Hid (tw s=xG 10 (zk 10 s)):=zc (by unfold tw;rw[Au (by rw[P0];simpa using hx)]);have H1:Hid (zS A (some ⟨w.heap.size,0,none⟩) n (tw s)):=zc (by rw[L1.out];exact HA.out);have C1:Hid ((tw s).length=n):=zc (by rw[L1.out,Q1]);have z2:(xl== ([]:List UInt8))=false:=AH.2 hx;clear P0 hx Q1;go_upto_region 4 with fail;have x2:n<=n:=Ay n
 clear I2 x0 z2;have g0:Hid ((wP s).length=n):=zc (by rw[<-dE,C1.out])
 by_cases H:65536<s.length∨200<n
 case pos=>
  have HQ:Hid (tJ s=ae):=zc (by unfold tJ;rw[g0.out,Aq H])
  by_cases M0:65536<s.length
  ·have V1:decide ((s.length:Int)>65536)=true:=by simp;omega
   clear H M0;go_wp2_with fail;go_ret;exact⟨by rw[HQ.out];rfl,by rw[HQ.out];decide,c0⟩
  have V1:decide ((s.length:Int)>65536)=false:=by simp;omega
  have C2:decide ((n:Int)>200)=true:=by simp;omega
  clear H M0;go_wp2_with fail;go_ret;exact⟨by rw[HQ.out];rfl,by rw[HQ.out];decide,c0⟩
 have HQ:Hid (tJ s=(vj (wP s)).2):=zc (by unfold tJ;rw[g0.out,Au H]);have V1:decide ((s.length:Int)>65536)=false:=by simp;omega
 have C2:decide ((n:Int)>200)=false:=by simp;omega
 have G3:s.length<=65536:=by omega
 have w2:n<=200:=by omega
 clear H;go_wp2_with fail;have S:=(zj.new A 31 #[.string (bs [])]).alloc (Obj.cells #[.pointer none,.slice none 0 0] 35);have G:rR (A.heap.size+1) (A.heap.size+1) [] ((A.alloc (Obj.cells #[.string (bs [])] 31)).alloc (Obj.cells #[.pointer none,.slice none 0 0] 35)):=by
  have h:=Lib.IsBuilderF.of (Lib.fresh_isBuilder 35 5 (A.alloc (Obj.cells #[.string (bs [])] 31)));rw[show(A.alloc (Obj.cells #[.string (bs [])] 31)).heap.size=A.heap.size+1 by simp]at h;exact h
 have T1:Below A.heap.size A ((A.alloc (Obj.cells #[.string (bs [])] 31)).alloc (Obj.cells #[.pointer none,.slice none 0 0] 35)):=ze (ze (Ae _ _) _) _
 go_loopw [37] (λv wr=>∃(k:Nat) (N out:List UInt8),v=.int .i64 k/\k<=n/\Hid (vj ((wP s).take k)=(N,out))/\N.length<=8192/\out.length<=k*100001/\zj wr A.heap.size 31 #[.string (bs N)]/\rR (A.heap.size+1) (A.heap.size+1) out wr/\Below A.heap.size A wr) (λv _=>n-(intOf v).toNat)
 case atStart=>exact⟨0,[],[],rfl,AA _,zc rfl,by simp,by simp,S,G,T1⟩
 clear S G T1;obtain⟨k,N,out,rfl,hk,HR,Q0,Q,S,G,hb⟩:=hrel
 by_cases H2:k<n
 case neg=>
  obtain rfl:k=n:=by omega
  have HF:Hid (tJ s=out):=zc (by
   have h1:=HR.out;rw[AJ (by rw[g0.out];exact Ay _)]at h1;rw[HQ.out,h1])
  have p1:Hid (out.length<=30000000):=zc (by omega);have hz:=rR.lt G;have e1:=Txt.Builder_String_any_k (A.heap.size+1) (A.heap.size+1) out wr G (by omega);have k0:=zc e1;clear e1 S G HR;go_wp2_with fail;refine k0.out.mono ?_;rintro e w9 ⟨rfl,_,M0,_⟩;go_wp2_with fail;go_ret;exact⟨by rw[HF.out];rfl,by rw[HF.out];exact p1.out,za c0 (hb.trans (M0.mono (Nat.le_succ _)))⟩
 obtain⟨ws,rfl⟩:∃x,x=wr:=⟨_,rfl⟩;obtain⟨x,hx⟩:=zl (show k<(tw s).length by rw[C1.out];exact H2);have hp:=dD hx;have O2:=fB (Ad hx);have f1:=Zc x 10;obtain⟨l2,H3,W1,U1,x9⟩:=H1.out.get hx;simp only[Option.some.injEq,Addr.mk.injEq,and_true]at W1;obtain⟨rfl,rfl⟩:=W1;rw[Nat.zero_add]at x9;have x9:=(hb.cell (p:=⟨w.heap.size,k,none⟩) U1).trans x9
 have O0:=za c0 hb;have Z0:=zc (Wx 10 x ws (by omega));obtain⟨p,b1⟩:∃p,Lib.trimSuffix x [10]=p:=⟨_,rfl⟩;rw[b1]at Z0 hp f1;have Y0:=zc (gJ 32 p ws (by omega) (HM.out.ext O0));have K0:Hid (vj ((wP s).take (k+1))=xk (N,out) p):=zc (by rw[oy hp,HR.out]);have M1:Hid (∀q,q∈zk 32 p->q.length<=65537):=zc λq hq=>by have:=uQ 32 p q hq;omega
 have q1:Hid (p.length<=65537):=zc (by omega);have h0:Hid ((zk 32 p).length<=65538):=zc (by have:=xU 32 p;omega);have J0:=zc S;have V:=zc G;have J1:=zc O0;have HB:=zc hb;have b:Hid (vL p=(zk 32 p).filter λp=>decide (p≠[])):=zc rfl;obtain⟨ps,c1⟩:∃ps,zk 32 p=ps:=⟨_,rfl⟩;rw[c1]at Y0 M1 h0 b;clear hx hp b1 c1 O2 f1 S G HR O0 hb;go_wp2_with fail
 refine Z0.out.mono ?_;rintro e w3 ⟨rfl,rfl⟩;go_wp2_with fail;refine Y0.out.mono ?_;rintro e w4 ⟨rfl,P1,D⟩;have k0:=zc P1;have C3:=h0.out;clear P1;go_wp2_with fail
 go_loopw [8,45] (λu v wt=>∃(j:Nat),v=.int .i64 j/\j<=ps.length/\Own yp 1 wt w4.heap.size 9 u ((ps.take j).filter λp=>decide (p≠[]))/\Below w4.heap.size w4 wt) (λ_ v _=>ps.length-(intOf v).toNat)
 case atStart=>exact⟨0,rfl,AA _,Own.nil,Ae _ _⟩
 obtain⟨j,rfl,hj,hO,C⟩:=hrel;obtain⟨I,ho⟩:∃o,((ps.take j).filter λp=>decide (p≠[]))=o:=⟨_,rfl⟩;have A3:I.length<=j:=by rw[<-ho];exact Ai (List.length_filter_le _ _) (by rw[AE];omega)
 rw[ho]at hO
 by_cases G2:j<ps.length
 case pos=>
  obtain⟨q,hq⟩:=zl G2;obtain⟨bq,oq,Y1,z1,xq⟩:=k0.out.get hq;simp only[Option.some.injEq,Addr.mk.injEq,and_true]at Y1;obtain⟨rfl,rfl⟩:=Y1;rw[Nat.zero_add]at xq;have xq:wr.cell? ⟨w3.heap.size,j,none⟩=some (.string (bs q)):=(C.cell (p:=⟨w3.heap.size,j,none⟩) z1).trans xq;have A1:=C.size;have c:=zc (Zh hq);rw[ho]at c;clear hq ho
  by_cases D0:q=[]
  ·subst D0
   rw[Aq rfl,AR]at c;go_wp2_with fail;go_roundw
   case rel=>exact⟨j+1,by go_num,by omega,by rw[c.out];exact hO,C⟩
   case measure=>simp[intOf];omega
  rw[Au D0]at c;have F3:(q != ([]:List UInt8))=true:=by simpa using D0
  have E3:q.isEmpty=false:=by simpa using D0
  clear D0;go_wp2_with (at_builtin;refine zr (enc:=yp) rfl (.tmp 51) (.tmp 53) 23 rfl w4.heap.size 9 i0 _ 1 16 Tryz.underlying23 hi X2 Y2 Z2 rfl (by decide) _ I q rfl hO _ rfl wr.heap.size rfl rfl rfl uE (by omega) (by decide) A1 ?_;intro gn m2 w6 y0 y1 v2 u2);go_roundw
  case rel=>exact⟨j+1,by go_num,by omega,by rw[c.out];exact y0,C.trans y1⟩
  case measure=>simp[intOf];omega
 obtain rfl:j=ps.length:=by omega
 rw[AL]at ho;have L:Hid (vL p=I):=zc (by rw[b.out,ho]);obtain⟨Aw,cw,rfl,s0⟩:=vG hO;have n1:Hid (0<I.length->∃g cs,Aw=some ⟨g,0,none⟩/\w4.heap.size<=g/\zj wr g 9 cs):=zc (dT hO);have N0:=za HB.out (za D C);clear ho hO
 cases I with
 |nil=>
  go_wp2_with fail;go_roundw
  case rel=>exact⟨k+1,N,out,by go_num,by omega,zc (by rw[K0.out,gN L.out]),Q0,Ai Q (Nat.mul_le_mul_right _ (Nat.le_succ k)),J0.out.ext (za D C),rR.ext V.out (za D C),N0⟩
  case measure=>simp[intOf];omega
 |cons v vs=>
  have z0:v≠[]:=by
   have h9:v∈vL p:=by rw[L.out];simp
   rw[b.out,List.mem_filter]at h9;simpa using h9.2
  obtain⟨J,U,rfl⟩:=List.exists_cons_of_ne_nil z0;obtain⟨bw,ow,rfl,O0,xw⟩:=s0.get (k:=0) (x:=J::U) rfl;rw[Nat.add_zero]at xw
  by_cases L0:J=35
  ·subst L0
   clear z0;go_wp2_with fail;go_roundw
   case rel=>exact⟨k+1,N,out,by go_num,by omega,zc (by rw[K0.out,gM L.out rfl]),Q0,Ai Q (Nat.mul_le_mul_right _ (Nat.le_succ k)),J0.out.ext (za D C),rR.ext V.out (za D C),N0⟩
   case measure=>simp[intOf];omega
  have V2:((((bs (J::U))[0]'(by rw[xT];simp)).toNat:Int) != 35)=true:=by
   show((J.toNat:Int) != 35)=true;simp only[bne_iff_ne,ne_eq];intro e;exact L0 (UInt8.toNat_inj.1 (by show J.toNat=35;omega))
  have j0:Hid (xk (N,out) p=((kq N (J::U) vs).1,out++((kq N (J::U) vs).2++[10]))):=zc (Ye L.out (by simpa using L0));have a:=zc s0;clear z0 L0;have Z1:=jq p;rw[L.out]at Z1;have E2:=sP 32 (J::U) vs;have F2:=q1.out;have N1:Hid (vs.length<=70000/\(zO 32 vs).length<=100000):=zc ⟨by
   have h:=List.length_filter_le (λp=>decide (p≠[])) ps;rw[<-b.out,L.out,Ap]at h;have:=h0.out;omega,by omega⟩
  have u1:Hid (∀x,x∈vs->x.length<=70000):=zc λx hx=>by
   have h9:x∈vL p:=by rw[L.out];simp[hx]
   rw[b.out,List.mem_filter]at h9;have:=M1.out x h9.1;omega
  obtain⟨g9,x1,X1,t2,p0⟩:=n1.out (by simp);simp only[Option.some.injEq,Addr.mk.injEq,and_true]at X1;obtain⟨rfl,rfl⟩:=X1;have D2:=J0.out.lt;have Q2:=D.size;have A1:=C.size;have d0:bw≠A.heap.size:=by omega
  have A0:bw≠A.heap.size+1:=by have:=rR.lt V.out;omega
  have f0:=zc p0;have R:Hid (bw≠A.heap.size/\bw≠A.heap.size+1/\A.heap.size+1<wr.heap.size):=zc ⟨d0,A0,by have:=rR.lt V.out;omega⟩;have X:=zc (J0.out.ext (za D C));have W0:=zc (rR.ext V.out (za D C));have I1:=zc N0;have s1:=zc (HT.out.ext (za J1.out (za D C)));have o1:=zc (HM.out.ext (za J1.out (za D C)))
  have t1:=zc Q0;have P:=zc Q;have v1:=zc xw;obtain⟨r,hr⟩:∃r,kq N (J::U) vs=r:=⟨_,rfl⟩;rw[hr]at j0;have K1:Hid (∀W:World,Below wr.heap.size wr W->∀(A2:Option Addr) (c2:Nat),zS W A2 c2 vs->Calls Tryz.prog 16 #[.pointer (some ⟨A.heap.size,0,none⟩),.string (bs (J::U)),.slice A2 vs.length c2] W (js A.heap.size r N W)):=zc λW h A2 c2 hS=>by
   have h9:=Vb A.heap.size c2 A2 N (J::U) vs W (X.out.ext h) hS N1.out.1 u1.out N1.out.2 t1.out (s1.out.ext h) (o1.out.ext h)
   rwa[hr]at h9
  have e0:=λh=>wl r.2 [10] h;have X0:Hid (r.2.length<=100000->∀W:World,(Op.stringOp .add (bs r.2) (bs [10])).run Tryz.prog W=.ok (.string (bs (r.2++[10]))) W):=zc λh W=>e0 (by simp;omega) W;obtain⟨S1,T⟩:∃S1:World->Prop,Hid (S1=λw'=>w'.cell? ⟨bw,0,none⟩=some (.string (bs (J::U)))/\True):=⟨_,zc rfl⟩;have Z:Hid (∀w',zj w' bw 9 x1->S1 w'):=zc λw' h=>by
   rw[T.out];exact⟨(h.cell 0).trans ((p0.cell 0).symm.trans v1.out),trivial⟩
  have E:=zi (Ae wr.heap.size wr);have O1:S1 wr.drew:=Z.out _ (f0.out.ext E);have r1:Hid (∀W:World,Below wr.heap.size wr W->zS W (some ⟨bw,0+1,none⟩) (cw-1) vs):=zc λW h=>(a.out.ext h).tail;clear Z1 E2 F2 p0 hr e0 D2 Q2 A1 d0 A0 N0 Q0 Q s0
  by_cases B2:1<cw
  case neg=>
   have N2:vs=[]:=by have h:=a.out.lc;simp only[Ap]at h;exact List.length_eq_zero_iff.1 (by omega)
   subst N2;obtain rfl:cw=1:=by have h:=a.out.lc;simp only[Ap,AC]at h;omega
   have O:Hid (∀A2:Option Addr,Calls Tryz.prog 16 #[.pointer (some ⟨A.heap.size,0,none⟩),.string (bs (J::U)),.slice A2 0 0] wr.drew (js A.heap.size r N wr.drew)):=zc λA2=>K1.out _ E A2 0 (iL (by simp));clear B2;go_upto_region 19 with fail;clear xw;rw[show [J::U].length=1 from rfl];refine zB S1 (by kernel_rfl) ?_;refine tH 0 ?_ ?_<|tH 1 ?_ ?_<|tH 2 ?_ ?_<|tH 3 ?_ ?_<|tH 4 ?_ ?_<|tH 5 ?_ ?_ ?_
   iterate 6
    rotate_left;intro w B;rw[T.out]at B;obtain⟨T0,U0⟩:=B;(try simp only[pS]);go_simp;try with_reducible rfl
   try simp only[pS]
   refine zu (i:=6) rfl (by kernel_rfl) λK t=>?_;go_wp2_with fail;refine(O.out _).mono ?_;rintro e w5 B0;obtain⟨rfl,F,l,d,f,z,E0⟩:=jJ B0 (X.out.ext E) (rR.ext W0.out E) (f0.out.ext E) R.out.1;have y:=Z.out _ f;refine t.out _ _ ⟨y,?_⟩;clear t K O1 B0
   try simp only[pS]
   refine tH 7 ?_ ?_ ?_;rotate_left
   ·intro w B;rw[T.out]at B;obtain⟨T0,U0⟩:=B;have hc:=X0.out F.2 w;(try simp only[pS]);go_simp;try with_reducible rfl
   try simp only[pS]
   refine zu (i:=8) rfl (by kernel_rfl) λK t=>?_;have v0:=R.out.2.2;have F0:wr.heap.size<=w5.heap.size:=E0;have M:=P.out;have C0:=F.2;have I0:out.length+(r.2++[10]).length<=140737488355328:=by simp only[Ag,Ap,AC];omega
   have H0:A.heap.size+1<=w5.heap.size:=by omega
   have l0:=zc (xF (A.heap.size+1) (A.heap.size+1) out (r.2++[10]) w5 d I0 H0);clear I0 H0 v0 F0 M C0;go_wp2_with fail;refine l0.out.mono ?_;rintro e w6 ⟨rfl,G0⟩;obtain⟨r0,o0,q0,t0⟩:=pR G0 l f R.out.2.1;refine t.out _ _ ⟨Z.out _ q0,?_⟩;clear t K y
   try simp only[pS]
   refine wpAnyH_done (by kernel_rfl) ?_ _
   try simp only[pS]
   have Y:Hid ((out++(r.2++[10])).length<=(k+1)*100001):=zc (by have h1:=P.out;have h2:=F.2;simp only[Ag,Ap,AC];omega);have u0:Below A.heap.size A w6:=I1.out.trans ((zi (Ae _ _)).trans (z.trans t0));clear G0 d l;go_wp2_with fail;go_roundw
   case rel=>exact⟨k+1,r.1,out++(r.2++[10]),by go_num,by omega,zc (by rw[K0.out,j0.out]),F.1,Y.out,r0,o0,u0⟩
   case measure=>simp[intOf];omega
  have O:Hid (Calls Tryz.prog 16 #[.pointer (some ⟨A.heap.size,0,none⟩),.string (bs (J::U)),.slice (some ⟨bw,1,none⟩) vs.length (cw-1)] wr.drew (js A.heap.size r N wr.drew)):=zc (K1.out _ E _ _ (r1.out _ E));have M2:vs.length+1<=cw:=by have h:=a.out.lc;simpa using h
  have W2:cw<=maxLen:=a.out.cm;have s2:¬cw=1:=by omega
  go_upto_region 19 with fail;clear xw;rw[show((J::U)::vs).length=vs.length+1 from rfl];obtain⟨nv,a1⟩:∃nv,vs.length=nv:=⟨_,rfl⟩;rw[a1]at O M2⊢;clear a1;refine zB S1 (by kernel_rfl) ?_;refine tH 0 ?_ ?_<|tH 1 ?_ ?_<|tH 2 ?_ ?_<|tH 3 ?_ ?_<|tH 4 ?_ ?_ ?_
  iterate 5
   rotate_left;intro w B;rw[T.out]at B;obtain⟨T0,U0⟩:=B;(try simp only[pS]);go_simp;try with_reducible rfl
  try simp only[pS]
  refine tH 5 ?_ ?_ ?_;rotate_left
  ·intro w B;rw[T.out]at B;obtain⟨T0,U0⟩:=B;go_simp;rw[Aq (by omega)]
  try simp only[pS]
  refine zu (i:=6) rfl (by kernel_rfl) λK t=>?_;go_wp2_with fail;refine(O.out).mono ?_;rintro e w5 B0;obtain⟨rfl,F,l,d,f,z,E0⟩:=jJ B0 (X.out.ext E) (rR.ext W0.out E) (f0.out.ext E) R.out.1;have y:=Z.out _ f;refine t.out _ _ ⟨y,?_⟩;clear t K O1 B0
  try simp only[pS]
  refine tH 7 ?_ ?_ ?_;rotate_left
  ·intro w B;rw[T.out]at B;obtain⟨T0,U0⟩:=B;have hc:=X0.out F.2 w;(try simp only[pS]);go_simp;try with_reducible rfl
  try simp only[pS]
  refine zu (i:=8) rfl (by kernel_rfl) λK t=>?_;have v0:=R.out.2.2;have F0:wr.heap.size<=w5.heap.size:=E0;have M:=P.out;have C0:=F.2;have I0:out.length+(r.2++[10]).length<=140737488355328:=by simp only[Ag,Ap,AC];omega
  have H0:A.heap.size+1<=w5.heap.size:=by omega
  have l0:=zc (xF (A.heap.size+1) (A.heap.size+1) out (r.2++[10]) w5 d I0 H0);clear I0 H0 v0 F0 M C0;go_wp2_with fail;refine l0.out.mono ?_;rintro e w6 ⟨rfl,G0⟩;obtain⟨r0,o0,q0,t0⟩:=pR G0 l f R.out.2.1;refine t.out _ _ ⟨Z.out _ q0,?_⟩;clear t K y
  try simp only[pS]
  refine wpAnyH_done (by kernel_rfl) ?_ _
  try simp only[pS]
  have Y:Hid ((out++(r.2++[10])).length<=(k+1)*100001):=zc (by have h1:=P.out;have h2:=F.2;simp only[Ag,Ap,AC];omega);have u0:Below A.heap.size A w6:=I1.out.trans ((zi (Ae _ _)).trans (z.trans t0));clear G0 d l;go_wp2_with fail;go_roundw
  case rel=>exact⟨k+1,r.1,out++(r.2++[10]),by go_num,by omega,zc (by rw[K0.out,j0.out]),F.1,Y.out,r0,o0,u0⟩
  case measure=>simp[intOf];omega
set_option maxHeartbeats 4000000
theorem deskSays_calls(s:List UInt8)(w:World)(E:s.length<=2000000)(F:ITab w)(D:mE w) :
  Calls Tryz.prog 5 #[.string (bs s)] w λe A=>e=.returned (.bool true)/\Below w.heap.size w A:=by
 have G:Hid (∀W,Below w.heap.size w W->Calls Tryz.prog 6 #[.string (bs s)] W λe A=>e=.returned (.string (bs (tJ s)))/\Below W.heap.size W A):=zc λW h=>(RU s W E (F.ext h) (D.ext h)).mono λe A ⟨h1,_,h2⟩=>⟨h1,h2⟩;have H:Hid (∀W,Below w.heap.size w W->Calls Tryz.prog 11 #[.string (bs s)] W λe A=>e=.returned (.string (bs (tJ s)))/\Below W.heap.size W A):=zc λW h=>Wh s W E (F.ext h) (D.ext h)
 obtain⟨r,I⟩:∃r,tJ s=r:=⟨_,rfl⟩;rw[I]at G H;clear I F D E
 go_enter Tryz.func5,Tryz.ntmps5
 go_wp2_with fail;refine(G.out _ (Ae _ _)).mono ?_;rintro e J ⟨rfl,B⟩;go_wp2_with fail;refine(H.out _ B).mono ?_;rintro e K ⟨rfl,C⟩;go_wp2_with fail;go_ret;exact⟨by simp,za B C⟩
