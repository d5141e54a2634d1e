import Derived.Test.YtjcimdpldlamfaaGreatDoorBdf3b6240ef1
namespace Go.Proofs.YtjcimdpldlamfaaGreatDoor
set_option maxRecDepth 100000
set_option maxHeartbeats 16000000
open Go.RowKit
theorem mR{a b:List UInt8}{k:Nat}(h:a.length<=k*100001)(A:b.length<=100001):(a++b).length<=(k+1)*100001:=by rw[Ag,Nat.succ_mul];exact Nat.add_le_add h A
theorem Px{text verb:List UInt8}{B:List (List UInt8)}{A:Option Addr}{c:Nat}{W:World}(F:zS W A c B)(H:B.length<=70000)(K:∀x,x∈B->x.length<=70000)(G:(zO 32 B).length<=100000)(D:text.length<=8192)(J:ITab W)(I:mE W):(kq text verb B).1.length<=8192/\(kq text verb B).2.length<=100000:=by
 have C:=ze (Ae W.heap.size W) (Obj.cells #[.string (bs text)] 31);obtain⟨e,L,h⟩:=dP (Vb W.heap.size c A text verb B _ (zj.new W 31 #[.string (bs text)]) (F.ext C) H K G D (J.ext C) (I.ext C));obtain⟨_,E,_⟩:=h;exact E
theorem Wh(s:List UInt8)(w:World)(hs:s.length<=2000000)(ht:ITab w)(hm:mE w) :
  Calls Tryz.prog 11 #[.string (bs s)] w λe f=>e=.returned (.string (bs (tJ s)))/\Below w.heap.size w f:=by
 have HT:=zc ht;have HM:=zc hm;have HL:=zc (Ya s w hs);have E0:Hid (tJ s=if 65536<s.length∨200<(wP s).length then ae else (vj (wP s)).2):=zc rfl;have E1:=xT s;have d0:Hid (∀x,x∈wP s->x.length<=s.length):=zc λx hx=>by
  have h1:x∈zk 10 s:=by
   unfold wP at hx
   split at hx
   ·rw[List.dropLast_eq_take]at hx;exact List.mem_of_mem_take hx
   exact hx
  exact uQ 10 s x h1
 obtain⟨c,C1⟩:∃c,wP s=c:=⟨_,rfl⟩;rw[C1]at HL E0 d0;clear C1 ht hm E1
 go_enter Tryz.func11,Tryz.ntmps11
 go_wp2_with fail;refine HL.out.mono ?_;rintro e w3 ⟨A3,c3,rfl,P0,n0⟩;have m3:=P0.len;have HA:=zc P0;have j:=zc n0;clear P0 n0
 by_cases E:65536<s.length
 ·have hd:decide ((s.length:Int)>65536)=true:=by simp;omega
  have HQ:Hid (tJ s=ae):=zc (by rw[E0.out,Aq (.inl E)]);clear E;go_wp2_with fail;go_ret;exact⟨by rw[HQ.out];rfl,j.out⟩
 have hd:decide ((s.length:Int)>65536)=false:=by simp;omega
 by_cases X:200<c.length
 ·have a1:decide ((c.length:Int)>200)=true:=by simp;omega
  have HQ:Hid (tJ s=ae):=zc (by rw[E0.out,Aq (.inr X)]);clear X E;go_wp2_with fail;go_ret;exact⟨by rw[HQ.out];rfl,j.out⟩
 have a1:decide ((c.length:Int)>200)=false:=by simp;omega
 have HQ:Hid (tJ s=(vj c).2):=zc (by rw[E0.out,Au];rintro(h|h);exact E h;exact X h);have M2:s.length<=65536:=by omega
 have L2:c.length<=200:=by omega
 clear E X hs;go_wp2_with fail
 go_loopw [4,5,6] (λt o v wr=>∃(k:Nat) (C out:List UInt8),t=.string (bs C)/\o=.string (bs out)/\v=.int .i64 k/\k<=c.length/\Hid ((C,out)=vj (c.take k))/\C.length<=8192/\out.length<=k*100001/\Below w3.heap.size w3 wr) (λ_ _ v _=>c.length-(intOf v).toNat)
 case atStart=>exact⟨0,[],[],rfl,rfl,rfl,AA _,zc rfl,by simp,by simp,Ae _ _⟩
 obtain⟨k,C,out,rfl,rfl,rfl,hk,HR,F1,Y,hb⟩:=hrel
 by_cases g1:k<c.length
 case neg=>
  obtain rfl:k=c.length:=by omega
  have HF:Hid (tJ s=out):=zc (by have h1:=HR.out;rw[AL]at h1;rw[HQ.out,<-h1]);have g:=zc hb;clear HR hb;go_wp2_with fail;go_ret;exact⟨by rw[HF.out];rfl,za j.out g.out⟩
 obtain⟨x,hx⟩:=zl g1;obtain⟨b,P2,rfl,q0,x0⟩:=HA.out.get hx;rw[<-hb.cell (by exact q0)]at x0;have I0:Hid (x.length<=65536):=zc (by have:=d0.out x (Ad hx);omega);have T:Hid (vj (c.take (k+1))=xk (C,out) x):=zc (by rw[oy hx,<-HR.out]);have HW:=zc (Yb x wr (by have:=I0.out;omega));have g:=zc hb;have O:=zc F1;have B:=zc Y
 clear hx hb HR q0;go_wp2_with fail;refine HW.out.mono ?_;rintro e J ⟨v5,rfl,k0,p0⟩;obtain⟨A5,c5,rfl,P⟩:=vG k0;have R:=zc p0;obtain⟨ws,S0⟩:∃ws,vL x=ws:=⟨_,rfl⟩;have U:=zc S0;rw[S0]at P⊢;clear k0 S0 p0 x0
 cases ws with
 |nil=>
  have G:Hid (xk (C,out) x=(C,out)):=zc (gN U.out);clear P;go_wp2_with fail;go_roundw
  case rel=>exact⟨k+1,C,out,rfl,rfl,by go_num,by omega,zc (by rw[T.out,G.out]),O.out,Ai B.out (Nat.mul_le_mul_right _ (Nat.le_succ k)),za g.out R.out⟩
  case measure=>simp[intOf];omega
 |cons v vs=>
  have R0:v≠[]:=by
   have h9:v∈vL x:=by rw[U.out];simp
   have h8:v∈(zk 32 x).filter λp=>decide (p≠[]):=h9;rw[List.mem_filter]at h8;simpa using h8.2
  obtain⟨D,F,rfl⟩:=List.exists_cons_of_ne_nil R0;obtain⟨bw,ow,rfl,r0,xw⟩:=P.get (k:=0) (x:=D::F) rfl;rw[Nat.add_zero]at xw;have m5:=P.len
  by_cases Z:D=35
  case pos=>
   have G:Hid (xk (C,out) x=(C,out)):=zc (gM U.out (by rw[Z];rfl));subst Z;have o0:((((bs (35::F))[0]'(by rw[xT];simp)).toNat:Int)== 35)=true:=rfl;clear R0 P;go_wp2_with fail;go_roundw
   case rel=>exact⟨k+1,C,out,rfl,rfl,by go_num,by omega,zc (by rw[T.out,G.out]),O.out,Ai B.out (Nat.mul_le_mul_right _ (Nat.le_succ k)),za g.out R.out⟩
   case measure=>simp[intOf];omega
  have o0:((((bs (D::F))[0]'(by rw[xT];simp)).toNat:Int)== 35)=false:=by
   show((D.toNat:Int)== 35)=false;refine AH.2 λe=>Z (UInt8.toNat_inj.1 (by show D.toNat=35;omega))
  have W:Hid (xk (C,out) x=((kq C (D::F) vs).1,out++((kq C (D::F) vs).2++[10]))):=zc (Ye U.out (by simpa using Z));have A1:=jq x;rw[U.out]at A1;have e1:=sP 32 (D::F) vs;have i1:=xU 32 x;have n:Hid (vs.length<=70000/\(zO 32 vs).length<=65536):=zc ⟨by
   have h:(vL x).length<=(zk 32 x).length:=List.length_filter_le _ _;rw[U.out,Ap]at h;have:=I0.out;omega,by have:=I0.out;omega⟩
  have f0:Hid (∀x,x∈vs->x.length<=70000):=zc λy hy=>by
   have h9:y∈(zk 32 x).filter λp=>decide (p≠[]):=by
    show y∈vL x;rw[U.out];simp[hy]
   rw[List.mem_filter]at h9;have:=uQ 32 x y h9.1;have:=I0.out;omega
  have u:=za j.out (za g.out R.out);have e0:=zc (HT.out.ext u);have Q1:=zc (HM.out.ext u);have O1:=zc (Px (text:=C) (verb:=D::F) P.tail n.out.1 f0.out (by have:=n.out.2;omega) O.out e0.out Q1.out);have N:=zc P;have V1:=zc xw;have X0:=zc r0;have N1:=zc Z;obtain⟨d1,y0⟩:∃d,decide (D::F=pj/\vs≠[])=d:=⟨_,rfl⟩;obtain⟨d2,L0⟩:∃d,decide (D::F=qe/\vs=[])=d:=⟨_,rfl⟩
  have l:=zc y0;have m:=zc L0;have K2:((D::F)::vs).length=vs.length+1:=rfl;clear R0 Z A1 e1 i1 P y0 L0 u r0;go_upto_region 11 with fail
  go_cut [50] from 51 to 59 (λo1 wx=>o1=.bool d1/\wx=J)
  case first=>
   by_cases V:D::F=pj
   ·have e:((D::F)== [103,114,97,112,104])=true:=by rw[V];rfl
    cases vs with
    |nil=>
     have I:d1=false:=by rw[<-l.out];simp
     subst I;clear V;go_wp2_with fail;go_meet;exact⟨rfl,rfl⟩
    |cons y ys=>
     have I:d1=true:=by rw[<-l.out];simp[V]
     have c1:decide ((((D::F)::y::ys).length:Int)>1)=true:=decide_eq_true (by simp only[Ap];omega);subst I;clear V;go_wp2_with fail;go_meet
     first|exact⟨rfl,rfl⟩|exact⟨congrArg Value.bool (decide_eq_true (by omega)),rfl⟩
   have e:((D::F)== [103,114,97,112,104])=false:=AH.2 V;have I:d1=false:=by rw[<-l.out];simp[V]
   subst I;clear V;go_wp2_with fail;go_meet;exact⟨rfl,rfl⟩
  obtain⟨rfl,rfl⟩:=hcut;obtain⟨J,rfl⟩:∃x,x=wc:=⟨_,rfl⟩
  cases d1 with
  |true=>
   have HG:Hid (D::F=pj/\vs≠[]):=zc (of_decide_eq_true l.out);have B0:vs≠[]:=HG.out.2;have k1:=List.length_pos_iff.2 B0;have v0:=N.out.lc;have I2:=N.out.cm;simp only[Ap]at v0;have J0:kq C (D::F) vs=mm C vs:=by rw[HG.out.1];exact Tz
   have HJ:=zc (tL (some ⟨bw,ow+1,none⟩) (c5-1) vs 32 J N.out.tail (by have:=n.out.2;omega));have f1:=n.out.2;have G0:Hid (mm C vs=if 8192<C.length+(zO 32 vs++[10]).length then (C,yO 2) else (C++(zO 32 vs++[10]),Uw)):=zc (by unfold mm;rw[Au B0]);obtain⟨jt,B1⟩:∃jt,zO 32 vs=jt:=⟨_,rfl⟩;rw[B1]at HJ G0 f1;have Q0:(jt++[10]).length=jt.length+1:=by simp
   have Z1:=wl jt [10] (by simp;omega);obtain⟨pt,D1⟩:∃pt,jt++[10]=pt:=⟨_,rfl⟩;rw[D1]at G0 Q0 Z1;obtain⟨nv,A0⟩:∃nv,vs.length=nv:=⟨_,rfl⟩;rw[A0]at HJ k1 v0⊢;have D2:=zc Q0;have v1:pt.length<=65537:=by omega
   clear B0 B1 D1 A0 Q0;go_upto_region 12 with fail;go_wp2_with fail;refine HJ.out.mono ?_;rintro e w6 ⟨rfl,a⟩;have S:=zc (za R.out a);clear a xw
   by_cases E:8192<C.length+pt.length
   case pos=>
    have b1:decide ((C.length:Int)+pt.length>8192)=true:=by simp;omega
    have G:Hid (xk (C,out) x=(C,out++(yO 2++[10]))):=zc (by rw[W.out,J0,G0.out,Aq E]);have HF:=zc (zP 2 (zt (by decide) (by decide)) w6 (HT.out.ext (za j.out (za g.out S.out))));have l1:=oN (e:=2) (zt (by decide) (by decide));obtain⟨et,z0⟩:∃et,yO 2=et:=⟨_,rfl⟩;rw[z0]at HF G l1;have Y1:=wl et [10] (by simp;omega)
    have w0:=wl out (et++[10]) (by have:=B.out;simp;omega);have Y:=B.out;clear E J0 z0;go_wp2_with fail;refine HF.out.mono ?_;rintro e w7 ⟨rfl,W1⟩;go_wp2_with fail;go_roundw
    case rel=>exact⟨k+1,C,out++(et++[10]),rfl,rfl,by go_num,by omega,zc (by rw[T.out,G.out]),O.out,mR B.out (by simp only[Ag,Ap,AC];omega),za g.out (za S.out W1)⟩
    case measure=>simp[intOf];omega
   have b1:decide ((C.length:Int)+pt.length>8192)=false:=by simp;omega
   have G:Hid (xk (C,out) x=(C++pt,out++(Uw++[10]))):=zc (by rw[W.out,J0,G0.out,Au E]);have U1:Hid ((C++pt).length<=8192):=zc (by rw[Ag];omega);have F1:=O.out;have Y1:=wl C pt (by omega);have w0:=wl out [111,107,10] (by have:=B.out;simp;omega);have Y:=B.out;clear E J0;go_wp2_with fail;go_roundw
   case rel=>exact⟨k+1,C++pt,out++(Uw++[10]),rfl,rfl,by go_num,by omega,zc (by rw[T.out,G.out]),U1.out,mR B.out (by decide),za g.out S.out⟩
   case measure=>simp[intOf];omega
  |false=>
   have R1:Hid (¬(D::F=pj/\vs≠[])):=zc (of_decide_eq_false l.out);go_upto_region 17 with fail
   go_cut [79] from 80 to 88 (λp1 wx=>p1=.bool d2/\wx=J)
   case first=>
    by_cases V:D::F=qe
    ·have e:((D::F)== [99,108,101,97,114])=true:=by rw[V];rfl
     cases vs with
     |nil=>
      have I:d2=true:=by rw[<-m.out];simp[V]
      subst I;clear V;go_wp2_with fail;go_meet;exact⟨rfl,rfl⟩
     |cons y ys=>
      have I:d2=false:=by rw[<-m.out];simp
      have c1:((((D::F)::y::ys).length:Int)== 1)=false:=AH.2 (by simp;omega);subst I;clear V;go_wp2_with fail;go_meet
      first|exact⟨rfl,rfl⟩|exact⟨congrArg Value.bool (AH.2 (by omega)),rfl⟩
    have e:((D::F)== [99,108,101,97,114])=false:=AH.2 V;have I:d2=false:=by rw[<-m.out];simp[V]
    subst I;clear V;go_wp2_with fail;go_meet;exact⟨rfl,rfl⟩
   obtain⟨rfl,rfl⟩:=hcut;obtain⟨J,rfl⟩:∃x,x=wc:=⟨_,rfl⟩
   cases d2 with
   |true=>
    have HG:Hid (D::F=qe/\vs=[]):=zc (of_decide_eq_true m.out);have G:Hid (xk (C,out) x=([],out++(Uw++[10]))):=zc (by rw[W.out,HG.out.1,HG.out.2,Ty]);have w0:=wl out [111,107,10] (by have:=B.out;simp;omega);have Y:=B.out;clear xw;go_wp2_with fail;go_roundw
    case rel=>exact⟨k+1,[],out++(Uw++[10]),rfl,rfl,by go_num,by omega,zc (by rw[T.out,G.out]),by simp,mR B.out (by decide),za g.out R.out⟩
    case measure=>simp[intOf];omega
   |false=>
    have T1:Hid (¬(D::F=qe/\vs=[])):=zc (of_decide_eq_false m.out);have Y0:=zc (Py C (D::F) vs R1.out T1.out);obtain⟨r,hr⟩:∃r,pv C (D::F) vs=r:=⟨_,rfl⟩;have G:Hid (xk (C,out) x=(C,out++(r++[10]))):=zc (by rw[W.out,Y0.out,hr]);have H0:Hid (r.length<=100000):=zc (by have h1:=O1.out.2;rw[Y0.out]at h1;rw[<-hr];exact h1);have z:=zi (Ae J.heap.size J)
    have a0:Hid (∀(A2:Option Addr) (c2:Nat),zS J.drew A2 c2 vs->Calls Tryz.prog 25 #[.string (bs C),.string (bs (D::F)),.slice A2 vs.length c2] J.drew λe f=>e=.returned (.string (bs r))/\Below J.drew.heap.size J.drew f):=zc λA2 c2 hS=>by
     have h9:=Wk A2 c2 C (D::F) vs J.drew hS n.out.1 f0.out O.out (e0.out.ext z)
     rwa[hr]at h9
    have s0:=wl r [10] (by have:=H0.out;simp;omega);have u0:=wl out (r++[10]) (by have:=H0.out;have:=B.out;simp;omega);obtain⟨S1,H⟩:∃S1:World->Prop,Hid (S1=λf=>f.cell? ⟨bw,ow,none⟩=some (.string (bs (D::F)))/\True):=⟨_,zc rfl⟩;have M0:Hid (∀f,Below J.heap.size J f->S1 f):=zc λf h=>by
     rw[H.out];exact⟨(h.cell (p:=⟨bw,ow,none⟩) X0.out).trans V1.out,trivial⟩
    have l0:S1 J.drew:=M0.out _ z;clear hr
    by_cases t0:1<c5
    case neg=>
     have B0:vs=[]:=by have h:=N.out.lc;simp only[Ap]at h;exact List.length_eq_zero_iff.1 (by omega)
     subst B0;obtain rfl:c5=1:=by have h:=N.out.lc;simp only[Ap,AC]at h;omega
     have F0:Hid (∀A2:Option Addr,Calls Tryz.prog 25 #[.string (bs C),.string (bs (D::F)),.slice A2 0 0] J.drew λe f=>e=.returned (.string (bs r))/\Below J.drew.heap.size J.drew f):=zc λA2=>a0.out A2 0 (iL (by simp));clear t0;go_upto_region 10 with fail;clear xw
     try rw[show [D::F].length=1 from rfl]
     refine zB S1 (by kernel_rfl) ?_;refine tH 0 ?_ ?_<|tH 1 ?_ ?_<|tH 2 ?_ ?_<|tH 3 ?_ ?_<|tH 4 ?_ ?_<|tH 5 ?_ ?_ ?_
     iterate 6
      rotate_left;intro w A;rw[H.out]at A;obtain⟨L,M⟩:=A;(try simp only[pS]);go_simp;try with_reducible rfl
     try simp only[pS]
     refine tH 6 ?_ ?_ ?_;rotate_left
     ·intro w A;rw[H.out]at A;obtain⟨L,M⟩:=A;go_simp;(try rw[Aq (by omega)]);try with_reducible rfl
     try simp only[pS]
     refine zu (i:=7) rfl (by kernel_rfl) λK hK=>?_;go_wp2_with fail;refine((F0.out _)).mono ?_;rintro e w6 ⟨rfl,a⟩;have Q:=za z a;have q:=M0.out _ Q;refine hK.out _ _ ⟨q,?_⟩;clear hK K l0
     try simp only[pS]
     refine tH 8 ?_ ?_ ?_;rotate_left
     ·intro w A;rw[H.out]at A;obtain⟨L,M⟩:=A;have hc:=s0 w;(try simp only[pS]);go_simp;try with_reducible rfl
     try simp only[pS]
     refine tH 9 ?_ ?_ ?_;rotate_left
     ·intro w A;rw[H.out]at A;obtain⟨L,M⟩:=A;have hc:=u0 w;(try simp only[pS]);go_simp;try with_reducible rfl
     try simp only[pS]
     refine tH 10 ?_ ?_ ?_;rotate_left
     ·intro w A;rw[H.out]at A;obtain⟨L,M⟩:=A;(try simp only[pS]);go_simp;try with_reducible rfl
     try simp only[pS]
     refine wpAnyH_done (by kernel_rfl) ?_ _
     try simp only[pS]
     clear q;have S:=za R.out Q;go_wp2_with fail;go_roundw
     case rel=>exact⟨k+1,C,out++(r++[10]),rfl,rfl,by go_num,by omega,zc (by rw[T.out,G.out]),O.out,mR B.out (by have h2:=H0.out;simp only[Ag,Ap,AC];omega),za g.out S⟩
     case measure=>simp[intOf];omega
    have F0:Hid (Calls Tryz.prog 25 #[.string (bs C),.string (bs (D::F)),.slice (some ⟨bw,ow+1,none⟩) vs.length (c5-1)] J.drew λe f=>e=.returned (.string (bs r))/\Below J.drew.heap.size J.drew f):=zc (a0.out _ _ (N.out.tail.ext z));have j1:vs.length+1<=c5:=by have h:=N.out.lc;simpa using h
    have t1:c5<=maxLen:=N.out.cm;have H2:¬c5=1:=by omega
    go_upto_region 10 with fail;clear xw
    try rw[show((D::F)::vs).length=vs.length+1 from rfl]
    obtain⟨nv,A0⟩:∃nv,vs.length=nv:=⟨_,rfl⟩;rw[A0]at F0 j1⊢;clear A0;refine zB S1 (by kernel_rfl) ?_;refine tH 0 ?_ ?_<|tH 1 ?_ ?_<|tH 2 ?_ ?_<|tH 3 ?_ ?_<|tH 4 ?_ ?_<|tH 5 ?_ ?_ ?_
    iterate 6
     rotate_left;intro w A;rw[H.out]at A;obtain⟨L,M⟩:=A;(try simp only[pS]);go_simp;try with_reducible rfl
    try simp only[pS]
    refine tH 6 ?_ ?_ ?_;rotate_left
    ·intro w A;rw[H.out]at A;obtain⟨L,M⟩:=A;go_simp;(try rw[Aq (by omega)]);try with_reducible rfl
    try simp only[pS]
    refine zu (i:=7) rfl (by kernel_rfl) λK hK=>?_;go_wp2_with fail;refine(F0.out).mono ?_;rintro e w6 ⟨rfl,a⟩;have Q:=za z a;have q:=M0.out _ Q;refine hK.out _ _ ⟨q,?_⟩;clear hK K l0
    try simp only[pS]
    refine tH 8 ?_ ?_ ?_;rotate_left
    ·intro w A;rw[H.out]at A;obtain⟨L,M⟩:=A;have hc:=s0 w;(try simp only[pS]);go_simp;try with_reducible rfl
    try simp only[pS]
    refine tH 9 ?_ ?_ ?_;rotate_left
    ·intro w A;rw[H.out]at A;obtain⟨L,M⟩:=A;have hc:=u0 w;(try simp only[pS]);go_simp;try with_reducible rfl
    try simp only[pS]
    refine tH 10 ?_ ?_ ?_;rotate_left
    ·intro w A;rw[H.out]at A;obtain⟨L,M⟩:=A;(try simp only[pS]);go_simp;try with_reducible rfl
    try simp only[pS]
    refine wpAnyH_done (by kernel_rfl) ?_ _
    try simp only[pS]
    clear q;have S:=za R.out Q;go_wp2_with fail;go_roundw
    case rel=>exact⟨k+1,C,out++(r++[10]),rfl,rfl,by go_num,by omega,zc (by rw[T.out,G.out]),O.out,mR B.out (by have h2:=H0.out;simp only[Ag,Ap,AC];omega),za g.out S⟩
    case measure=>simp[intOf];omega
theorem dT{w:World}{base n c:Nat}{A:Option Addr}{l:List (List UInt8)}(h:Own yp 1 w base 9 (.slice A n c) l)(h0:0<l.length):∃g B,A=some ⟨g,0,none⟩/\base<=g/\zj w g 9 B:=by
 rcases h.2 with⟨H,I⟩|⟨g,D,E,C,_⟩
 ·omega
 simp only[Value.slice.injEq]at C;obtain⟨rfl,rfl,rfl⟩:=C;obtain⟨_,G,_,_,B,F,_,_⟩:=h.cells ud;exact⟨g,B,rfl,G,F⟩
theorem BAtF.store{B b k:Nat}{p u:Value}{l:List Value}{w:World}(h:Lib.BuilderAtF 35 5 B b p l w)(H:k<B):Lib.BuilderAtF 35 5 B b p l (w.setCell ⟨k,0,none⟩ u):=by
 obtain⟨E,v,G,⟨F,C⟩,D⟩:=h;have A:∀x,B<=x->(w.setCell ⟨k,0,none⟩ u).heap[x]?=w.heap[x]?:=λx I=>Below.heap_setCell w _ u x (by show x≠k;omega);refine⟨E,v,(A b E).trans G,⟨F,?_⟩,D⟩;rcases C with C|⟨g,cap,cur,fz,hv,hg,hh,r⟩
 ·exact .inl C
 exact .inr ⟨g,cap,cur,fz,hv,hg,(A g hg).trans hh,r⟩
theorem rR.store{B b k:Nat}{u:Value}{l:List UInt8}{w:World}(h:rR B b l w)(hk:k<B):rR B b l (w.setCell ⟨k,0,none⟩ u):=h.elim (λh=>.inl (BAtF.store h hk)) (λh=>.inr (BAtF.store h hk))
theorem jJ{b E:Nat}{r:List UInt8×List UInt8}{J C:List UInt8}{cs:Array Value}{W B:World}{e:Ending}(h:js b r J W e B)(D:zj W b 31 #[.string (bs J)])(H:rR (b+1) (b+1) C W)(I:zj W E 9 cs)(G:E≠b) :
  e=.returned (.string (bs r.2))/\(r.1.length<=8192/\r.2.length<=100000)/\zj B b 31 #[.string (bs r.1)]/\rR (b+1) (b+1) C B/\zj B E 9 cs/\Below b W B/\W.heap.size<=B.heap.size:=by
 obtain⟨M,F,A,rfl,L⟩:=h;refine⟨rfl,F,?_⟩;rcases L with⟨rfl,K⟩|rfl
 ·rw[K]
  exact⟨D.ext A,rR.ext H A,I.ext A,A.mono (Nat.le_of_lt D.lt),A.size⟩
 exact⟨(D.ext A).set_ 0 _,rR.store (rR.ext H A) (Nat.lt_succ_self b),(I.ext A).far G _,(A.mono (Nat.le_of_lt D.lt)).setCell (Ay b) _,by simpa using A.size⟩
theorem pR{b bw:Nat}{out t:List UInt8}{tx:List UInt8}{cs:Array Value}{W w':World}(hw:rR (b+1) (b+1) (out++t) w'/\Below (b+1) W w'/\Lib.OthersKept 5 (some (b+1)) W w')(hD:zj W b 31 #[.string (bs tx)])(hC:zj W bw 9 cs)(hne:bw≠b+1) :
  zj w' b 31 #[.string (bs tx)]/\rR (b+1) (b+1) (out++t) w'/\zj w' bw 9 cs/\Below b W w':=
 ⟨hD.below hw.2.1 (Nat.lt_succ_self b),hw.1,hw.2.2 _ _ hC (λe=>hne (by injection e)) (λc fz e=>by injection e with _ e2 _;exact absurd e2 (by decide)),hw.2.1.mono (Nat.le_succ b)⟩
