import Derived.Test.YtjcimdpldlamfaaGreatDoorBdc1e3e061f2
import Derived.Test.YtjcimdpldlamfaaGreatDoorBd3b933c0500
namespace Go.Proofs.YtjcimdpldlamfaaGreatDoor
set_option maxRecDepth 100000
set_option maxHeartbeats 32000000
open Go.RowKit
def oG(l:List UInt8)(P:List (List UInt8))(k m:Nat)(g:zf)(v:List UInt8)(nl:List Int)(o:Bool):Prop:=
 (o=true->k<m/\zY l=(match yX g v nl with|none=>(qn,(k:Int)+1,3)|some g'=>yE (k+1) g' (P.drop (k+1))))/\(o=false->zY l=(qn,(k:Int)+1,3))
theorem oG.none{l:List UInt8}{P:List (List UInt8)}{k m:Nat}{g:zf}{v:List UInt8}{nl:List Int}{o:Bool}(h:oG l P k m g v nl o)(A:yX g v nl=none):zY l=(qn,(k:Int)+1,3):=by
 cases o with
 |false=>exact h.2 rfl
 |true=>rw[(h.1 rfl).2,A]
theorem oG.some{l:List UInt8}{P:List (List UInt8)}{k m:Nat}{g g':zf}{v:List UInt8}{nl:List Int}(h:oG l P k m g v nl true)(A:yX g v nl=some g'):k<m/\zY l=yE (k+1) g' (P.drop (k+1)):=by
 refine⟨(h.1 rfl).1,?_⟩;rw[(h.1 rfl).2,A]
theorem Qf{h:Int}{A:List zw}{i j:List wk}:(tA h A (i++j))=(⟨h,A,i.map Prod.fst++j.map Prod.fst⟩:zf):=by simp[tA]
theorem SE{A:List (List UInt8)}{n:List Int}(h:xy A=(n,false)):n=[]/\yn A=none:=by
 unfold xy at h
 split at h
 ·simp at h
 next hn=>simp only[Prod.mk.injEq,and_true]at h;exact⟨h.symm,hn⟩
theorem VS{A:List (List UInt8)}{n:List Int}(h:xy A=(n,true)):yn A=some n:=by
 unfold xy at h
 split at h
 ·next n' hn=>simp only[Prod.mk.injEq,and_true]at h;rw[hn,h]
 simp at h
theorem PQ{P init:List (List UInt8)}{last x:List UInt8}{k:Nat}(D:P=init++[last])(H:k<init.length)(G:P[k]?=some x):∃q B,P.drop k=x::q::B/\P.drop (k+1)=q::B:=by
 have C:=xj G;have E:k+1<P.length:=by rw[D];simp;omega
 obtain⟨q,F⟩:=zl E;have A:=xj F;exact⟨q,P.drop (k+1+1),by rw[C,A],A⟩
theorem Sp{l v x:List UInt8}{P init:List (List UInt8)}{last:List UInt8}{G:List (List UInt8)}{nl:List Int}{k:Nat}{g:zf}{B C:Bool}(J:P=init++[last])(M:P[k]?=some x)(L:zk 32 x=v::G)(A:zY l=yE k g (P.drop k))(E:xy G=(nl,B))
  (F:C=true->k<init.length) (D:C=false->zY l=(qn,(k:Int)+1,3)):oG l P k init.length g v nl (B && C && (decide (k=0)== (v== [116,105,109,101]))):=by
 have K:(v== [116,105,109,101])=decide (v=yz):=by
  rw[Bool.eq_iff_iff,decide_eq_true_eq];simp[yz]
 cases C with
 |false=>exact⟨λh=>by simp at h,λ_=>D rfl⟩
 |true=>
  obtain⟨q,N,H,I⟩:=PQ J (F rfl) M;rw[H,yE,L]at A;simp only[xJ]at A
  cases B with
  |false=>
   rw[(SE E).2]at A;exact⟨λh=>by simp at h,λ_=>A⟩
  |true=>
   rw[VS E]at A;simp only[Bool.true_and];rw[K];simp only at A;refine⟨λh=>⟨F rfl,?_⟩,λh=>?_⟩
   ·rw[if_pos (by simpa using h)]at A
    rw[A,I]
    cases yX g v nl <;> rfl
   rw[if_neg (by simpa using h)]at A;exact A
theorem fK(l:List UInt8)(w:World)(hl:l.length<=9223372036854775807):Calls Tryz.prog 39 #[.string (bs l)] w (Yr (zY l) w):=by
 have C3:=xT l
 by_cases h1:8192<l.length
 case pos=>
  have HP:Hid (zY l=(qn,0,2)):=zc (by unfold zY;rw[if_pos h1]);have hd:decide ((l.length:Int)>8192)=true:=by simp;omega
  have B0:=zj.new w 68 #[.int .i64 0,.slice none 0 0,.slice none 0 0];obtain⟨c1,c2,c3⟩:=B0.facts;clear h1 C3
  go_enter Tryz.func39,Tryz.ntmps39
  go_wp2_with fail;refine bodyPost_ret (v:=.tuple #[gV none 0 none 0 qn,.int .i64 0,.int .i64 2]) (by simp[results,Tryz.results39,go_sem,c1]) rfl ?_;rw[HP.out];exact⟨none,0,none,0,rfl,uw _,by go_grown⟩
 have N4:l.length<=8192:=by omega
 obtain⟨P,g0⟩:∃P,zk 10 l=P:=⟨_,rfl⟩;have D1:=sS 10 l;rw[g0]at D1;have HP:Hid (zY l=yE 0 qn P):=zc (by unfold zY;rw[if_neg h1,g0]);have hd:decide ((l.length:Int)>8192)=false:=by simp;omega
 have F2:=λW=>oC l 10 W (by omega);rw[g0]at F2;obtain⟨D,R,k0⟩:=XW 10 l;rw[g0]at k0;have x3:Hid (∀x,x∈P->x.length<=8192):=zc λx hx=>Nat.le_trans (D1.1 x hx) N4;have z4:D.length<=8192:=by have:=D1.2;rw[k0,List.length_append]at this;simp at this;omega
 have B1:=zc k0;have l0:P.length=D.length+1:=by rw[k0];simp
 have I0:∀W:World,Calls Tryz.prog 18 #[.string (bs l),.int .u8 10] W λe J=>∃g c,e=.returned (.slice (some ⟨g,0,none⟩) (D.length+1) c)/\Own yp 1 J W.heap.size 9 (.slice (some ⟨g,0,none⟩) (D.length+1) c) P/\Below W.heap.size W J:=λW=>
  (F2 W).mono λe J ⟨g,c,h1,h2,h3⟩=>⟨g,c,by rw[<-l0];exact h1,by rw[<-l0];exact h2,h3⟩
 have v3:=zc I0;clear h1 C3 hl D1 g0 F2 I0 k0
 go_enter Tryz.func39,Tryz.ntmps39
 go_wp2_with fail;refine(v3.out _).mono ?_;rintro e w1 ⟨gp,cp,rfl,m1,s1⟩;have y4:w.heap.size+1<=gp:=by
  obtain⟨_,h,_⟩:=m1.cells ud;simpa using h
 obtain⟨G2,_,B3,I0,k1,BP,_,J0⟩:=m1.cells ud;rw[l0]at B3;clear G2;have I0:cp<=9223372036854775807:=I0;have b2:Hid (∀k x,P[k]?=some x->k1[k]?=some (Value.string (bs x))):=zc λk x hx=>by have:=J0 k x hx 0 (by decide);simpa[yp]using this
 have BR:zj w1 w.heap.size 68 #[.int .i64 0,.slice none 0 0,.slice none 0 0]:=(zj.new w _ _).ext s1;have X0:Below w.heap.size w w1:=za (by go_grown) s1;have E2:k1[D.length]?=some (.string (bs R)):=b2.out _ _ (by rw[B1.out];simp);have L4:IntKind.i64.wrap (D.length:Int)=D.length:=IntWalk.i64_in _ (by omega);have v2:D.length<D.length+1:=by omega
 have w2:(D.length:Int)<(D.length:Int)+1:=by omega
 obtain⟨c1,c2,c3⟩:=BP.facts;have J5:=X0.size;have w3:=zc l0;clear J0 m1 s1 l0;obtain⟨wh,E3⟩:∃wh,decide (R=[]/\0<D.length)=wh:=⟨_,rfl⟩;have e0:=zc E3;clear E3;go_upto_region 4 with fail
 go_cut [6] from 21 to 32 (λx6 wx=>x6=.bool wh/\wx=w1)
 case first=>
  rcases Nat.eq_zero_or_pos D.length with S0|S0
  case inl=>
   have hg:decide ((D.length:Int)+1>1)=false:=by simp;omega
   obtain rfl:wh=false:=by rw[<-e0.out];simp only[decide_eq_false_iff_not];omega
   clear S0
   cases R with
   |nil=>
    go_wp2_with fail;go_meet
    case rel=>exact⟨rfl,rfl⟩
   |cons x r=>
    go_wp2_with fail;go_meet
    case rel=>exact⟨rfl,rfl⟩
  case inr=>
   have hg:decide ((D.length:Int)+1>1)=true:=by simp;omega
   cases R with
   |nil=>
    obtain rfl:wh=true:=by rw[<-e0.out];simp only[decide_eq_true_eq];exact⟨trivial,S0⟩
    go_wp2_with fail;go_meet
    case rel=>exact⟨rfl,rfl⟩
   |cons x r=>
    obtain rfl:wh=false:=by have:=e0.out;rw[<-this];simp
    go_wp2_with fail;go_meet
    case rel=>exact⟨rfl,rfl⟩
 case rest=>
 obtain⟨rfl,rfl⟩:=hcut
 go_upto_if 33 with fail
 go_cut [5] from 33 to 38 (λx5 wx=>∃(n5:Nat),x5=.slice (some ⟨gp,0,none⟩) n5 cp/\wx=wc/\Hid ((wh=true->n5=D.length/\R=[]/\0<D.length)/\(wh=false->n5=D.length+1/\¬(R=[]/\0<D.length)))/\n5<=D.length+1)
 case first=>
  cases wh with
  |true=>
   have J1:R=[]/\0<D.length:=by have:=e0.out;simpa using this
   go_wp2_with fail;go_meet
   case rel=>exact⟨D.length,rfl,rfl,zc ⟨λ_=>⟨rfl,J1.1,J1.2⟩,λh=>(by cases h)⟩,by omega⟩
  |false=>
   have J1:¬(R=[]/\0<D.length):=by have:=e0.out;simpa using this
   go_wp2_with fail;go_meet
   case rel=>exact⟨D.length+1,rfl,rfl,zc ⟨λh=>(by cases h),λ_=>⟨rfl,J1⟩⟩,Nat.le_refl _⟩
 case rest=>
 obtain⟨n5,rfl,rfl,HW,G5⟩:=hcut;clear c1 c2 c3 E2 L4 v2 w2;obtain⟨V,B2⟩:∃V,V=wc.heap.size:=⟨_,rfl⟩;have M0:=wj.new wc V B2 0;have B0:=BR.alloc (Obj.cells #[.int .i64 0,.slice none 0 0,.slice none 0 0] 68);have Y2:=BP.alloc (Obj.cells #[.int .i64 0,.slice none 0 0,.slice none 0 0] 68);have Q1:=ze X0 (Obj.cells #[.int .i64 0,.slice none 0 0,.slice none 0 0] 68);have J2:w.heap.size<V:=by have:=BR.lt;omega
 go_wp2_with fail;rw[<-B2];clear B2
 go_loopw [8] (λat_ wr=>∃(k:Nat) (h:Int) (vl ve:Value) (O:List zw) (C:List wk),at_=.int .i64 k/\k<=D.length/\wj wr V k h vl ve O C/\zj wr w.heap.size 68 #[.int .i64 0,.slice none 0 0,.slice none 0 0]/\zj wr gp 9 k1/\Below w.heap.size w wr/\Hid (zY l=yE k (tA h O C) (P.drop k))) (λat_ _=>D.length+1-(intOf at_).toNat)
 case atStart=>exact⟨0,0,_,_,[],[],rfl,Nat.zero_le _,M0,B0,Y2,Q1,HP⟩
 clear M0 B0 Y2 Q1 BR BP X0;obtain⟨k,h,vl,ve,O,C,rfl,hk,M,BR,BP,hb,HI⟩:=hrel;obtain⟨A,cA,A',s,rfl,rfl,hG⟩:=M.at_
 by_cases D5:k<n5
 case neg=>
  have S4:wh=true:=by
   cases wh with
   |true=>rfl
   |false=>have:=(HW.out.2 rfl).1;omega
  have C2:k=D.length/\R=[]/\0<k:=by
   have h9:=HW.out.1 S4;exact⟨by omega,h9.2.1,by omega⟩
  have HE:Hid (zY l=gd (tA h O C)):=zc (by
   rw[HI.out,B1.out,C2.1,List.drop_left,C2.2.1];exact fJ (by omega))
  obtain⟨p1,p2,p3⟩:=M.gr.facts;have u1:=uc A A' cA s (tA h O C) wr hG;rw[UP]at u1;clear HI C2;go_wp2_with fail;refine u1.mono ?_;clear u1;rintro e w5 ⟨rfl,p0⟩;have X0:=za hb p0;obtain⟨c1,c2,c3⟩:=(BR.ext p0).facts;obtain⟨p1,p2,p3⟩:=(M.gr.ext p0).facts
  by_cases h0:zz (tA h O C)=0
  ·have U:Hid (zY l=(tA h O C,0,0)):=zc (by rw[HE.out];unfold gd;rw[if_pos h0])
   rw[h0];clear h0 HE;go_wp2_with fail;refine bodyPost_ret (v:=.tuple #[.agg #[.int .i64 h,.slice A O.length cA,.slice A' C.length s],.int .i64 0,.int .i64 0]) (by simp[results,Tryz.results39,go_sem,c1]) rfl ?_;rw[U.out];exact⟨A,cA,A',s,by rw[UP],(M.ext p0).told (BR.ext p0) _ _ _,((X0.setCell (Nat.le_refl _) _).setCell (Nat.le_refl _) _).setCell (Nat.le_refl _) _⟩
  have U:Hid (zY l=(qn,0,zz (tA h O C))):=zc (by rw[HE.out];unfold gd;rw[if_neg h0]);have hn:(zz (tA h O C) != 0)=true:=by simp[h0]
  clear h0 HE;obtain⟨er,o2⟩:∃er,zz (tA h O C)=er:=⟨_,rfl⟩;rw[o2]at hn U⊢;clear o2;go_wp2_with fail;refine bodyPost_ret (v:=.tuple #[gV none 0 none 0 qn,.int .i64 0,.int .i64 er]) (by simp[results,Tryz.results39,go_sem,c1]) rfl ?_;rw[U.out];exact⟨none,0,none,0,rfl,uw _,((X0.setCell (Nat.le_refl _) _).setCell (Nat.le_refl _) _).setCell (Nat.le_refl _) _⟩
 have x2:k<P.length:=by rw[w3.out];omega
 obtain⟨x,hx⟩:=zl x2;have U4:=x3.out x (List.mem_of_getElem? hx);have t4:=b2.out k x hx;obtain⟨v,ws,hv⟩:=wg 32 x;have E1:=sS 32 x;rw[hv]at E1;simp only[List.length_cons]at E1;have H2:=λW=>oC x 32 W (by omega);rw[hv]at H2;have S1:∀W:World,Calls Tryz.prog 18 #[.string (bs x),.int .u8 32] W λe J=>∃g c,e=.returned (.slice (some ⟨g,0,none⟩) (ws.length+1) c)/\Own yp 1 J W.heap.size 9 (.slice (some ⟨g,0,none⟩) (ws.length+1) c) (v::ws)/\Below W.heap.size W J:=λW=>
  (H2 W).mono λe J ⟨g,c,h1,h2,h3⟩=>⟨g,c,h1,h2,h3⟩
 have e2:=zc S1;have f2:Hid (∀y,y∈ws->y.length<=100000):=zc λy hy=>by have:=E1.1 y (by simp[hy]);omega
 have F3:ws.length<=100000:=by omega
 obtain⟨⟨nl,x0⟩,hq⟩:∃r,xy ws=r:=⟨_,rfl⟩;have HQ:=zc hq;obtain⟨zb,T0⟩:∃zb,decide (k<D.length)=zb:=⟨_,rfl⟩;have E:Hid (oG l P k D.length (tA h O C) v nl (x0 && zb && (decide (k=0)== (v== [116,105,109,101])))):=zc (Sp B1.out hx hv HI.out hq (λhz=>by rw[hz]at T0;simpa using T0) (λhz=>by
  rw[hz]at T0;have M4:k=D.length:=by simp at T0;omega
  have R4:wh=false:=by
   cases wh with
   |false=>rfl
   |true=>have:=(HW.out.1 rfl).1;omega
  rw[HI.out,B1.out,M4,List.drop_left];refine fI λhc=>(HW.out.2 R4).2 ⟨hc.2,by omega⟩))
 have A3:((k:Int)== 0)=decide (k=0):=by rw[Bool.eq_iff_iff];simp
 have K1:wh=false->decide ((k:Int)<(n5:Int)-1)=zb:=λhw=>by
  have:=(HW.out.2 hw).1;rw[<-T0,Bool.eq_iff_iff];simp;omega
 have K2:wh=true->zb=true:=λhw=>by
  have:=(HW.out.1 hw).1;rw[<-T0];simp;omega
 have O4:IntKind.i64.wrap ((n5:Int)-1)=(n5:Int)-1:=IntWalk.i64_in _ (by omega);obtain⟨f,hf⟩:∃f,decide (k=0)=f:=⟨_,rfl⟩;obtain⟨tm,I2⟩:∃tm,(v== [116,105,109,101])=tm:=⟨_,rfl⟩;rw[hf]at A3 E;rw[I2]at E;have b4:=zc I2;have HM:=zc M;obtain⟨c1,c2,c3⟩:=BP.facts;have w0:∀(W:World) (A:Option Addr) (c:Nat),zS W A c ws->Calls Tryz.prog 38 #[.slice A ws.length c] W (lB (nl,x0) W):=λW A c hS=>by
  have:=wR A c ws W hS F3 f2.out
  rwa[hq]at this
 have f1:=zc w0;clear w0 hf hq E1 H2 S1 hv x2 hx hG M T0 HI;have o3:=zc BR;have m3:=zc BP;clear BR BP;go_wp2_with fail;refine(e2.out _).mono ?_;rintro e w6 ⟨gw,cw,rfl,C1,q0⟩;have R1:=za hb q0;have M6:=HM.out.ext q0;have F0:=o3.out.ext q0;have E0:=m3.out.ext q0;have s2:wr.heap.size<=gw:=by
  obtain⟨_,h,_⟩:=C1.cells ud;exact h
 obtain⟨G2,_,T1,U1,D4,BW,m2,J0⟩:=C1.cells ud;have h4:ws.length+1<=cw:=by simpa using T1
 have i4:cw<=9223372036854775807:=U1;have v1:D4[0]?=some (Value.string (bs v)):=by have:=J0 0 v rfl 0 (by decide);simpa[yp]using this
 have F:zS w6 (some ⟨gw,0,none⟩) cw (v::ws):=by
  obtain⟨B,d,e1,hS⟩:=vG C1;obtain⟨rfl,rfl⟩:some ⟨gw,0,none⟩=B/\cw=d:=by simpa using e1
  exact hS
 have A4:=zc F;have m4:=zc s2;have s3:=zc v1;have T4:w6.cell? ⟨gw,0,none⟩=some (Value.string (bs v)):=(BW.cell 0).trans v1;clear G2 T1 U1 J0 C1 q0 c1 c2 c3 F s2 v1 m2;go_upto_region 12 with fail
 go_cut [10,11] from 50 to 75 (λZ4 N2 wx=>∃(Z1:Option Addr) (j1:Nat),Z4=.slice Z1 nl.length j1/\N2=.bool x0/\(Own yK 1 wx (V+1) 3 (.slice Z1 nl.length j1) nl/\∀y,y∈nl->zM y)/\Below w6.heap.size w6 wx)
 case first=>
  by_cases s4:1<cw
  ·have o1:=A4.out.tail
   go_wp2_with fail;refine(f1.out _ _ _ o1).mono ?_;rintro e w7 ⟨A7,c7,rfl,h7,C0⟩;go_wp2_with fail;go_meet
   case rel=>exact⟨A7,c7,rfl,rfl,⟨h7.1.since M6.le,h7.2⟩,C0⟩
  obtain rfl:cw=1:=by omega
  obtain rfl:ws=[]:=List.eq_nil_of_length_eq_zero (by omega);have o1:zS w6 (some ⟨gw,0,none⟩) 0 []:=⟨Nat.le_refl _,Nat.zero_le _,zU.nil⟩;go_wp2_with fail;refine(f1.out _ _ _ o1).mono ?_;rintro e w7 ⟨A7,c7,rfl,h7,C0⟩;go_wp2_with fail;go_meet
  case rel=>exact⟨A7,c7,rfl,rfl,⟨h7.1.since M6.le,h7.2⟩,C0⟩
 case rest=>
 obtain⟨Z1,j1,rfl,rfl,L,C0⟩:=hcut;have N:=za R1 C0;have M7:=M6.ext C0;have b1:=F0.ext C0;have Z2:=E0.ext C0;have k3:=BW.ext C0;have H5:=(k3.cell 0).trans s3.out;clear C0 R1 M6 F0 E0 BW T4 hb;obtain⟨o,ho⟩:∃o,(x0 && zb && (f== tm))=o:=⟨_,rfl⟩;have HO:=zc ho;rw[ho]at E;clear ho;go_upto_region 13 with fail
 go_cut [11] from 56 to 75 (λN2 wx=>N2=.bool o/\wx=wc)
 case first=>
  cases x0 with
  |false=>
   go_wp2_with fail;go_meet
   case rel=>exact⟨by rw[<-HO.out];rfl,rfl⟩
  |true=>
   cases wh with
   |true=>
    obtain rfl:zb=true:=K2 rfl;clear K1;go_wp2_with fail;go_meet
    case rel=>exact⟨by rw[<-HO.out];simp,rfl⟩
   |false=>
    have K5:=K1 rfl;clear K2 K1
    cases zb with
    |false=>
     go_wp2_with fail;go_meet
     case rel=>exact⟨by rw[<-HO.out];rfl,rfl⟩
    |true=>
     go_wp2_with fail;go_meet
     case rel=>exact⟨by rw[<-HO.out];simp,rfl⟩
 case rest=>
 obtain⟨rfl,rfl⟩:=hcut;clear K1 K2 A3 O4 I2 e2 f1 F3 f2 U4;have G0:=zc M7;have n:=zc b1;have m:=zc Z2;obtain⟨p1,p2,p3⟩:=M7.gr.facts;obtain⟨c1,c2,c3⟩:=b1.facts;have s0:V+1<=wc.heap.size:=M7.le;have E5:O.length<=8192:=by have:=M7.cnt.1;omega
 have uF:C.length<=8192:=by have:=M7.cnt.2.1;omega
 clear M7 b1 Z2
 by_cases F1:v=yz
 case pos=>
  have I:=zc F1;clear F1;have q1:(v== [116,105,109,101])=true:=by rw[I.out];decide
  have q2:(v== [118,101,114,116,101,120])=false:=by rw[I.out];decide
  have q3:(v== [101,100,103,101])=false:=by rw[I.out];decide
  have q4:(v== [108,101,103])=false:=by rw[I.out];decide
  by_cases G:(nl.length:Int)=1
  case neg=>
   have d1:((nl.length:Int)== 1)=false:=by simpa using G
   have U:Hid (zY l=(qn,(k:Int)+1,3)):=zc (E.out.none (by rw[I.out];exact oY (aG _) G));clear E;go_wp2_with fail;refine bodyPost_ret (v:=.tuple #[gV none 0 none 0 qn,.int .i64 ((k:Int)+1),.int .i64 3]) (by simp[results,Tryz.results39,go_sem,c1]) rfl ?_;rw[U.out];exact⟨none,0,none,0,rfl,uw _,((N.setCell (Nat.le_refl _) _).setCell (Nat.le_refl _) _).setCell (Nat.le_refl _) _⟩
  obtain⟨a,rfl⟩:=XQ G;obtain⟨g5,H0,rfl,x1,B5,h5⟩:=oA L.1 (by simp);have n0:=h5 0 a rfl;have i0:=L.2 a (by simp);obtain⟨r1,r2,r3⟩:=B5.facts;clear h5 L;clear G;go_upto_region 25 with fail;have M6:=G0.out.time i0;have u:=N.setCell (p:=⟨V,0,none⟩) (Nat.le_of_lt J2) (.int .i64 a);have j:=n.out.far (p:=⟨V,0,none⟩) (by simp only;omega) (.int .i64 a);have Q0:=zG G0.out.gr (by decide) 0 (.int .i64 a) _ _ m.out
  have Me:=M6.more (Nat.le_succ k)
  cases o with
  |false=>
   have U:Hid (zY l=(qn,(k:Int)+1,3)):=zc (E.out.2 rfl);obtain⟨t1,t2,t3⟩:=j.facts;clear E;go_wp2_with fail;refine bodyPost_ret (v:=.tuple #[gV none 0 none 0 qn,.int .i64 ((k:Int)+1),.int .i64 3]) (by simp[results,Tryz.results39,go_sem,t1]) rfl ?_;rw[U.out];exact⟨none,0,none,0,rfl,uw _,((u.setCell (Nat.le_refl _) _).setCell (Nat.le_refl _) _).setCell (Nat.le_refl _) _⟩
  |true=>
   obtain⟨D2,A0⟩:=E.out.some (show yX _ v [a]=some (tA a O C) by rw[I.out];rfl);have R0:=zc A0;clear E A0;go_wp2_with fail;go_roundw
   case rel=>exact⟨k+1,_,_,_,_,_,by go_num,by omega,Me,j,Q0,u,by exact R0⟩
   case measure=>simp[intOf];omega
 by_cases G1:v=xV
 case pos=>
  have I:=zc G1;clear G1;have q1:(v== [116,105,109,101])=false:=by rw[I.out];decide
  have q2:(v== [118,101,114,116,101,120])=true:=by rw[I.out];decide
  have q3:(v== [101,100,103,101])=false:=by rw[I.out];decide
  have q4:(v== [108,101,103])=false:=by rw[I.out];decide
  by_cases G:(nl.length:Int)=2
  case neg=>
   have d1:((nl.length:Int)== 2)=false:=by simpa using G
   have U:Hid (zY l=(qn,(k:Int)+1,3)):=zc (E.out.none (by rw[I.out];exact oY (fD _) G));clear E;go_wp2_with fail;refine bodyPost_ret (v:=.tuple #[gV none 0 none 0 qn,.int .i64 ((k:Int)+1),.int .i64 3]) (by simp[results,Tryz.results39,go_sem,c1]) rfl ?_;rw[U.out];exact⟨none,0,none,0,rfl,uw _,((N.setCell (Nat.le_refl _) _).setCell (Nat.le_refl _) _).setCell (Nat.le_refl _) _⟩
  obtain⟨a,T,rfl⟩:=ir G;clear G
  by_cases S0:C=[]
  case neg=>
   have hz:((C.length:Int)== 0)=false:=by
    have:C.length≠0:=λe=>S0 (List.eq_nil_of_length_eq_zero e);simp;omega
   have U:Hid (zY l=(qn,(k:Int)+1,3)):=zc (E.out.none (by rw[I.out];simp[yX,S0]));clear E;go_wp2_with fail;refine bodyPost_ret (v:=.tuple #[gV none 0 none 0 qn,.int .i64 ((k:Int)+1),.int .i64 3]) (by simp[results,Tryz.results39,go_sem,c1]) rfl ?_;rw[U.out];exact⟨none,0,none,0,rfl,uw _,((N.setCell (Nat.le_refl _) _).setCell (Nat.le_refl _) _).setCell (Nat.le_refl _) _⟩
  subst S0;have d0:Hid (yX (tA h O []) v [a,T]=some ⟨h,O++[⟨a,T⟩],[]⟩):=zc (by rw[I.out];simp[yX]);obtain⟨g5,H0,rfl,x1,B5,h5⟩:=oA L.1 (by simp);have n0:=h5 0 a rfl;have n1:=h5 1 T rfl;have i0:=L.2 a (by simp);have i1:=L.2 T (by simp);obtain⟨r1,r2,r3⟩:=B5.facts;clear h5 L;obtain⟨j0,hj,t0,u0,v0⟩:=rj;go_wp2_with fail;obtain⟨S,Y⟩:∃S:World->Prop,Hid (S=λJ=>J.cell? ⟨V,1,none⟩=some (.slice A O.length cA)/\J.cell? ⟨g5,0,none⟩=some (.int .i64 a)/\J.cell? ⟨g5,1,none⟩=some (.int .i64 T)):=⟨_,zc rfl⟩
  have q:Hid (∀J:World,zj J V 68 #[.int .i64 h,.slice A O.length cA,.slice A' ([]:List wk).length s]->zj J g5 3 H0->S J):=zc λJ h1 h2=>by rw[Y.out];exact⟨by rw[h1.cell];rfl,by rw[h2.cell];exact n0,by rw[h2.cell];exact n1⟩
  have Z:=G0.out;have l2:S wc.drew:=q.out _ Z.gr.drew B5.drew;clear r1 r2 r3 p1 p2 p3;refine zV.begin (S:=S) 12 (by kernel_rfl) ?_;refine tN 0 ?_ ?_<|tN 1 ?_ ?_<|tN 2 ?_ ?_<|tN 3 ?_ ?_<|tN 4 ?_ ?_<|tN 5 ?_ ?_<|tN 6 ?_ ?_<|tN 7 ?_ ?_<|tN 8 ?_ ?_ ?_
  iterate 9
   rotate_left;intro w F;rw[Y.out]at F;obtain⟨Y0,Z0,a0⟩:=F;(try simp only[pS]);go_simp;try with_reducible rfl
  try simp only[pS]
  refine zV.one (i:=9) rfl (by kernel_rfl) λK X=>?_;go_wp2_with fail;have M7:wj (wc.drew.alloc (Obj.cells #[.int .i64 a,.int .i64 T] 94)) V k h (.slice A O.length cA) (.slice A' ([]:List wk).length s) O ([]:List wk):=Z.drew.keep λ_ _ _ h=>h.alloc _;have B7:zj (wc.drew.alloc (Obj.cells #[.int .i64 a,.int .i64 T] 94)) g5 3 H0:=B5.drew.alloc _;have m0:=q.out _ M7.gr B7;refine X.out _ _ ⟨λ_=>m0,?_⟩
  clear X K
  try simp only[pS]
  refine zV.one (i:=10) rfl (by kernel_rfl) λK X=>?_;refine yR (enc:=xH) (.tmp 108) (.tmp 116) 65 rfl (V+1) 94 j0 _ 2 16 Tryz.underlying65 hj t0 u0 v0 rfl (by decide) _ O ⟨a,T⟩ rfl Z.drew.lives #[.int .i64 a,.int .i64 T] rfl wc.drew.heap.size rfl rfl rfl pN (by have:=Z.cnt;omega) (by decide) s0 ?_;intro gn t w6 z r0 Q A2;have B6:=Q _ _ _ B5.drew (Z.drew.lives.other B5.drew (by decide))
  have F0:=Q _ _ _ n.out.drew (Z.drew.lives.other n.out.drew (by decide));have E0:=Q _ _ _ m.out.drew (Z.drew.lives.other m.out.drew (by decide));obtain⟨G6,M6⟩:=Z.drew.vertex z Q ⟨i0,i1⟩;have o0:=q.out _ G6 B6;refine X.out _ _ ⟨λ_=>o0,?_⟩;clear X K
  try simp only[Act.put,List.setIfInBounds_toArray]
  refine tN 11 ?_ ?_ ?_;rotate_left
  ·intro w F;rw[Y.out]at F;obtain⟨Y0,Z0,a0⟩:=F;go_simp;try with_reducible rfl
  try simp only[Act.put]
  refine zV.one (i:=12) rfl (by kernel_rfl) λK X=>?_;obtain⟨y1,y2,y3⟩:=G6.facts;go_wp2_with fail;refine X.out _ _ ⟨λh=>by omega,?_⟩;clear X K;refine zV.done (by kernel_rfl) ?_ _;clear y1 y2 y3;go_upto_region 25 with fail;have u:=((zi N).trans (r0.mono (by omega))).setCell (p:=⟨V,1,none⟩) (Nat.le_of_lt J2) (.slice (some ⟨gn,0,none⟩) (O.length+1) t);have j:=F0.far (p:=⟨V,1,none⟩) (by simp only;omega) (.slice (some ⟨gn,0,none⟩) (O.length+1) t)
  have Q0:=zG G6 (by decide) 1 (.slice (some ⟨gn,0,none⟩) (O.length+1) t) _ _ E0;have Me:=M6
  cases o with
  |false=>
   have U:Hid (zY l=(qn,(k:Int)+1,3)):=zc (E.out.2 rfl);obtain⟨t1,t2,t3⟩:=j.facts;clear E;go_wp2_with fail;refine bodyPost_ret (v:=.tuple #[gV none 0 none 0 qn,.int .i64 ((k:Int)+1),.int .i64 3]) (by simp[results,Tryz.results39,go_sem,t1]) rfl ?_;rw[U.out];exact⟨none,0,none,0,rfl,uw _,((u.setCell (Nat.le_refl _) _).setCell (Nat.le_refl _) _).setCell (Nat.le_refl _) _⟩
  |true=>
   obtain⟨D2,A0⟩:=E.out.some (d0.out);have R0:=zc A0;clear E A0;go_wp2_with fail;go_roundw
   case rel=>exact⟨k+1,_,_,_,_,_,by go_num,by omega,Me,j,Q0,u,by exact R0⟩
   case measure=>simp[intOf];omega
 by_cases H1:v=xt
 case pos=>
  have I:=zc H1;clear H1;have q1:(v== [116,105,109,101])=false:=by rw[I.out];decide
  have q2:(v== [118,101,114,116,101,120])=false:=by rw[I.out];decide
  have q3:(v== [101,100,103,101])=true:=by rw[I.out];decide
  have q4:(v== [108,101,103])=false:=by rw[I.out];decide
  by_cases G:(nl.length:Int)=2
  case neg=>
   have d1:((nl.length:Int)== 2)=false:=by simpa using G
   have U:Hid (zY l=(qn,(k:Int)+1,3)):=zc (E.out.none (by rw[I.out];exact oY (aF _) G));clear E;go_wp2_with fail;refine bodyPost_ret (v:=.tuple #[gV none 0 none 0 qn,.int .i64 ((k:Int)+1),.int .i64 3]) (by simp[results,Tryz.results39,go_sem,c1]) rfl ?_;rw[U.out];exact⟨none,0,none,0,rfl,uw _,((N.setCell (Nat.le_refl _) _).setCell (Nat.le_refl _) _).setCell (Nat.le_refl _) _⟩
  obtain⟨a,T,rfl⟩:=ir G;clear G;have d0:Hid (yX (tA h O C) v [a,T]=some ⟨h,O,C.map Prod.fst++[⟨a,T,[]⟩]⟩):=zc (by rw[I.out];exact cK);obtain⟨g5,H0,rfl,x1,B5,h5⟩:=oA L.1 (by simp);have n0:=h5 0 a rfl;have n1:=h5 1 T rfl;have i0:=L.2 a (by simp);have i1:=L.2 T (by simp);obtain⟨r1,r2,r3⟩:=B5.facts;clear h5 L;obtain⟨j0,hj,t0,u0,v0⟩:=df;go_wp2_with fail
  obtain⟨S,Y⟩:∃S:World->Prop,Hid (S=λJ=>J.cell? ⟨V,2,none⟩=some (.slice A' C.length s)/\J.cell? ⟨g5,0,none⟩=some (.int .i64 a)/\J.cell? ⟨g5,1,none⟩=some (.int .i64 T)):=⟨_,zc rfl⟩;have q:Hid (∀J:World,zj J V 68 #[.int .i64 h,.slice A O.length cA,.slice A' C.length s]->zj J g5 3 H0->S J):=zc λJ h1 h2=>by rw[Y.out];exact⟨by rw[h1.cell];rfl,by rw[h2.cell];exact n0,by rw[h2.cell];exact n1⟩
  have Z:=G0.out;have l2:S wc.drew:=q.out _ Z.gr.drew B5.drew;clear r1 r2 r3 p1 p2 p3;refine zV.begin (S:=S) 12 (by kernel_rfl) ?_;refine tN 0 ?_ ?_<|tN 1 ?_ ?_<|tN 2 ?_ ?_<|tN 3 ?_ ?_<|tN 4 ?_ ?_<|tN 5 ?_ ?_<|tN 6 ?_ ?_<|tN 7 ?_ ?_<|tN 8 ?_ ?_ ?_
  iterate 9
   rotate_left;intro w F;rw[Y.out]at F;obtain⟨Y0,Z0,a0⟩:=F;(try simp only[pS]);go_simp;try with_reducible rfl
  try simp only[pS]
  refine zV.one (i:=9) rfl (by kernel_rfl) λK X=>?_;go_wp2_with fail;have M7:wj (wc.drew.alloc (Obj.cells #[.int .i64 a,.int .i64 T,.slice none 0 0] 97)) V k h (.slice A O.length cA) (.slice A' C.length s) O C:=Z.drew.keep λ_ _ _ h=>h.alloc _;have B7:zj (wc.drew.alloc (Obj.cells #[.int .i64 a,.int .i64 T,.slice none 0 0] 97)) g5 3 H0:=B5.drew.alloc _;have m0:=q.out _ M7.gr B7
  refine X.out _ _ ⟨λ_=>m0,?_⟩;clear X K
  try simp only[pS]
  refine zV.one (i:=10) rfl (by kernel_rfl) λK X=>?_;refine yR (enc:=jK) (.tmp 130) (.tmp 138) 66 rfl (V+1) 97 j0 _ 3 40 Tryz.underlying66 hj t0 u0 v0 rfl (by decide) _ C (⟨a,T,[]⟩,none,0) rfl Z.drew.edges #[.int .i64 a,.int .i64 T,.slice none 0 0] rfl wc.drew.heap.size rfl rfl rfl Za (by have:=Z.cnt;omega) (by decide) s0 ?_;intro gn t w6 z r0 Q A2;have B6:=Q _ _ _ B5.drew (Z.drew.edges.other B5.drew (by decide))
  have F0:=Q _ _ _ n.out.drew (Z.drew.edges.other n.out.drew (by decide));have E0:=Q _ _ _ m.out.drew (Z.drew.edges.other m.out.drew (by decide));obtain⟨G6,M6⟩:=Z.drew.edge z Q ⟨i0,i1⟩;have o0:=q.out _ G6 B6;refine X.out _ _ ⟨λ_=>o0,?_⟩;clear X K
  try simp only[Act.put,List.setIfInBounds_toArray]
  refine tN 11 ?_ ?_ ?_;rotate_left
  ·intro w F;rw[Y.out]at F;obtain⟨Y0,Z0,a0⟩:=F;go_simp;try with_reducible rfl
  try simp only[Act.put]
  refine zV.one (i:=12) rfl (by kernel_rfl) λK X=>?_;obtain⟨y1,y2,y3⟩:=G6.facts;go_wp2_with fail;refine X.out _ _ ⟨λh=>by omega,?_⟩;clear X K;refine zV.done (by kernel_rfl) ?_ _;clear y1 y2 y3;go_upto_region 25 with fail;have u:=((zi N).trans (r0.mono (by omega))).setCell (p:=⟨V,2,none⟩) (Nat.le_of_lt J2) (.slice (some ⟨gn,0,none⟩) (C.length+1) t);have j:=F0.far (p:=⟨V,2,none⟩) (by simp only;omega) (.slice (some ⟨gn,0,none⟩) (C.length+1) t)
  have Q0:=zG G6 (by decide) 2 (.slice (some ⟨gn,0,none⟩) (C.length+1) t) _ _ E0;have Me:=M6
  cases o with
  |false=>
   have U:Hid (zY l=(qn,(k:Int)+1,3)):=zc (E.out.2 rfl);obtain⟨t1,t2,t3⟩:=j.facts;clear E;go_wp2_with fail;refine bodyPost_ret (v:=.tuple #[gV none 0 none 0 qn,.int .i64 ((k:Int)+1),.int .i64 3]) (by simp[results,Tryz.results39,go_sem,t1]) rfl ?_;rw[U.out];exact⟨none,0,none,0,rfl,uw _,((u.setCell (Nat.le_refl _) _).setCell (Nat.le_refl _) _).setCell (Nat.le_refl _) _⟩
  |true=>
   obtain⟨D2,A0⟩:=E.out.some (d0.out);have R0:=zc A0;clear E A0;go_wp2_with fail;go_roundw
   case rel=>exact⟨k+1,_,_,_,_,_,by go_num,by omega,Me,j,Q0,u,by rw[Qf];exact R0⟩
   case measure=>simp[intOf];omega
 by_cases I1:v=qf
 case pos=>
  have I:=zc I1;clear I1;have q1:(v== [116,105,109,101])=false:=by rw[I.out];decide
  have q2:(v== [118,101,114,116,101,120])=false:=by rw[I.out];decide
  have q3:(v== [101,100,103,101])=false:=by rw[I.out];decide
  have q4:(v== [108,101,103])=true:=by rw[I.out];decide
  by_cases G:(nl.length:Int)=4
  case neg=>
   have d1:((nl.length:Int)== 4)=false:=by simpa using G
   have U:Hid (zY l=(qn,(k:Int)+1,3)):=zc (E.out.none (by rw[I.out];exact oY (XH _) G));clear E;go_wp2_with fail;refine bodyPost_ret (v:=.tuple #[gV none 0 none 0 qn,.int .i64 ((k:Int)+1),.int .i64 3]) (by simp[results,Tryz.results39,go_sem,c1]) rfl ?_;rw[U.out];exact⟨none,0,none,0,rfl,uw _,((N.setCell (Nat.le_refl _) _).setCell (Nat.le_refl _) _).setCell (Nat.le_refl _) _⟩
  obtain⟨a,T,a3,a4,rfl⟩:=aM G;clear G;rcases List.eq_nil_or_concat C with rfl|⟨H,it,rfl⟩
  case inl=>
   have U:Hid (zY l=(qn,(k:Int)+1,3)):=zc (E.out.none (by rw[I.out];exact cL rfl));clear E;go_wp2_with fail;refine bodyPost_ret (v:=.tuple #[gV none 0 none 0 qn,.int .i64 ((k:Int)+1),.int .i64 3]) (by simp[results,Tryz.results39,go_sem,c1]) rfl ?_;rw[U.out];exact⟨none,0,none,0,rfl,uw _,((N.setCell (Nat.le_refl _) _).setCell (Nat.le_refl _) _).setCell (Nat.le_refl _) _⟩
  case inr=>
   rw[List.concat_eq_append]at G0 E p1 uF;have d0:Hid (yX (tA h O (H++[it])) v [a,T,a3,a4]=some ⟨h,O,H.map Prod.fst++[⟨it.1.a,it.1.b,it.1.legs++[⟨a,T,a3,a4⟩]⟩]⟩):=zc (by
    rw[I.out];exact aX (l:=H.map Prod.fst) (x:=it.1) (by simp))
   rw[List.length_append]at G0 p1 uF;simp only[List.length_cons,List.length_nil,Nat.zero_add]at G0 p1 uF;have Z:=G0.out;obtain⟨ge,rfl,_,x4,C4,BE,K4⟩:=eG Z.edges;have g4:it.1.legs.length<=8192:=by have:=Z.cnt.2.2 it (by simp);omega
   have HL:Hid (Zp wc.drew (V+1) H it):=zc (Z.drew.legs H it rfl);have A5:IntKind.i64.wrap (H.length:Int)=H.length:=IntWalk.i64_in _ (by omega);have v4:decide ((H.length:Int)+1>0)=true:=by simp
   have v2:H.length<H.length+1:=by omega
   have w2:(H.length:Int)<(H.length:Int)+1:=by omega
   obtain⟨z1,z2,z3⟩:=BE.facts;obtain⟨g5,H0,rfl,x1,B5,h5⟩:=oA L.1 (by simp);have n0:=h5 0 a rfl;have n1:=h5 1 T rfl;have n2:=h5 2 a3 rfl;have n3:=h5 3 a4 rfl;have i0:=L.2 a (by simp);have i1:=L.2 T (by simp);have i2:=L.2 a3 (by simp);have i3:=L.2 a4 (by simp);obtain⟨r1,r2,r3⟩:=B5.facts;clear h5 L;obtain⟨j0,hj,t0,u0,v0⟩:=aw;go_wp2_with fail;clear z1 z2 z3;obtain⟨S,Y⟩:∃S:World->Prop,Hid (S=λJ=>J.cell? ⟨V,2,none⟩=some (.slice (some ⟨ge,0,none⟩) (H.length+1) s)/\J.cell? ⟨ge,H.length*3+2,none⟩=some (.slice it.2.1 it.1.legs.length it.2.2)/\J.cell? ⟨g5,0,none⟩=some (.int .i64 a)/\J.cell? ⟨g5,1,none⟩=some (.int .i64 T)/\J.cell? ⟨g5,2,none⟩=some (.int .i64 a3)/\J.cell? ⟨g5,3,none⟩=some (.int .i64 a4)):=⟨_,zc rfl⟩
   have q:Hid (∀J:World,zj J V 68 #[.int .i64 h,.slice A O.length cA,.slice (some ⟨ge,0,none⟩) (H.length+1) s]->zj J ge 97 C4->zj J g5 3 H0->S J):=zc λJ h1 h3 h2=>by rw[Y.out];exact⟨by rw[h1.cell];rfl,by rw[h3.cell];exact K4,by rw[h2.cell];exact n0,by rw[h2.cell];exact n1,by rw[h2.cell];exact n2,by rw[h2.cell];exact n3⟩
   have l2:S wc.drew:=q.out _ Z.gr.drew BE.drew B5.drew;clear r1 r2 r3 p1 p2 p3;refine zV.begin (S:=S) 22 (by kernel_rfl) ?_;refine tN 0 ?_ ?_<|tN 1 ?_ ?_<|tN 2 ?_ ?_<|tN 3 ?_ ?_<|tN 4 ?_ ?_<|tN 5 ?_ ?_<|tN 6 ?_ ?_<|tN 7 ?_ ?_<|tN 8 ?_ ?_<|tN 9 ?_ ?_<|tN 10 ?_ ?_<|tN 11 ?_ ?_<|tN 12 ?_ ?_<|tN 13 ?_ ?_<|tN 14 ?_ ?_<|tN 15 ?_ ?_<|tN 16 ?_ ?_<|tN 17 ?_ ?_ ?_
   iterate 18
    rotate_left;intro w F;rw[Y.out]at F;obtain⟨Y0,Z0,a0,L3,M3,N3⟩:=F;(try simp only[pS]);go_simp;try with_reducible rfl
   try simp only[pS]
   refine zV.one (i:=18) rfl (by kernel_rfl) λK X=>?_;go_wp2_with fail;have G7:zj (wc.drew.alloc (Obj.cells #[.int .i64 a,.int .i64 T,.int .i64 a3,.int .i64 a4] 100)) V 68 #[.int .i64 h,.slice A O.length cA,.slice (some ⟨ge,0,none⟩) (H.length+1) s]:=Z.gr.drew.alloc _;have m0:=q.out _ G7 (BE.drew.alloc _) (B5.drew.alloc _);refine X.out _ _ ⟨λ_=>m0,?_⟩;clear X K
   try simp only[pS]
   refine zV.one (i:=19) rfl (by kernel_rfl) λK X=>?_;refine yR (enc:=ea) (.tmp 164) (.tmp 178) 95 rfl (V+1) 100 j0 _ 4 32 Tryz.underlying95 hj t0 u0 v0 rfl (by decide) _ it.1.legs ⟨a,T,a3,a4⟩ rfl HL.out.own #[.int .i64 a,.int .i64 T,.int .i64 a3,.int .i64 a4] rfl wc.drew.heap.size rfl rfl rfl XF (by omega) (by decide) s0 ?_;intro gn t w6 z r0 Q A2;have B6:=Q _ _ _ B5.drew (HL.out.own.other B5.drew (by decide))
   have F0:=Q _ _ _ n.out.drew (HL.out.own.other n.out.drew (by decide));have E0:=Q _ _ _ m.out.drew (HL.out.own.other m.out.drew (by decide));obtain⟨G6,H4,M6⟩:=Z.drew.leg z Q (A2.imp id id) ⟨i0,i1,i2,i3⟩;have E6:=H4 _ BE.drew;have o0:=q.out _ G6 E6 B6;refine X.out _ _ ⟨λ_=>o0,?_⟩;clear X K
   try simp only[Act.put,List.setIfInBounds_toArray]
   refine tN 20 ?_ ?_ ?_;rotate_left
   ·intro w F;rw[Y.out]at F;obtain⟨Y0,Z0,a0,L3,M3,N3⟩:=F;go_simp;try with_reducible rfl
   try simp only[Act.put]
   refine tN 21 ?_ ?_ ?_;rotate_left
   ·intro w F;rw[Y.out]at F;obtain⟨Y0,Z0,a0,L3,M3,N3⟩:=F;go_simp;try with_reducible rfl
   try simp only[Act.put]
   refine zV.one (i:=22) rfl (by kernel_rfl) λK X=>?_;obtain⟨y1,y2,y3⟩:=E6.facts;go_wp2_with fail;refine X.out _ _ ⟨λh=>by omega,?_⟩;clear X K;refine zV.done (by kernel_rfl) ?_ _;clear y1 y2 y3;go_upto_region 25 with fail;have u:=((zi N).trans (r0.mono (by omega))).setCell (p:=⟨ge,H.length*3+2,none⟩) (by simp only;omega) (.slice (some ⟨gn,0,none⟩) (it.1.legs.length+1) t)
   have j:=F0.far (p:=⟨ge,H.length*3+2,none⟩) (by simp only;omega) (.slice (some ⟨gn,0,none⟩) (it.1.legs.length+1) t);have Q0:=zG E6 (by decide) (H.length*3+2) (.slice (some ⟨gn,0,none⟩) (it.1.legs.length+1) t) _ _ E0;have Me:=M6
   cases o with
   |false=>
    have U:Hid (zY l=(qn,(k:Int)+1,3)):=zc (E.out.2 rfl);obtain⟨t1,t2,t3⟩:=j.facts;clear E;go_wp2_with fail;refine bodyPost_ret (v:=.tuple #[gV none 0 none 0 qn,.int .i64 ((k:Int)+1),.int .i64 3]) (by simp[results,Tryz.results39,go_sem,t1]) rfl ?_;rw[U.out];exact⟨none,0,none,0,rfl,uw _,((u.setCell (Nat.le_refl _) _).setCell (Nat.le_refl _) _).setCell (Nat.le_refl _) _⟩
   |true=>
    obtain⟨D2,A0⟩:=E.out.some (d0.out);have R0:=zc A0;clear E A0;go_wp2_with fail;go_roundw
    case rel=>exact⟨k+1,_,_,_,_,_,by go_num,by omega,Me,j,Q0,u,by rw[Qf];exact R0⟩
    case measure=>simp[intOf];omega
 have D3:v≠yz/\v≠xV/\v≠xt/\v≠qf:=⟨F1,G1,H1,I1⟩;clear F1 G1 H1 I1;have I:=zc D3;clear D3;have q1:(v== [116,105,109,101])=false:=pP I.out.1;have q2:(v== [118,101,114,116,101,120])=false:=pP I.out.2.1;have q3:(v== [101,100,103,101])=false:=pP I.out.2.2.1;have q4:(v== [108,101,103])=false:=pP I.out.2.2.2;have U:Hid (zY l=(qn,(k:Int)+1,3)):=zc (E.out.none (ln I.out.1 I.out.2.1 I.out.2.2.1 I.out.2.2.2))
 clear E;go_wp2_with fail;refine bodyPost_ret (v:=.tuple #[gV none 0 none 0 qn,.int .i64 ((k:Int)+1),.int .i64 3]) (by simp[results,Tryz.results39,go_sem,c1]) rfl ?_;rw[U.out];exact⟨none,0,none,0,rfl,uw _,((N.setCell (Nat.le_refl _) _).setCell (Nat.le_refl _) _).setCell (Nat.le_refl _) _⟩
end Go.Proofs.YtjcimdpldlamfaaGreatDoor
