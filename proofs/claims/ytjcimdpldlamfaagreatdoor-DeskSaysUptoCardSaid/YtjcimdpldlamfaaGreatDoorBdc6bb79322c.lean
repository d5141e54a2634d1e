import Derived.Test.YtjcimdpldlamfaaGreatDoorBd86ad202eb6
import Derived.Test.YtjcimdpldlamfaaGreatDoorBdcb20961c57
namespace Go.Proofs.YtjcimdpldlamfaaGreatDoor
set_option maxRecDepth 100000
set_option maxHeartbeats 16000000
open Go.RowKit
theorem TY:(Tryz.prog.info? 55).map (λi=>(i.zero,i.size,i.bytes))=some (some (.slice none 0 0),1,24):=by kernel_rfl
theorem Vx:∃i,Tryz.prog.info? 55=some i/\i.zero=some (.slice none 0 0)/\i.size=1/\i.bytes=24:=by
 obtain⟨C,B,A⟩:=Option.map_eq_some_iff.1 TY;simp only[Prod.mk.injEq]at A;exact⟨C,B,A.1,A.2.1,A.2.2⟩
theorem Own.past{α:Type}{enc:α->List Value}{sz:Nat}{w w':World}{base:Nat}{e:TypeId}{u v:Value}{l:List α}(h:Own enc sz w base e v l)(hap:oD u v)(hk:∀b t cs,zj w b t cs->some b≠u.ownBlock->zj w' b t cs):Own enc sz w' base e v l:=h.keep1 λb cs hb hB=>hk b _ cs hB λe=>hap b e hb
def ZU:Nat×Nat->Int:=λ_=>zq
theorem VA{g:zf}{v s:Int}(h:zn g v s=true)(E:0<=v)(D:0<=s):upd ZU (v.toNat,s.toNat) 0=wH g v s:=by
 funext p
 unfold wH
 by_cases e:p=(v.toNat,s.toNat)
 ·subst e
  rw[yD,Aq ⟨h,by simp only;omega,by simp only;omega⟩]
 rw[yx _ _ e,Au λC=>e ?_]
 ·rfl
 obtain⟨a,b⟩:=p;simp only at C;have A:a=v.toNat:=by omega
 have B:b=s.toNat:=by omega
 rw[A,B]
theorem Sf{g:zf}{v s:Int}(h:zn g v s=false):ZU=wH g v s:=by
 funext p
 unfold wH;rw[Au λA=>by rw[h]at A;simp at A];rfl
def Po(g:zf)(v s:Int)(w:World)(e:Ending)(w':World):Prop:=∃(C H:Nat×Nat->Int) (ic ih:List pp) (bc bh cc ch:Nat),Hid (uH g ul v s C/\uH g qu v s H/\np g v s C H) /\
 e=.returned (.tuple #[.slice (some ⟨bc,0,none⟩) g.lives.length cc,.slice (some ⟨bh,0,none⟩) g.lives.length ch])/\qh w' bc g.h.toNat ic/\qh w' bh g.h.toNat ih/\Hid (ic.length=g.lives.length/\ih.length=g.lives.length) /\
 uI w' g.h.toNat ic C/\uI w' g.h.toNat ih H/\g.lives.length<=cc/\cc<=maxLen/\g.lives.length<=ch/\ch<=maxLen/\Below w.heap.size w w'
structure Ro(w0:World)(gcs:Array Value)(m k:Nat)(a b:Value)(ic ih:List pp)(w:World):Prop where
 oc:Own (SS m) 1 w (w0.heap.size+1) 55 a ic
 oh:Own (SS m) 1 w (w0.heap.size+1) 55 b ih
 ap:oD a b
 tc:uI w m ic ZU
 th:uI w m ih ZU
 gr:zj w w0.heap.size 68 gcs
 bel:Below w0.heap.size w0 w
 big:w0.heap.size+1<=w.heap.size
 nc:ic.length=k
 nh:ih.length=k
 dc:(ic.map Prod.fst).Nodup
 dh:(ih.map Prod.fst).Nodup
 apart:∀p q,p∈ic->q∈ih->p.1≠q.1
 lc:∀p,p∈ic->w0.heap.size<=p.1
 lh:∀p,p∈ih->w0.heap.size<=p.1
theorem Ro.ext{w0 w w':World}{gcs:Array Value}{m k:Nat}{a b:Value}{ic ih:List pp}(M:Ro w0 gcs m k a b ic ih w)(hb:Below w.heap.size w w'):Ro w0 gcs m k a b ic ih w':=
 ⟨M.oc.ext hb,M.oh.ext hb,M.ap,M.tc.keep λ_ _ h=>h.ext hb,M.th.keep λ_ _ h=>h.ext hb,M.gr.ext hb,za M.bel hb,Ai M.big hb.size,M.nc,M.nh,M.dc,M.dh,M.apart,M.lc,M.lh⟩
theorem dK{l:List pp}{b c:Nat}(h:(l.map Prod.fst).Nodup)(A:∀p,p∈l->p.1<b):((l++[(b,c)]).map Prod.fst).Nodup:=by
 rw[List.map_append,List.nodup_append];refine⟨h,by simp,λx C y D=>?_⟩;obtain⟨p,B,rfl⟩:=AD.1 C;have:=A p B;simp only[List.map_cons,List.map_nil,List.mem_singleton]at D;omega
theorem rN(A A':Option Addr)(c c':Nat)(g:zf)(v s:Int)(w:World)(hG:zv w A c A' c' g)(h0:zm g v s=0) :
  Calls Tryz.prog 89 #[gV A c A' c' g,.int .i64 v,.int .i64 s] w (Po g v s w):=by
 obtain⟨hV,⟨K1,V2⟩,T2,X3⟩:=uR h0;have M4:=hV.h1;have N4:=hV.h0;have v3:=hV.nl;have W3:=hV.ne;obtain⟨i0,hi,X2,N1,Z2⟩:=info_parts qQ;obtain⟨r0,hr,Q2,R2,S2⟩:=Vx;have hmf:∀(fn:Fn) (first cap:Array Value) (w:World),(Instr.makeFunc fn first cap).run Tryz.prog w=.ok (.func fn first cap) w:=λ_ _ _ _=>rfl;have hent:=Ve;unfold Enters at hent
 go_enter Tryz.func89,Tryz.ntmps89
 go_wp2_with fail;have M0:Ro w (gC A c A' c' g) g.h.toNat 0 (.slice none 0 0) (.slice none 0 0) [] [] (w.alloc (Obj.cells (gC A c A' c' g) 68)):=
  ⟨Own.nil,Own.nil,oD.nil,uI.nil,uI.nil,zj.new _ _ _,by go_grown,by simp,rfl,rfl,by simp,by simp,by simp,by simp,by simp⟩
 go_loopw [6,7,8] (λa b x wr=>∃(k:Nat) (X Y:List pp),k<=g.lives.length/\x=.int .i64 k/\Ro w (gC A c A' c' g) g.h.toNat k a b X Y wr) (λ_ _ x _=>g.lives.length-(intOf x).toNat)
 case atStart=>exact⟨0,[],[],AA _,rfl,M0⟩
 clear M0;obtain⟨k,X,Y,hk,rfl,M⟩:=hrel;obtain⟨q1,q2,q3⟩:=M.gr.facts
 by_cases J2:k<g.lives.length
 case pos=>
  obtain⟨wo,o0⟩:∃wo:World,wo=wr:=⟨_,rfl⟩;rw[<-o0];rw[<-o0]at M q1 q2 q3;clear o0;go_wp2_with fail
  go_loopw [9,10,11] (λa b x wq=>∃(j:Nat),(j:Int)<=g.h/\x=.int .i64 j/\Own vi 1 wq wo.heap.size 3 a (List.replicate j zq)/\Own vi 1 wq wo.heap.size 3 b (List.replicate j zq)/\oD a b/\Below wo.heap.size wo wq) (λ_ _ x _=>(g.h-intOf x).toNat)
  case atStart=>exact⟨0,by omega,rfl,Own.nil,Own.nil,oD.nil,Ae _ _⟩
  clear q1 q2 q3;obtain⟨j,hj,rfl,hA,hB,n0,hb⟩:=hrel;have M2:=M.ext hb;obtain⟨q1,q2,q3⟩:=M2.gr.facts;have hz:=hb.size
  by_cases Q4:(j:Int)<g.h
  case pos=>
   have HR:Hid (List.replicate (j+1) zq=List.replicate j zq++[zq]):=zc List.replicate_succ';have e0:True:=trivial;go_wp2_with (at_builtin;first
    |(have _t:=e0;refine zr (enc:=vi) rfl (.tmp 34) (.tmp 35) 55 rfl wo.heap.size 3 i0 _ 1 8 Tryz.underlying55 hi X2 N1 Z2 rfl (by decide) _ (List.replicate j zq) zq rfl hA _ rfl wr.heap.size rfl rfl rfl rl (by simp;omega) (by decide) hz ?_;intro ga ca w6 f1 v1 R3 I3;have t2:=hB.past n0 R3;have C0:=n0.put hB I3 (n:=(List.replicate j zq).length+1) (c:=ca);have p0:=Ai hz v1.size;clear e0)
    |(refine zr (enc:=vi) rfl (.tmp 37) (.tmp 38) 55 rfl wo.heap.size 3 i0 _ 1 8 Tryz.underlying55 hi X2 N1 Z2 rfl (by decide) _ (List.replicate j zq) zq rfl t2 _ rfl w6.heap.size rfl rfl rfl rl (by simp;omega) (by decide) p0 ?_;intro gb cb w7 j1 D3 S3 J3))
   have g1:=f1.past C0.symm S3;have V0:=(C0.symm.put f1 J3 (n:=(List.replicate j zq).length+1) (c:=cb)).symm;go_roundw
   case rel=>exact⟨j+1,by omega,by go_num,by rw[HR.out];rw[List.length_replicate]at g1;exact g1,by rw[HR.out];rw[List.length_replicate]at j1;exact j1,V0,(hb.trans v1).trans D3⟩
   case measure=>simp[intOf];omega
  have P3:j=g.h.toNat:=by omega
  subst P3;obtain⟨Aa,ca,B2⟩:=hA.form;obtain⟨Ab,cb,C2⟩:=hB.form;rw[List.length_replicate]at B2 C2;subst B2 C2;have J1:List.replicate g.h.toNat zq≠[]:=by simp;omega
  obtain⟨ba,rfl,J4,r1⟩:=hA.rowAt J1;obtain⟨bb,rfl,K4,s1⟩:=hB.rowAt J1;have B3:ba≠bb:=λe=>n0 ba (by simp[Value.ownBlock]) (by rw[e];simp[Value.ownBlock]);rw[<-Ui (v:=k)]at r1 s1;have D0:=zc M.nc;have E0:=zc M.nh;have F3:X.length+1<=1000000:=by rw[M.nc];omega
  have E3:Y.length+1<=1000000:=by rw[M.nh];omega
  have L2:=M2.oc;have N2:=M2.oh;have e0:True:=trivial;have a2:=M2.big;clear hA hB n0 J1;go_wp2_with (at_builtin;first
   |(have _t:=e0;refine zr (enc:=SS g.h.toNat) rfl (.tmp 40) (.tmp 42) 116 rfl (w.heap.size+1) 55 r0 _ 1 24 Tryz.underlying116 hr Q2 R2 S2 rfl (by decide) _ X (ba,ca) rfl L2 _ rfl wr.heap.size rfl rfl rfl Wm F3 (by decide) a2 ?_;intro gc dc w6 l1 w1 H2 K3;have n1:=N2.past M2.ap H2;have C0:=M2.ap.put N2 K3 (n:=X.length+1) (c:=dc);have p0:=Ai a2 w1.size;clear e0)
   |(refine zr (enc:=SS g.h.toNat) rfl (.tmp 44) (.tmp 46) 116 rfl (w.heap.size+1) 55 r0 _ 1 24 Tryz.underlying116 hr Q2 R2 S2 rfl (by decide) _ Y (bb,cb) rfl n1 _ rfl w6.heap.size rfl rfl rfl Wm E3 (by decide) p0 ?_;intro gh dh w7 A3 z1 I2 L3))
  have z2:=l1.past C0.symm I2;have V0:=(C0.symm.put l1 L3 (n:=Y.length+1) (c:=dh)).symm;have W0:∀(t:TypeId) b cs,t≠55->zj wr b t cs->zj w7 b t cs:=λt b cs ht h=>by
   have h6:=H2 _ _ _ h (L2.other h ht);exact I2 _ _ _ h6 (n1.other h6 ht)
  go_roundw
  case rel=>
   refine⟨k+1,X++[(ba,ca)],Y++[(bb,cb)],by omega,by go_num,?_⟩;have z0:∀p,p∈X->p.1<wo.heap.size:=λp O=>M.tc.lt O;have A1:∀p,p∈Y->p.1<wo.heap.size:=λp O=>M.th.lt O;have o0:=M.big;refine⟨z2,A3,V0,?_,?_,W0 _ _ _ (by decide) M2.gr,(M2.bel.trans (w1.mono (by omega))).trans (z1.mono (by omega)),Ai p0 z1.size,by simp[D0.out],by simp[E0.out],dK M.dc λp O=>by have:=z0 p O;omega,dK M.dh λp O=>by have:=A1 p O;omega,?_,?_,?_⟩
   ·exact(M2.tc.keep λb cs h=>W0 _ _ _ (by decide) h).snoc (r1.keep λcs h=>W0 _ _ _ (by decide) h) |> λh=>by simpa[D0.out]using h
   ·exact(M2.th.keep λb cs h=>W0 _ _ _ (by decide) h).snoc (s1.keep λcs h=>W0 _ _ _ (by decide) h) |> λh=>by simpa[E0.out]using h
   ·intro p q O V
    rcases AK.1 O with O|O
    ·rcases AK.1 V with V|V
     ·exact M.apart p q O V
     obtain rfl:q=(bb,cb):=by simpa using V
     have:=z0 p O;simp only;omega
    obtain rfl:p=(ba,ca):=by simpa using O
    rcases AK.1 V with V|V
    ·have:=A1 q V
     simp only;omega
    obtain rfl:q=(bb,cb):=by simpa using V
    exact B3
   ·intro p O
    rcases AK.1 O with O|O
    ·exact M.lc p O
    obtain rfl:p=(ba,ca):=by simpa using O
    simp only;omega
   intro p O;rcases AK.1 O with O|O
   ·exact M.lh p O
   obtain rfl:p=(bb,cb):=by simpa using O
   simp only;omega
  case measure=>simp[intOf];omega
 obtain rfl:k=g.lives.length:=by omega
 have G0:=M.nc;have H0:=M.nh;have x3:0<g.lives.length:=by omega
 have v0:X≠[]:=λe=>by rw[e]at G0;simp at G0;omega
 have w0:Y≠[]:=λe=>by rw[e]at H0;simp at H0;omega
 obtain⟨Ac,cc,D2⟩:=M.oc.form;obtain⟨Ah,ch,E2⟩:=M.oh.form;rw[G0]at D2;rw[H0]at E2;subst D2 E2;have A0:=M.oc.room;have B0:=M.oh.room;rw[G0]at A0;rw[H0]at B0;obtain⟨bc,rfl,_,f⟩:=M.oc.outAt v0;obtain⟨bh,rfl,_,m⟩:=M.oh.outAt w0;have FX:∀k,w.heap.size<=k->Yv w g.lives.length k X Y:=λk hk=>⟨G0,H0,M.dc,M.dh,M.apart,M.lc,M.lh,hk⟩;have D1:=zc FX;have D0:=zc G0;have E0:=zc H0
 have Z:=zc M.tc;have d:=zc M.th;have R0:=zc M.gr;have Q:=M.bel;have Z1:=zc A0;have c1:=zc B0;clear v0 w0 FX M J2 hk G0 H0 A0 B0;go_wp2_with fail;refine(ye _ _ _ _ g v s _ (hG.ext Q) K1 V2).mono ?_;rintro e w2 ⟨rfl,F0⟩;have f:=f.keep λ_ h=>h.ext F0;have m:=m.keep λ_ h=>h.ext F0;have Z:=zc (Z.out.keep λ_ _ h=>h.ext F0);have d:=zc (d.out.keep λ_ _ h=>h.ext F0)
 have R0:=zc (R0.out.ext F0);have Q:=za Q F0;clear q1 q2 q3 F0
 go_upto_if 51 with fail
 go_cut [] from 51 to 64 (λwx=>qh wx bc g.h.toNat X/\qh wx bh g.h.toNat Y/\uI wx g.h.toNat X (wH g v s)/\uI wx g.h.toNat Y (wH g v s)/\zj wx w.heap.size 68 (gC A c A' c' g)/\Below w.heap.size w wx)
 case first=>
  cases U0:zn g v s
  case false=>
   have HE:=zc (Sf U0);go_wp2_with fail;go_meet;exact⟨f,m,by rw[<-HE.out];exact Z.out,by rw[<-HE.out];exact d.out,R0.out,Q⟩
  case true=>
   have HE:=zc (VA U0 K1 T2);obtain⟨p,O⟩:=zl (l:=X) (k:=v.toNat) (by have:=D0.out;omega);obtain⟨q,V⟩:=zl (l:=Y) (k:=v.toNat) (by have:=E0.out;omega);have k1:=f.cell O;have k2:=m.cell V;have k3:=Z.out.frozen O s.toNat;have k4:=d.out.frozen V s.toNat;have k5:=Z.out.cell O (t:=s.toNat) (by omega);have k6:=d.out.cell V (t:=s.toNat) (by omega);have V4:s<(g.h.toNat:Int):=by omega
   have HP:=zc O;have HQ:=zc V;have T4:=(D1.out _ (Ay _)).apart p q (Ad O) (Ad V);have S4:=Z.out.lt (Ad O);have U4:=d.out.lt (Ad V);clear O V;go_wp2_with fail
   go_region
   go_wp2_with fail;go_meet;have F:=D1.out _ (Ay _);have O2:=Ad HP.out;have P2:=Ad HQ.out;obtain⟨cp,u2,_⟩:=Z.out _ _ HP.out;obtain⟨cq,v2,_⟩:=d.out _ _ HQ.out;have kf:∀(t:TypeId) b cs,3≠t->zj w2 b t cs->zj (((w2.setCell ⟨p.1,s.toNat,none⟩ (.int .i64 0)).setCell ⟨q.1,s.toNat,none⟩ (.int .i64 0)).drew) b t cs:=λt b cs ht h=>
    ((h.far (wv u2 h ht).symm _).far (wv v2 h ht).symm _).drew
   refine⟨f.keep λ_ h=>kf _ _ _ (by decide) h,m.keep λ_ h=>kf _ _ _ (by decide) h,?_,?_,kf _ _ _ (by decide) R0.out,?_⟩
   ·rw[<-HE.out]
    exact((Z.out.set HP.out (by omega) F.dc 0).far (λr hr=>F.apart r q hr P2) _).keep λ_ _ h=>h.drew
   ·rw[<-HE.out]
    exact((d.out.far (λr hr=>(F.apart p r O2 hr).symm) _).set HQ.out (by omega) F.dh 0).keep λ_ _ h=>h.drew
   exact zi ((Q.setCell (F.lc p O2) _).setCell (F.lh q P2) _)
 clear f m Z d R0 Q;obtain⟨f,m,t1,u1,G1,Q⟩:=hcut;have M3:=G1.lt;have j2:=zc (np.init (g:=g) (v:=v) (s:=s) ⟨K1,V2⟩ ⟨T2,X3⟩);go_wp2_with fail;obtain⟨wm,L1⟩:∃wm,wm=wc.alloc (Obj.cells #[.bool true] 4):=⟨_,rfl⟩;have M:sy w (gC A c A' c' g) g.h.toNat bc bh wc.heap.size X Y true (wH g v s) (wH g v s) wm:=by
  rw[L1];exact⟨f.keep λ_ h=>h.alloc _,m.keep λ_ h=>h.alloc _,t1.keep λ_ _ h=>h.alloc _,u1.keep λ_ _ h=>h.alloc _,zj.new _ _ _,G1.alloc _,ze Q _⟩
 have u0:w.heap.size<=wc.heap.size:=Q.size;obtain⟨N0,p1⟩:∃N0,N0=qv g.lives.length g.h.toNat (wH g v s)+qv g.lives.length g.h.toNat (wH g v s)+1:=⟨_,rfl⟩;have m2:=zc p1;rw[<-L1];clear L1 p1 f m t1 u1 G1 Q M3
 go_loopg [12] N0 (λgk y wr=>∃(bm:Nat) (D:Bool) (C H:Nat×Nat->Int),y=.pointer (some ⟨bm,0,none⟩)/\Hid (np g v s C H)/\Hid (D=false->uH g ul v s C/\uH g qu v s H) /\
  Hid (qv g.lives.length g.h.toNat C+qv g.lives.length g.h.toNat H+(if D=true then 1 else 0)<=gk)/\w.heap.size<=bm/\sy w (gC A c A' c' g) g.h.toNat bc bh bm X Y D C H wr)
 case atStart=>exact⟨_,true,_,_,rfl,j2,zc (λh=>by simp at h),zc (by rw[m2.out];simp),u0,M⟩
 clear M u0;obtain⟨bm,D,C,H,rfl,HI,HF,HM,A2,M⟩:=hrel;obtain⟨e1,e2,e3⟩:=M.mo.facts
 cases D
 case false=>
  go_wp2_with fail;go_ret2;exact⟨C,H,X,Y,bc,bh,cc,ch,zc ⟨(HF.out (by simp)).1,(HF.out (by simp)).2,HI.out⟩,rfl,M.oc,M.oh,zc ⟨D0.out,E0.out⟩,M.tc,M.th,Z1.out.1,Z1.out.2,c1.out.1,c1.out.2,M.bel⟩
 case true=>
  have j0:=zc (D1.out bm A2);have Y1:Hid (qv g.lives.length g.h.toNat C+qv g.lives.length g.h.toNat H+1<=gk):=zc (by have:=HM.out;simpa using this);clear HF HM;go_wp2_with fail;have M:=M.setMore A2 false;clear e1 e2 e3;obtain⟨wf,W2⟩:∃wf,wf=wr.setCell ⟨bm,0,none⟩ (.bool false):=⟨_,rfl⟩;rw[<-W2]at M⊢;clear W2
  go_loopw [14] (λx wt=>∃(t:Nat) (D:Bool) (R T:Nat×Nat->Int),(t:Int)<=g.h/\x=.int .i64 t/\Hid (uY g v s C H D t 0 0 R T)/\sy w (gC A c A' c' g) g.h.toNat bc bh bm X Y D R T wt) (λx _=>(g.h-intOf x).toNat)
  case atStart=>exact⟨0,false,C,H,by omega,rfl,zc (uY.start HI.out),M⟩
  clear M;obtain⟨t,D,R,T,ht,rfl,W,M⟩:=hrel;obtain⟨q1,q2,q3⟩:=M.gr.facts
  by_cases J2:(t:Int)<g.h
  case neg=>
   obtain⟨e1,e2,e3⟩:=M.mo.facts;have HE:Hid (np g v s R T):=zc W.out.inv;have i2:Hid (D=false->uH g ul v s R/\uH g qu v s T):=zc λhm=>by
    have h:=W.out;rw[hm]at h;exact h.fin hV (by omega)
   have l2:Hid (qv g.lives.length g.h.toNat R+qv g.lives.length g.h.toNat T+(if D=true then 1 else 0)<=gk-1):=zc (by
    have h1:=Y1.out;have h2:=W.out.tot;have h3:=W.out.less
    cases D
    ·simp only[Bool.false_eq_true,if_false];omega
    have:=h3 rfl;simp only[if_true];omega)
   have N1:=M.bel.size;go_wp2_with fail
   go_roundg (gk-1)
   case rel=>exact⟨_,D,R,T,rfl,HE,i2,l2,by omega,M.newMore D rfl⟩
   case measure=>have:=Y1.out;omega
  go_wp2_with fail
  go_loopw [15] (λx wt=>∃(u:Nat) (D:Bool) (R T:Nat×Nat->Int),u<=g.lives.length/\x=.int .i64 u/\Hid (uY g v s C H D t u 0 R T)/\sy w (gC A c A' c' g) g.h.toNat bc bh bm X Y D R T wt) (λx _=>g.lives.length-(intOf x).toNat)
  case atStart=>exact⟨0,D,R,T,by omega,rfl,W,M⟩
  clear M W q1 q2 q3 D R T;obtain⟨u,D,R,T,hu,rfl,W,M⟩:=hrel;obtain⟨q1,q2,q3⟩:=M.gr.facts
  by_cases K2:u<g.lives.length
  case pos=>
   obtain⟨p,O⟩:=zl (l:=X) (k:=u) (by have:=D0.out;omega);obtain⟨q,V⟩:=zl (l:=Y) (k:=u) (by have:=E0.out;omega);have HP:=zc O;have HQ:=zc V;have I0:t<g.h.toNat:=by omega
   have k1:=M.oc.cell O;have k2:=M.tc.cell O I0;clear O V;obtain⟨z,hz⟩:∃z,R (u,t)=z:=⟨_,rfl⟩;have HZ:=zc hz;rw[hz]at k2;clear hz
   by_cases U:z<zq
   case neg=>
    have hd:decide (z<1099511627776)=false:=by simp only[zq]at U;simp;omega
    have P:=zc (W.out.skipW λh=>U (by rw[<-HZ.out];exact h.1));clear U;go_wp2_with fail;go_roundw
    case rel=>exact⟨u+1,D,R,T,by omega,by go_num,P,M⟩
    case measure=>simp[intOf];omega
   have hd:decide (z<1099511627776)=true:=by simp only[zq]at U;simp;omega
   have o2:Hid (R (u,t)<zq):=zc (by rw[HZ.out];exact U);clear U
   by_cases h1:(t:Int)+1<g.h
   case neg=>
    have H3:decide ((t:Int)+1<g.h)=false:=by simpa using h1
    have P:=zc (W.out.skipW λh=>h1 h.2.1);clear h1;go_wp2_with fail;go_roundw
    case rel=>exact⟨u+1,D,R,T,by omega,by go_num,P,M⟩
    case measure=>simp[intOf];omega
   have H3:decide ((t:Int)+1<g.h)=true:=by simpa using h1
   have H1:=zc h1;clear h1;go_wp2_with fail;refine(ye _ _ _ _ g (u:Int) ((t:Int)+1) _ (hG.ext M.bel) (by omega) (by omega)).mono ?_;rintro e w3 ⟨rfl,o⟩;have M:=M.ext o;clear o q1 q2 q3 k1 k2
   cases U0:zn g u ((t:Int)+1)
   case false=>
    have P:=zc (W.out.skipW λh=>by rw[U0]at h;simp at h);go_wp2_with fail;go_roundw
    case rel=>exact⟨u+1,D,R,T,by omega,by go_num,P,M⟩
    case measure=>simp[intOf];omega
   case true=>
    have P:=zc (W.out.wait hV o2.out H1.out U0 rfl);rw[HZ.out]at P;have k1:=M.oc.cell HP.out;have k2:=M.tc.cell HP.out I0;rw[HZ.out]at k2;go_wp2_with fail;refine(XY cc u (t+1) _ _ rfl (by omega) M j0.out K2 (by have:=H1.out;omega) z).mono ?_;rintro e w4 ⟨rfl,M,_⟩;clear k1 k2;have k1:=M.oh.cell HQ.out;have k2:=M.th.cell HQ.out I0;obtain⟨y,hy⟩:∃y,T (u,t)=y:=⟨_,rfl⟩;rw[hy]at k2 P
    clear hy;go_wp2_with fail;refine(XZ ch u (t+1) _ _ rfl (by omega) M j0.out K2 (by have:=H1.out;omega) y).mono ?_;rintro e w5 ⟨rfl,M,_⟩;clear k1 k2;go_wp2_with fail;go_roundw
    case rel=>exact⟨u+1,_,_,_,by omega,by go_num,P,M⟩
    case measure=>simp[intOf];omega
  replace W:Hid (uY g v s C H D t g.lives.length 0 R T):=zc (by have h:=W.out;rw[show u=g.lives.length by omega]at h;exact h);go_wp2_with fail
  go_loopw [16] (λx wt=>∃(i:Nat) (D:Bool) (R T:Nat×Nat->Int),i<=g.edges.length/\x=.int .i64 i/\Hid (uY g v s C H D t g.lives.length i R T)/\sy w (gC A c A' c' g) g.h.toNat bc bh bm X Y D R T wt) (λx _=>g.edges.length-(intOf x).toNat)
  case atStart=>exact⟨0,D,R,T,by omega,rfl,W,M⟩
  clear M W q1 q2 q3 D R T;obtain⟨i,D,R,T,hi,rfl,W,M⟩:=hrel;obtain⟨q1,q2,q3⟩:=M.gr.facts
  by_cases V3:i<g.edges.length
  case neg=>
   have P:Hid (uY g v s C H D (t+1) 0 0 R T):=zc (by have h:=W.out;rw[show i=g.edges.length by omega]at h;exact h.nextT);go_wp2_with fail;go_roundw
   case rel=>exact⟨t+1,D,R,T,by omega,by go_num,P,M⟩
   case measure=>simp[intOf];omega
  obtain⟨be,oe,hE⟩:=hG.edges;obtain⟨y,hy⟩:=zl V3;obtain⟨rfl,L4,⟨⟨x0,x1,L,cl,x2,O4,P4,hL⟩,_⟩⟩:=hE i y hy;have y0:=x0.now M.bel;have y1:=x1.now M.bel;have y2:=x2.now M.bel;have X0:=hV.edges y (Ad hy);have HY:=zc hy;have a0:=X0.a0;have a1:=X0.a1;have b0:=X0.b0;have b1:=X0.b1;have U2:zM (t:Int):=by unfold zM;omega
  clear hE hy x0 x1 x2;have BE:=zj.new wr 97 #[.int .i64 y.a,.int .i64 y.b,.slice L y.legs.length cl];have MA:=M.alloc (Obj.cells #[.int .i64 y.a,.int .i64 y.b,.slice L y.legs.length cl] 97)
  cases ha:zF g y t with
  |none=>
   have HA:=zc ha;have P:=zc (W.out.skipL hV HY.out (.inl HA.out));clear ha;go_wp2_with fail;refine(ig _ _ _ _ g y (i:Int) t _ (hG.ext MA.bel) hV (by omega) (by rw[Int.toNat_natCast];exact HY.out) U2 HA.out).mono ?_;rintro e w3 ⟨rfl,o⟩;have M:=MA.ext o;clear o;go_wp2_with fail;go_roundw
   case rel=>exact⟨i+1,D,R,T,by omega,by go_num,P,M⟩
   case measure=>simp[intOf];omega
  |some pr=>
   obtain⟨l,te⟩:=pr;have HA:=zc ha;have T3:=zT hV X0 ha;have U3:=ro hV y (Ad HY.out) l (yh ha).1;simp only[ul]at U3;clear ha;go_wp2_with fail;refine(kC _ _ _ _ g y (i:Int) t l te _ (hG.ext MA.bel) hV (by omega) (by rw[Int.toNat_natCast];exact HY.out) U2 HA.out).mono ?_;rintro e w3 ⟨rfl,o⟩;have M:=MA.ext o;have BE:=BE.ext o;clear o q1 q2 q3 y0 y1 y2 MA
   obtain⟨p,O⟩:=zl (l:=X) (k:=y.a.toNat) (by have:=D0.out;omega);obtain⟨q,V⟩:=zl (l:=Y) (k:=y.a.toNat) (by have:=E0.out;omega);have HP:=zc O;have HQ:=zc V;have I0:t<g.h.toNat:=by omega
   have k1:=M.oc.cell O;have k2:=M.tc.cell O I0;clear O V;obtain⟨z,hz⟩:∃z,R (y.a.toNat,t)=z:=⟨_,rfl⟩;have HZ:=zc hz;rw[hz]at k2;obtain⟨y0,y1,y2⟩:=BE.facts
   by_cases U:z<zq
   case neg=>
    have hd:decide (z<1099511627776)=false:=by simp only[zq]at U;simp;omega
    have P:=zc (W.out.skipL hV HY.out (.inr (by rw[hz];exact U)));clear U hz;go_wp2_with fail;go_roundw
    case rel=>exact⟨i+1,D,R,T,by omega,by go_num,P,M⟩
    case measure=>simp[intOf];omega
   have hd:decide (z<1099511627776)=true:=by simp only[zq]at U;simp;omega
   have P:=zc (W.out.leg hV HY.out HA.out (by rw[hz];exact U) rfl);rw[HZ.out]at P;have Y2:=(W.out.inv.low (y.a.toNat,t)).1;have Y0:=W.out.inv.told _ (show R (y.a.toNat,t)<zq by rw[hz];exact U);rw[hz]at Y2 Y0;simp only at Y0;obtain⟨_,_,_,y3,N3,F2⟩:=Y0;have X4:IntKind.i64.wrap (z+l.cost)=z+l.cost:=AQ _ (by omega);have W4:(t:Int)<max g.h 0:=by omega
   clear U hz;go_wp2_with fail;clear y0 y1 y2 k1 k2;obtain⟨S,E⟩:∃S:World->Prop,Hid (S=λw'=>w'.cell? ⟨wr.heap.size,0,none⟩=some (.int .i64 y.a)/\w'.cell? ⟨wr.heap.size,1,none⟩=some (.int .i64 y.b)/\w'.cell? ⟨bc,y.a.toNat,none⟩=some (.slice (some ⟨p.1,0,none⟩) g.h.toNat p.2)/\w'.cell? ⟨p.1,t,none⟩=some (.int .i64 z)):=⟨_,zc rfl⟩;have M0:=M.drew;have BE:=BE.drew;have I1:S w3.drew:=by
    rw[E.out];refine⟨by rw[BE.cell];rfl,by rw[BE.cell];rfl,M0.oc.cell HP.out,?_⟩;have:=M0.tc.cell HP.out I0;rw[HZ.out]at this;exact this
   clear M;refine zV.begin (S:=S) 15 (by kernel_rfl) ?_;refine tN 0 ?_ ?_ ?_;rotate_left
   ·intro w B;rw[E.out]at B;obtain⟨G,I,J,N⟩:=B;go_simp;try with_reducible rfl
   simp only[pS];refine tN 1 ?_ ?_ ?_;rotate_left
   ·intro w B;rw[E.out]at B;obtain⟨G,I,J,N⟩:=B;go_simp;try with_reducible rfl
   simp only[pS];refine tN 2 ?_ ?_ ?_;rotate_left
   ·intro w B;rw[E.out]at B;obtain⟨G,I,J,N⟩:=B;go_simp;try with_reducible rfl
   simp only[pS];refine tN 3 ?_ ?_ ?_;rotate_left
   ·intro w B;rw[E.out]at B;obtain⟨G,I,J,N⟩:=B;go_simp;try with_reducible rfl
   simp only[pS];refine tN 4 ?_ ?_ ?_;rotate_left
   ·intro w B;rw[E.out]at B;obtain⟨G,I,J,N⟩:=B;go_simp;try with_reducible rfl
   simp only[pS];refine tN 5 ?_ ?_ ?_;rotate_left
   ·intro w B;rw[E.out]at B;obtain⟨G,I,J,N⟩:=B;go_simp;try with_reducible rfl
   simp only[pS];refine tN 6 ?_ ?_ ?_;rotate_left
   ·intro w B;rw[E.out]at B;obtain⟨G,I,J,N⟩:=B;go_simp;try with_reducible rfl
   simp only[pS];refine tN 7 ?_ ?_ ?_;rotate_left
   ·intro w B;rw[E.out]at B;obtain⟨G,I,J,N⟩:=B;go_simp;try with_reducible rfl
   simp only[pS];refine tN 8 ?_ ?_ ?_;rotate_left
   ·intro w B;rw[E.out]at B;obtain⟨G,I,J,N⟩:=B;go_simp;try with_reducible rfl
   simp only[pS];refine tN 9 ?_ ?_ ?_;rotate_left
   ·intro w B;rw[E.out]at B;obtain⟨G,I,J,N⟩:=B;go_simp;try with_reducible rfl
   simp only[pS];refine tN 10 ?_ ?_ ?_;rotate_left
   ·intro w B;rw[E.out]at B;obtain⟨G,I,J,N⟩:=B;go_simp;try with_reducible rfl
   simp only[pS];refine tN 11 ?_ ?_ ?_;rotate_left
   ·intro w B;rw[E.out]at B;obtain⟨G,I,J,N⟩:=B;go_simp;try with_reducible rfl
   simp only[pS];refine tN 12 ?_ ?_ ?_;rotate_left
   ·intro w B;rw[E.out]at B;obtain⟨G,I,J,N⟩:=B;go_simp;try with_reducible rfl
   simp only[pS];refine tN 13 ?_ ?_ ?_;rotate_left
   ·intro w B;rw[E.out]at B;obtain⟨G,I,J,N⟩:=B;go_simp;try with_reducible rfl
   simp only[pS];refine tN 14 ?_ ?_ ?_;rotate_left
   ·intro w B;rw[E.out]at B;obtain⟨G,I,J,N⟩:=B;go_simp;try with_reducible rfl
   simp only[pS];refine zV.one (i:=15) rfl (by kernel_rfl) λK hK=>?_;go_wp2_with (first|(refine(XY cc y.b.toNat te.toNat _ _ (by omega) (by omega) M0 j0.out (by omega) (by omega) (z+l.cost)).mono ?_;rintro e w4 ⟨rfl,M,G2⟩));have BE:=G2 _ _ _ (by decide) (by decide) BE;clear G2;refine hK.out _ _ ⟨λh=>by omega,?_⟩;refine zV.done (by kernel_rfl) ?_ _;clear hK K E I1 S M0;go_wp2_with fail
   obtain⟨zh,O1⟩:∃zh,T (y.a.toNat,t)=zh:=⟨_,rfl⟩;have n2:=zc O1;rw[O1]at P N3 F2;have Y4:IntKind.i64.wrap (zh+1)=zh+1:=AQ _ (by omega);clear O1;obtain⟨S,E⟩:∃S:World->Prop,Hid (S=λw'=>w'.cell? ⟨wr.heap.size,0,none⟩=some (.int .i64 y.a)/\w'.cell? ⟨wr.heap.size,1,none⟩=some (.int .i64 y.b)/\w'.cell? ⟨bh,y.a.toNat,none⟩=some (.slice (some ⟨q.1,0,none⟩) g.h.toNat q.2)/\w'.cell? ⟨q.1,t,none⟩=some (.int .i64 zh)):=⟨_,zc rfl⟩
   have M0:=M.drew;have BE:=BE.drew;have I1:S w4.drew:=by
    rw[E.out];refine⟨by rw[BE.cell];rfl,by rw[BE.cell];rfl,M0.oh.cell HQ.out,?_⟩;have:=M0.th.cell HQ.out I0;rw[n2.out]at this;exact this
   clear M;refine zV.begin (S:=S) 14 (by kernel_rfl) ?_;refine tN 0 ?_ ?_ ?_;rotate_left
   ·intro w B;rw[E.out]at B;obtain⟨G,I,J,N⟩:=B;go_simp;try with_reducible rfl
   simp only[pS];refine tN 1 ?_ ?_ ?_;rotate_left
   ·intro w B;rw[E.out]at B;obtain⟨G,I,J,N⟩:=B;go_simp;try with_reducible rfl
   simp only[pS];refine tN 2 ?_ ?_ ?_;rotate_left
   ·intro w B;rw[E.out]at B;obtain⟨G,I,J,N⟩:=B;go_simp;try with_reducible rfl
   simp only[pS];refine tN 3 ?_ ?_ ?_;rotate_left
   ·intro w B;rw[E.out]at B;obtain⟨G,I,J,N⟩:=B;go_simp;try with_reducible rfl
   simp only[pS];refine tN 4 ?_ ?_ ?_;rotate_left
   ·intro w B;rw[E.out]at B;obtain⟨G,I,J,N⟩:=B;go_simp;try with_reducible rfl
   simp only[pS];refine tN 5 ?_ ?_ ?_;rotate_left
   ·intro w B;rw[E.out]at B;obtain⟨G,I,J,N⟩:=B;go_simp;try with_reducible rfl
   simp only[pS];refine tN 6 ?_ ?_ ?_;rotate_left
   ·intro w B;rw[E.out]at B;obtain⟨G,I,J,N⟩:=B;go_simp;try with_reducible rfl
   simp only[pS];refine tN 7 ?_ ?_ ?_;rotate_left
   ·intro w B;rw[E.out]at B;obtain⟨G,I,J,N⟩:=B;go_simp;try with_reducible rfl
   simp only[pS];refine tN 8 ?_ ?_ ?_;rotate_left
   ·intro w B;rw[E.out]at B;obtain⟨G,I,J,N⟩:=B;go_simp;try with_reducible rfl
   simp only[pS];refine tN 9 ?_ ?_ ?_;rotate_left
   ·intro w B;rw[E.out]at B;obtain⟨G,I,J,N⟩:=B;go_simp;try with_reducible rfl
   simp only[pS];refine tN 10 ?_ ?_ ?_;rotate_left
   ·intro w B;rw[E.out]at B;obtain⟨G,I,J,N⟩:=B;go_simp;try with_reducible rfl
   simp only[pS];refine tN 11 ?_ ?_ ?_;rotate_left
   ·intro w B;rw[E.out]at B;obtain⟨G,I,J,N⟩:=B;go_simp;try with_reducible rfl
   simp only[pS];refine tN 12 ?_ ?_ ?_;rotate_left
   ·intro w B;rw[E.out]at B;obtain⟨G,I,J,N⟩:=B;go_simp;try with_reducible rfl
   simp only[pS];refine tN 13 ?_ ?_ ?_;rotate_left
   ·intro w B;rw[E.out]at B;obtain⟨G,I,J,N⟩:=B;go_simp;try with_reducible rfl
   simp only[pS];refine zV.one (i:=14) rfl (by kernel_rfl) λK hK=>?_;go_wp2_with (first|(refine(XZ ch y.b.toNat te.toNat _ _ (by omega) (by omega) M0 j0.out (by omega) (by omega) (zh+1)).mono ?_;rintro e w5 ⟨rfl,M,_⟩));refine hK.out _ _ ⟨λh=>by omega,?_⟩;refine zV.done (by kernel_rfl) ?_ _;clear hK K E I1 S M0;go_wp2_with fail;go_roundw
   case rel=>exact⟨i+1,_,_,_,by omega,by go_num,P,M⟩
   case measure=>simp[intOf];omega
set_option maxHeartbeats 8000000
def Rt(Q:List Int->Prop)(w:World)(e:Ending)(w':World):Prop:=∃l A c,Hid (Q l)/\e=.returned (.slice A l.length c)/\zU ra 1 w' A l/\l.length<=maxLen/\Below w.heap.size w w'
theorem SW{g:zf}{d:Nat×Nat->Int}{k:Nat}(h:k<g.lives.length):(qo g d)[k]?=some (mz (λs=>d (k,s)) 0 g.h.toNat):=by simp[qo,h]
theorem SY(g:zf)(d:Nat×Nat->Int):(qo g d).length=g.lives.length:=by simp[qo]
theorem SX{g:zf}{d:Nat×Nat->Int}(hh:g.h<=100):∀x,x∈qo g d->zM x:=λx hx=>by
 simp only[qo,AD,List.mem_range]at hx;obtain⟨u,_,rfl⟩:=hx;rcases(rs (f:=λs=>d (u,s)) g.h.toNat 0).1 with h|⟨s,h,_,h2,_⟩
 ·rw[h];unfold zM zq;omega
 rw[h];unfold zM;omega
theorem qd(A U:Option Addr)(c X:Nat)(g:zf)(v s:Int)(w:World)(hG:zv w A c U X g)(h0:zm g v s=0) :
  Calls Tryz.prog 90 #[gV A c U X g,.int .i64 v,.int .i64 s] w (Rt (yv g v s) w):=by
 obtain⟨O,⟨u,y⟩,q,r⟩:=uR h0;have f:=O.h1;have g0:=O.h0;have M0:=O.nl;have m1:g.lives.length<=9223372036854775807:=by omega
 have H0:=zc h0;clear h0;obtain⟨i0,hi,C0,D0,E0⟩:=info_parts qQ
 go_enter Tryz.func90,Tryz.ntmps90
 go_wp2_with fail;refine(rN _ _ _ _ g v s _ (hG.ext (by go_grown)) H0.out).mono ?_;rintro e S ⟨C,H,ic,ih,bc,bh,cc,ch,HC,rfl,Y,_,HL,a,_,d0,e0,_,_,M⟩;obtain⟨B0,c1,c2,c3⟩:=(zj.new w 68 (gC A c U X g)).go M;have d:Below w.heap.size w S:=za (by go_grown) M;clear M;go_wp2_with fail
 go_loopw [9,10] (λo x wr=>∃(k:Nat) (F:List Int),k<=g.lives.length/\x=.int .i64 k/\Hid (F=(qo g C).take k)/\F.length<=12/\Own vi 1 wr S.heap.size 3 o F/\Below S.heap.size S wr) (λ_ x _=>g.lives.length-(intOf x).toNat)
 case atStart=>exact⟨0,[],AA _,rfl,zc (by simp),by simp,Own.nil,Ae _ _⟩
 clear c1 c2 c3;obtain⟨k,F,hk,rfl,G,l0,B,L⟩:=hrel;have I:=za d L;obtain⟨f1,f2,f3⟩:=(B0.ext L).facts;have R:=L.size
 by_cases i:k<g.lives.length
 case neg=>
  have HE:Hid (F=qo g C):=zc (by rw[G.out,AJ];rw[SY];omega);obtain⟨Ar,cr,rfl,Z⟩:=lX B (by rw[HE.out];exact SX f);go_wp2_with fail;go_ret;exact⟨F,Ar,cr,zc (by rw[HE.out];exact fN O (ro O) HC.out.1 ⟨u,y⟩ ⟨q,r⟩),rfl,Z,by unfold maxLen;omega,I⟩
 obtain⟨p,m⟩:=zl (l:=ic) (k:=k) (by have:=HL.out.1;omega);have k1:=(Y.keep λ_ h=>h.ext L).cell m;have W:=zc (a.keep λ_ _ h=>h.ext L);have HP:=zc m;have HN:Hid (F++[mz (λs=>C (k,s)) 0 g.h.toNat]=(qo g C).take (k+1)):=zc (by rw[G.out,AO,SW i];rfl);have k0:F.length<=k:=by rw[G.out,AE];omega
 obtain⟨N0,X0,rfl⟩:=B.form;clear m G;obtain⟨wo,P⟩:∃wo:World,wo=wr:=⟨_,rfl⟩;rw[<-P]at B L I f1 f2 f3 R k1 W⊢;clear P;go_wp2_with fail
 go_loopw [11,12] (λn x wr=>∃(j:Nat) (K T:Int),(j:Int)<=g.h/\T=(j:Int)-1/\x=.int .i64 T/\n=.int .i64 K/\Hid (K=mz (λs=>C (k,s)) j (g.h.toNat-j))/\wr=wo) (λ_ x _=>(intOf x+1).toNat)
 case atStart=>exact⟨g.h.toNat,zq,g.h-1,by omega,by omega,rfl,rfl,zc (by rw[Nat.sub_self];rfl),rfl⟩
 obtain⟨j,K,T,hj,Q,rfl,rfl,V,rfl⟩:=hrel
 cases j with
 |zero=>
  obtain rfl:T=-1:=by omega
  have E:Hid (K=mz (λs=>C (k,s)) 0 g.h.toNat):=zc (by rw[V.out];rfl);clear Q W HP V;go_wp2_with (at_builtin;refine yf (enc:=vi) rfl (.tmp 43) (.tmp 45) 55 rfl S.heap.size 3 i0 _ 1 8 Tryz.underlying55 hi C0 D0 E0 rfl (by decide) _ F [K] 1 rfl rfl B _ rfl wr.heap.size (by simp) rfl rfl rl (by omega) (by decide) R ?_;intro v' w8 N b L0);go_roundw
  case rel=>exact⟨k+1,F++[K],by omega,by go_num,zc (by rw[E.out];exact HN.out),by simp;omega,N,L.trans b⟩
  case measure=>simp[intOf];omega
 |succ j=>
  obtain rfl:T=(j:Int):=by omega
  have k2:=W.out.cell HP.out (t:=j) (by omega);have J:g.h.toNat-j=(g.h.toNat-(j+1))+1:=by omega
  obtain⟨z,hz⟩:∃z,C (k,j)=z:=⟨_,rfl⟩;have HZ:=zc hz;have HS:=zc J;rw[hz]at k2;clear hz J Q
  by_cases D:z<zq
  case pos=>
   have hd:decide (z<1099511627776)=true:=by simp only[zq]at D;simp;omega
   have E:Hid ((j:Int)=mz (λs=>C (k,s)) j (g.h.toNat-j)):=zc (by rw[HS.out,Wt (by simp only[HZ.out];exact D)]);clear D;go_wp2_with fail;go_roundw
   case rel=>exact⟨j,j,(j:Int)-1,by omega,rfl,by go_num,rfl,E,by trivial⟩
   case measure=>first|(simp[intOf];done)|(simp[intOf];omega)
  have hd:decide (z<1099511627776)=false:=by simp only[zq]at D;simp;omega
  have E:Hid (K=mz (λs=>C (k,s)) j (g.h.toNat-j)):=zc (by rw[HS.out,UZ (by simp only[HZ.out];exact D)];exact V.out);clear D;go_wp2_with fail;go_roundw
  case rel=>exact⟨j,K,(j:Int)-1,by omega,rfl,by go_num,rfl,E,by trivial⟩
  case measure=>first|(simp[intOf];done)|(simp[intOf];omega)
