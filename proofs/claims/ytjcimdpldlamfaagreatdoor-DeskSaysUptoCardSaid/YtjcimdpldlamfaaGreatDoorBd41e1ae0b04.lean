import Derived.Outline
import Derived.Deep.LoopGhost
import Derived.Deep.DeepCutAuto
import Derived.BigRegion
import Derived.Test.YtjcimdpldlamfaaGreatDoorBde1fba3d5b3
namespace Go.Proofs.YtjcimdpldlamfaaGreatDoor
set_option maxRecDepth 100000
set_option maxHeartbeats 4000000
open Go.RowKit
def tQ(P:List Int->Prop)(er:Int)(w:World)(e:Ending)(w':World):Prop:=∃l A c,P l/\e=.returned (.tuple #[.slice A l.length c,.int .i64 er])/\zU ra 1 w' A l/\l.length<=maxLen/\Below w.heap.size w w'
def gb(r:List Bool)(i:Nat):Bool:=r.getD i false
def fO(r:List Bool):Nat:=(r.map λb=>if b then 0 else 1).sum
theorem ZH{r:List Bool}{i:Nat}(h:i<r.length):r[i]?=some (gb r i):=by simp[gb,List.getD,h]
theorem Vm{r:List Bool}{c:Nat}(h:c<r.length):gb (r.set c true)=bC (gb r) c:=by
 funext j
 unfold bC
 by_cases A:j=c
 ·subst A;simp[gb,List.getD,h]
 simp only[if_neg A,gb,List.getD];rw[List.getElem?_set_ne (λh=>A h.symm)]
theorem mp(n:Nat):fO (List.replicate n false)=n:=by
 induction n with
 |zero=>rfl
 |succ n ih=>simp only[List.replicate_succ,fO,List.map_cons,List.sum_cons]at *;simp at ih⊢;omega
theorem Ze{r:List Bool}{c:Nat}(h:c<r.length)(A:gb r c=false):fO (r.set c true)<fO r:=by
 induction r generalizing c with
 |nil=>simp at h
 |cons x r ih=>
  cases c with
  |zero=>
   have:x=false:=by simpa[gb]using A
   subst this;simp[fO]
  |succ c=>
   have:=ih (c:=c) (by simpa using h) (by simpa[gb]using A);simp only[fO,List.set_cons_succ,List.map_cons,List.sum_cons]at *;omega
def sg(d:Nat->Int)(done:Nat->Bool)(I:Int)(k:Nat)(at':Int):Prop:=
 (at'=-1/\∀i,i<k->done i=true∨I<=d i)∨∃c:Nat,at'=c/\c<k/\done c=false/\d c<I/\∀i,i<k->done i=true∨d c<=d i
section
variable {d:Nat->Int}{done:Nat->Bool}{I:Int}{k:Nat}{at':Int}
theorem sg.zero:sg d done I 0 (-1):=.inl ⟨rfl,λi h=>by omega⟩
theorem sg.skip(h:sg d done I k at')(A:done k=true∨I<=d k):sg d done I (k+1) at':=by
 rcases h with⟨B,C⟩|⟨c,B,C,D,E,F⟩
 ·exact .inl ⟨B,λi G=>by
   by_cases e:i=k
   ·rw[e];exact A
   exact C i (by omega)⟩
 exact .inr ⟨c,B,by omega,D,E,λi G=>by
  by_cases e:i=k
  ·rw[e];rcases A with A|A
   ·exact .inl A
   right;omega
  exact F i (by omega)⟩
theorem sg.stay{c:Nat}(h:sg d done I k c)(F:d c<=d k):sg d done I (k+1) c:=by
 rcases h with⟨A,B⟩|⟨e,A,B,C,D,E⟩
 ·omega
 obtain rfl:c=e:=by omega
 exact .inr ⟨c,rfl,by omega,C,D,λi G=>by
  by_cases e:i=k
  ·rw[e];exact .inr F
  exact E i (by omega)⟩
theorem sg.take(h:sg d done I k at')(E:done k=false)(D:d k<I)(A:∀c:Nat,at'=c->d k<d c):sg d done I (k+1) k:=by
 rcases h with⟨B,C⟩|⟨e,B,C,J,K,G⟩
 ·exact .inr ⟨k,rfl,by omega,E,D,λi H=>by
   by_cases e:i=k
   ·rw[e];right;exact Int.le_refl _
   rcases C i (by omega)with h|h
   ·exact .inl h
   right;omega⟩
 have:=A e B;exact .inr ⟨k,rfl,by omega,E,D,λi H=>by
  by_cases F:i=k
  ·rw[F];right;exact Int.le_refl _
  rcases G i (by omega)with h|h
  ·exact .inl h
  right;omega⟩
theorem sg.less{m:Nat}(h:sg d done I k m)(C:done k=false)(B:d k<I)(A:d k<d m):sg d done I (k+1) k:=
 h.take C B λc h=>by
  obtain rfl:m=c:=by omega
  exact A
theorem sg.cases(h:sg d done I k at'):(at'=-1/\∀i,i<k->done i=true∨I<=d i)∨∃c:Nat,at'=c/\c<k/\done c=false/\d c<I/\∀v,v<k->done v=false->d c<=d v:=by
 rcases h with h|⟨c,h1,h2,h3,h4,h5⟩
 ·exact .inl h
 exact .inr ⟨c,h1,h2,h3,h4,λv B A=>by
  rcases h5 v B with h|h
  ·rw[A]at h;simp at h
  exact h⟩
end
theorem WM{s:zH}{wt:xz->Int}{j:Nat}{y:xz}(h:s.arcs[j]?=some y):(qJ s wt)[j]?=some (rc wt y):=by simp[qJ,h]
theorem VR{s:zH}{wt:xz->Int}{v:Int}{n:Nat}:iQ (qJ s wt) n vN (gi (wS s v)) (gi (wS s v)) (λ_=>false):=
 ⟨λ_=>Int.le_refl _,λi _=>gK s v i,wM,λ_ _ _ h=>by simp at h,λ_ _ h=>by simp at h⟩
theorem jR(n:Nat):gb (List.replicate n false)=λ_=>false:=by
 funext i
 simp only[gb,List.getD,List.getElem?_replicate]
 split <;> rfl
theorem TI{n:Nat}{l:List Int}(hl:l.length=n)(h:∀i,i<n->gi l i=vN):l=List.replicate n vN:=
 wN (by simp[hl]) λi hi=>by rw[h i (by omega)];exact(vE (by simp[hl ▸ hi])).symm
theorem Wu{s:zH}{v:Int}(h0:0<=v)(h1:v<s.alive.length)(h:s.alive[v.toNat]?=some true):(List.replicate s.alive.length vN).set v.toNat 0=wS s v:=
 wN (by simp[wS]) λi A=>by
  have hi':i<s.alive.length:=by simpa using A
  rw[vX (by simp;omega)]
  by_cases e:i=v.toNat
  ·rw[e,yD];unfold wS;rw[uL (by omega),if_pos ⟨h,by omega⟩]
  rw[yx _ _ e];unfold wS;rw[uL hi',if_neg (λh=>e (by omega))];exact vE (by simp[hi'])
theorem Us{s:zH}{v:Int}(_h0:0<=v)(h:s.alive[v.toNat]?=some false):List.replicate s.alive.length vN=wS s v:=
 wN (by simp[wS]) λi A=>by
  have hi':i<s.alive.length:=by simpa using A
  unfold wS;rw[uL hi',if_neg (λ⟨h1,h2⟩=>by rw[<-h2]at h;simp only[Int.toNat_natCast]at h;rw[h1]at h;simp at h)];exact vE (by simp[hi'])
theorem Sy{s:zH}(H:pZ s){wt:xz->Int}{v:Int}{l:List Int}{done:Nat->Bool}(G:l.length=s.alive.length)(B:∀a,a∈s.arcs->0<=wt a)(h:iQ (qJ s wt) s.alive.length vN (gi (wS s v)) (gi l) done)
  (A:∀i,i<s.alive.length->done i=true∨vN<=gi l i):jx s wt v l:=by
 refine⟨G,?_⟩;rw[<-VM];refine h.best A λx D=>?_;simp only[qJ,List.mem_map]at D;obtain⟨a,C,rfl⟩:=D;have:=H.arcs a C;have E:=this.a1;have F:=this.b1;have:=B a C;exact⟨E,F,rK _,by simp only[rc];omega⟩
def xu(s:zH)(wt:xz->Int)(v:Int)(l:List Int):Prop:=if yk s v=0 then jx s wt v l else l=[]
theorem cH(kf:Nat)(wt:xz->Int)(A A':Option Addr)(c c':Nat)(s:zH)(v:Int)(w:World)(hent:Enters Tryz.prog kf)(t:wY w A c A' c' s)(U0:zW s=0->∀a,a∈s.arcs->0<=wt a/\wt a<=1000)
  (Z:∀a w,a∈s.arcs->Calls Tryz.prog kf #[Pr a] w λe w'=>e=.returned (.int .i64 (wt a))/\Below w.heap.size w w') :
  Calls Tryz.prog 102 #[sx A c A' c' s,.int .i64 v,.func (.func kf) #[] #[]] w (tQ (xu s wt v) (yk s v) w):=by
 have m1:s.alive.length<=9223372036854775807:=Nat.le_trans t.lc t.cm;have m2:s.arcs.length<=9223372036854775807:=Nat.le_trans t.lc' t.cm'
 by_cases h0:zW s=0
 case neg=>
  have H0:=zc h0;have HW:Hid (yk s v=zW s):=zc (lu h0);have hn:(zW s != 0)=true:=by simp[h0]
  clear h0
  go_enter Tryz.func102,Tryz.ntmps102
  go_wp2_with fail;refine(tO _ _ _ _ s _ (t.ext (by go_grown))).mono ?_;rintro e L ⟨rfl,M⟩;go_wp2_with fail;go_ret2;rw[HW.out];exact⟨[],none,0,by unfold xu;rw[if_neg (by rw[HW.out];exact H0.out)],rfl,zU.nil,by simp,za (by go_grown) M⟩
 have n0:=sw h0;have D0:=U0 h0;have H0:=zc h0;clear h0 U0
 by_cases hv:0<=v/\v<s.alive.length
 case neg=>
  have HW:Hid (yk s v=4):=zc (sT H0.out hv)
  go_enter Tryz.func102,Tryz.ntmps102
  go_wp2_with fail;refine(tO _ _ _ _ s _ (t.ext (by go_grown))).mono ?_;rw[H0.out];rintro e L ⟨rfl,M⟩;obtain⟨B0,c1,c2,c3⟩:=(zj.new w 86 (tn A c A' c' s)).go M;go_wp2_with fail
  all_goals go_ret2
  all_goals rw[HW.out]
  all_goals exact⟨[],none,0,by unfold xu;rw[if_neg (by rw[HW.out];decide)],rfl,zU.nil,by simp,za (by go_grown) M⟩
 obtain⟨r0,P1⟩:=hv;have HW:Hid (yk s v=0):=zc (pl H0.out ⟨r0,P1⟩);have n2:=n0.nv;have B2:=lS s.alive.length (by omega);have G3:=dF s.alive.length (by omega)
 go_enter Tryz.func102,Tryz.ntmps102
 go_wp2_with fail;refine(tO _ _ _ _ s _ (t.ext (by go_grown))).mono ?_;rw[H0.out];rintro e L ⟨rfl,M⟩;obtain⟨B0,c1,c2,c3⟩:=(zj.new w 86 (tn A c A' c' s)).go M;go_wp2_with fail;have V:=xA.made (w:=L) (n:=s.alive.length) rfl;have L0:=B0.alloc (Obj.cells (madeCells #[Value.int IntKind.i64 0] s.alive.length) 3);have u1:Below w.heap.size w L:=za (by go_grown) M;have M1:Below L.heap.size L (L.alloc (Obj.cells (madeCells #[Value.int IntKind.i64 0] s.alive.length) 3)):=(Below.refl _ _).alloc (Nat.le_refl _) _
 have A3:=B0.lt;clear c1 c2 c3 M B0
 go_loopw [37] (λx wr=>∃(k:Nat) (l:List Int),k<=s.alive.length/\x=.int .i64 k/\Hid (l.length=s.alive.length/\∀i,i<k->gi l i=vN)/\xA wr L.heap.size l/\Below L.heap.size L wr/\zj wr w.heap.size 86 (tn A c A' c' s))
  (λx _=>s.alive.length-(intOf x).toNat)
 case atStart=>exact⟨0,_,Nat.zero_le _,rfl,zc ⟨by simp,λi h=>by omega⟩,V,M1,L0⟩
 clear V L0 M1;obtain⟨k,l,hk,rfl,HL,J,hb,P⟩:=hrel
 by_cases Q:k<s.alive.length
 ·have hc:=J.cell (k:=k) (by rw[HL.out.1];exact Q)
  have hf:=zj.frozen J k;go_wp2_with fail;go_roundw
  case rel=>
   refine⟨k+1,l.set k vN,by omega,by go_num,zc ⟨by simp[HL.out.1],λi hi=>?_⟩,J.set k vN,hb.setCell (by simp) _,P.far (by simp;omega) _⟩;rw[vX (by rw[HL.out.1];exact Q)]
   by_cases e:i=k
   ·rw[e,yD]
   rw[yx _ _ e];exact HL.out.2 i (by omega)
  case measure=>simp[intOf];omega
 have HR:=zc (TI HL.out.1 (λi hi=>HL.out.2 i (by omega)));rw[HR.out]at J;clear HL HR;obtain⟨q1,q2,q3⟩:=P.facts;obtain⟨bv,ov,F1⟩:=t.alive;obtain⟨p,hp⟩:=zl (show v.toNat<s.alive.length by omega);obtain⟨rfl,z1,p0⟩:=F1 _ p hp;unfold oH at p0;have D:Below w.heap.size w wr:=u1.trans (hb.mono (by omega));have p1:=p0.now D;simp only[Nat.mul_one]at p1;have g0:bv<wr.heap.size:=Nat.lt_of_lt_of_le z1 D.size
 have HP:=zc hp;clear F1 hp p0;have hc:=J.cell (k:=v.toNat) (by simp;omega);have hf:=zj.frozen J v.toNat
 go_upto_if 48 with fail
 go_cut [] from 49 to 51 (λwx=>xA wx L.heap.size (wS s v)/\zj wx w.heap.size 86 (tn (some ⟨bv,ov,none⟩) c A' c' s)/\Below w.heap.size w wx/\L.heap.size<wx.heap.size)
 case first=>
  cases p
  case true=>
   have HS:=zc (Wu r0 P1 HP.out);go_wp2_with fail;go_meet;exact⟨by rw[<-HS.out];exact J.set _ _,P.far (by simp;omega) _,D.setCell (by simp;omega) _,by simp;exact zj.lt J⟩
  case false=>
   have HS:=zc (Us r0 HP.out);go_wp2_with fail;go_meet;exact⟨by rw[<-HS.out];exact J,P,D,zj.lt J⟩
 clear hc hf J P D g0 p1 HP q1 q2 q3 hb B2;obtain⟨J,P,D,g0⟩:=hcut;go_wp2_with fail;have H1:=kM.made (w:=wc) (n:=s.alive.length) rfl;have V:=zj.alloc J (Obj.cells (madeCells #[Value.bool false] s.alive.length) 4);have G1:=P.alloc (Obj.cells (madeCells #[Value.bool false] s.alive.length) 4);have O0:=ze D (Obj.cells (madeCells #[Value.bool false] s.alive.length) 4);clear J P D
 have B3:L.heap.size<wc.heap.size:=g0
 go_loopg [] s.alive.length (λgk wr=>∃(l:List Int) (r:List Bool),Hid (l.length=s.alive.length/\r.length=s.alive.length/\fO r<=gk/\iQ (qJ s wt) s.alive.length vN (gi (wS s v)) (gi l) (gb r)) /\
  xA wr L.heap.size l/\kM wr wc.heap.size r/\zj wr w.heap.size 86 (tn (some ⟨bv,ov,none⟩) c A' c' s)/\Below w.heap.size w wr)
 case atStart=>exact⟨_,_,zc ⟨by simp[wS],by simp,by rw[mp];exact Nat.le_refl _,by rw[jR];exact VR⟩,V,H1,G1,O0⟩
 clear H1 V G1 O0;obtain⟨l,r,O,J,o,P,D⟩:=hrel;go_wp2_with fail;obtain⟨wo,rfl⟩:∃wo:World,wo=wr:=⟨_,rfl⟩
 go_loopw [12,57] (λx y wr=>∃(k:Nat) (z:Int),k<=s.alive.length/\y=.int .i64 k/\x=.int .i64 z/\Hid (sg (gi l) (gb r) vN k z)/\wr=wo) (λ_ y _=>s.alive.length-(intOf y).toNat)
 case atStart=>exact⟨0,-1,Nat.zero_le _,rfl,rfl,zc sg.zero,rfl⟩
 obtain⟨k,z,hk,rfl,rfl,HM,rfl⟩:=hrel
 by_cases Q:k<s.alive.length
 case pos=>
  have hc:=J.cell (k:=k) (by rw[O.out.1];exact Q);obtain⟨x,hx⟩:∃x,gb r k=x:=⟨_,rfl⟩;have hd:=o.cell (k:=k) (x:=x) (by rw[ZH (by rw[O.out.2.1];exact Q),hx]);obtain⟨n,hn⟩:∃n,gi l k=n:=⟨_,rfl⟩;rw[hn]at hc;have HX:=zc hx;have U:=zc hn;clear hx hn
  cases x
  case true=>
   go_wp2_with fail;go_roundw
   case rel=>exact⟨k+1,z,by omega,by go_num,rfl,zc (HM.out.skip (.inl HX.out)),trivial⟩
   case measure=>simp[intOf];omega
  by_cases hf:n<1099511627776
  case neg=>
   have C3:decide (n<1099511627776)=false:=by simpa using hf
   go_wp2_with fail;go_roundw
   case rel=>exact⟨k+1,z,by omega,by go_num,rfl,zc (HM.out.skip (.inr (by rw[U.out];simp only[vN];omega))),trivial⟩
   case measure=>simp[intOf];omega
  rcases HM.out.cases with⟨rfl,_⟩|⟨m,rfl,hm,_,_,_⟩
  ·go_wp2_with fail
   go_roundw
   case rel=>exact⟨k+1,k,by omega,by go_num,rfl,zc (HM.out.take HX.out (by rw[U.out];exact hf) (λc h=>by omega)),trivial⟩
   case measure=>simp[intOf];omega
  have Y:=J.cell (k:=m) (by rw[O.out.1];omega);obtain⟨q,hq⟩:∃q,gi l m=q:=⟨_,rfl⟩;rw[hq]at Y;have HQ:=zc hq;clear hq;have N:m<s.alive.length:=by omega
  by_cases A2:n<q
  ·go_wp2_with fail
   go_roundw
   case rel=>exact⟨k+1,k,by omega,by go_num,rfl,zc (HM.out.less HX.out (by rw[U.out];exact hf) (by rw[U.out,HQ.out];exact A2)),trivial⟩
   case measure=>simp[intOf];omega
  go_wp2_with fail;go_roundw
  case rel=>exact⟨k+1,m,by omega,by go_num,rfl,zc (HM.out.stay (by rw[U.out,HQ.out];omega)),trivial⟩
  case measure=>simp[intOf];omega
 rcases HM.out.cases with⟨rfl,M0⟩|⟨m,rfl,hm,k0,hmf,T0⟩
 ·have Y0:=zc (Sy n0 O.out.1 (λa ha=>(D0 a ha).1) O.out.2.2.2 (λi hi=>M0 i (by omega)))
  clear M0;go_wp2_with fail;go_ret2;rw[HW.out];have R0:=O.out.1;refine⟨l,some ⟨L.heap.size,0,none⟩,s.alive.length,by unfold xu;rw[if_pos HW.out];exact Y0.out,by rw[R0];rfl,J.slAt (λk hk=>?_),by rw[R0];unfold maxLen;omega,D⟩;have h1:=Ph Y0.out k;have h2:=Pi (λa ha=>(D0 a ha).1) Y0.out k;simp only[vN]at h1;exact⟨by omega,by omega⟩
 have N:m<s.alive.length:=by omega
 have W0:=zc k0;have Z1:=zc T0;have v2:=zc hmf;have hd:=o.cell (k:=m) (x:=false) (by rw[ZH (by rw[O.out.2.1];exact N),k0]);have hf:=zj.frozen o m;have A0:=zc Z;obtain⟨q1,q2,q3⟩:=P.facts;have d2:w.heap.size≠wc.heap.size:=by omega
 clear k0 T0 hmf Z HM;go_wp2_with fail;have d0:=zj.far J (p:=⟨wc.heap.size,m,none⟩) (by simp;omega) (.bool true);have c0:=o.set m true;have Z0:=P.far (p:=⟨wc.heap.size,m,none⟩) (by simp;omega) (.bool true);have W:=D.setCell (p:=⟨wc.heap.size,m,none⟩) (by simp;omega) (.bool true);clear J o P D hd hf q1 q2 q3;obtain⟨wp,Q1⟩:∃wp:World,wp=wr.setCell ⟨wc.heap.size,m,none⟩ (.bool true):=⟨_,rfl⟩
 rw[<-Q1]at d0 c0 Z0 W⊢;clear Q1;obtain⟨bz,oz,n1⟩:=t.arcs
 go_loopw [94] (λx wr=>∃(j:Nat) (R:List Int),j<=s.arcs.length/\x=.int .i64 j/\Hid (R.length=s.alive.length/\UA (qJ s wt) s.alive.length vN (gi (wS s v)) (gi l) (gi R) (gb r) m j) /\
  xA wr L.heap.size R/\kM wr wc.heap.size (r.set m true)/\zj wr w.heap.size 86 (tn (some ⟨bv,ov,none⟩) c A' c' s)/\Below w.heap.size w wr) (λx _=>s.arcs.length-(intOf x).toNat)
 case atStart=>exact⟨0,l,Nat.zero_le _,rfl,zc ⟨O.out.1,O.out.2.2.2.begin (λv hv hd=>Z1.out v (by omega) hd)⟩,d0,c0,Z0,W⟩
 clear d0 c0 Z0 W;obtain⟨j,R,hj,rfl,T,J,o,P,D⟩:=hrel
 by_cases Q:j<s.arcs.length
 case neg=>
  have HF:=zc (T.out.2.fin O.out.2.2.2 N W0.out (by simp[qJ];omega));have HU:=zc (Ze (r:=r) (c:=m) (by rw[O.out.2.1];exact N) W0.out);have D1:=zc O.out.2.2.1;go_wp2_with fail
  go_roundg (gk-1)
  case rel=>exact⟨R,_,zc ⟨T.out.1,by rw[List.length_set];exact O.out.2.1,by have:=HU.out;have:=D1.out;omega,by rw[Vm (by rw[O.out.2.1];exact N)];exact HF.out⟩,J,o,P,D⟩
  case measure=>have:=HU.out;have:=D1.out;omega
 obtain⟨y,hy⟩:=zl Q;obtain⟨rfl,f2,⟨⟨x0,x1,x2⟩,_⟩⟩:=n1 j y hy;have y0:=x0.now D;have y1:=x1.now D;have y2:=x2.now D;have s0:=List.mem_of_getElem? hy;have g:=n0.arcs y s0;have HY:=zc (WM (wt:=wt) hy);have E1:=zc s0;clear hy s0 x0 x1 x2
 by_cases d:y.a=(m:Int)
 case neg=>
  have C2:(y.a== (m:Int))=false:=by simp[d]
  have HS:=zc (T.out.2.skip HY.out (by have:=g.a0;simp only[rc];omega));clear d;go_wp2_with fail;go_roundw
  case rel=>exact⟨j+1,R,by omega,by go_num,zc ⟨T.out.1,HS.out⟩,zj.alloc J _,zj.alloc o _,P.alloc _,ze D _⟩
  case measure=>simp[intOf];omega
 have C2:(y.a== (m:Int))=true:=by simp[d]
 have i1:=zc d;clear d;have Z2:=g.b0;have a2:y.b<s.alive.length:=by have:=g.b1;omega
 have N0:y.b.toNat<s.alive.length:=g.b1;have j0:=J.cell (k:=y.b.toNat) (by rw[T.out.1];exact N0);have Y:=J.cell (k:=m) (by rw[T.out.1];exact N);have S0:∀i,0<=gi R i:=qy T.out.2.above (gL s v) (λx hx=>by
  simp only[qJ,List.mem_map]at hx;obtain⟨a,ha,rfl⟩:=hx;have:=(D0 a ha).1;simp only[rc];omega)
 have F2:=S0 m;have G2:gi R m<=1099511627776:=Int.le_trans (T.out.2.le m) (O.out.2.2.2.big m N);obtain⟨w0,w2⟩:=D0 y E1.out;obtain⟨p',o0⟩:∃p',gi R y.b.toNat=p':=⟨_,rfl⟩;obtain⟨q',q0⟩:∃q',gi R m=q':=⟨_,rfl⟩;obtain⟨n',l0⟩:∃n',wt y=n':=⟨_,rfl⟩;rw[o0]at j0;rw[q0]at Y F2 G2;rw[l0]at w0 w2;have f1:=zc o0;have B1:=zc q0;have X0:=zc l0;clear o0 q0 l0 S0;have I2:IntKind.i64.wrap (q'+n')=q'+n':=IntWalk.i64_in _ (by omega)
 have i0:=zc (λw=>A0.out y w E1.out);have R1:L.heap.size<wr.heap.size:=zj.lt J;have m0:=(zj.new wr 134 #[.int .i64 y.a,.int .i64 y.b,.int .i64 y.cost]);have e0:=m0.cell 0;have e1:=m0.cell 1;have e2:=m0.cell 2;have X:(wr.alloc (Obj.cells #[.int .i64 y.a,.int .i64 y.b,.int .i64 y.cost] 134)).cell? ⟨L.heap.size,y.b.toNat,none⟩=some (.int .i64 p'):=by rw[World.cell?_alloc_past _ _ _ R1];exact j0
 have P0:(wr.alloc (Obj.cells #[.int .i64 y.a,.int .i64 y.b,.int .i64 y.cost] 134)).cell? ⟨L.heap.size,m,none⟩=some (.int .i64 q'):=by rw[World.cell?_alloc_past _ _ _ R1];exact Y
 simp only[List.getElem?_toArray,List.getElem?_cons_zero,List.getElem?_cons_succ]at e0 e1 e2;have E3:(0:Int)<=(m:Int):=by omega
 have F3:(m:Int)<(s.alive.length:Int):=by omega
 clear j0 Y;unfold Enters at hent;go_wp2_with fail;obtain⟨S,C⟩:∃S:World->Prop,Hid (S=λw'=>w'.cell? ⟨L.heap.size,y.b.toNat,none⟩=some (.int .i64 p')/\w'.cell? ⟨L.heap.size,m,none⟩=some (.int .i64 q')/\w'.cell? ⟨wr.heap.size,0,none⟩=some (.int .i64 y.a)/\w'.cell? ⟨wr.heap.size,1,none⟩=some (.int .i64 y.b)/\w'.cell? ⟨wr.heap.size,2,none⟩=some (.int .i64 y.cost)):=⟨_,zc rfl⟩;have s1:S (wr.alloc (Obj.cells #[.int .i64 y.a,.int .i64 y.b,.int .i64 y.cost] 134)).drew:=by rw[C.out];exact⟨X,P0,e0,e1,e2⟩
 refine zV.begin (S:=S) 18 (by kernel_rfl) ?_;refine zV.take (i:=0) (v:=?_) rfl (by kernel_rfl) (λ_ _ _ h=>h) (Or.inl ⟨by rfl,?_⟩) (by assumption) ?_;rotate_left
 ·intro w B;rw[C.out]at B;obtain⟨E,F,G,H,I⟩:=B;go_simp;try with_reducible rfl
 simp only[Act.put,List.setIfInBounds_toArray];refine zV.take (i:=1) (v:=?_) rfl (by kernel_rfl) (λ_ _ _ h=>h) (Or.inl ⟨by rfl,?_⟩) (by assumption) ?_;rotate_left
 ·intro w B;rw[C.out]at B;obtain⟨E,F,G,H,I⟩:=B;go_simp;try with_reducible rfl
 simp only[Act.put];refine zV.take (i:=2) (v:=?_) rfl (by kernel_rfl) (λ_ _ _ h=>h) (Or.inl ⟨by rfl,?_⟩) (by assumption) ?_;rotate_left
 ·intro w B;rw[C.out]at B;obtain⟨E,F,G,H,I⟩:=B;go_simp;try with_reducible rfl
 simp only[Act.put];refine zV.take (i:=3) (v:=?_) rfl (by kernel_rfl) (λ_ _ _ h=>h) (Or.inl ⟨by rfl,?_⟩) (by assumption) ?_;rotate_left
 ·intro w B;rw[C.out]at B;obtain⟨E,F,G,H,I⟩:=B;go_simp;try with_reducible rfl
 simp only[Act.put];refine zV.take (i:=4) (v:=?_) rfl (by kernel_rfl) (λ_ _ _ h=>h) (Or.inl ⟨by rfl,?_⟩) (by assumption) ?_;rotate_left
 ·intro w B;rw[C.out]at B;obtain⟨E,F,G,H,I⟩:=B;go_simp;try with_reducible rfl
 simp only[Act.put];refine zV.take (i:=5) (v:=?_) rfl (by kernel_rfl) (λ_ _ _ h=>h) (Or.inl ⟨by rfl,?_⟩) (by assumption) ?_;rotate_left
 ·intro w B;rw[C.out]at B;obtain⟨E,F,G,H,I⟩:=B;go_simp;try with_reducible rfl
 simp only[Act.put];refine zV.take (i:=6) (v:=?_) rfl (by kernel_rfl) (λ_ _ _ h=>h) (Or.inl ⟨by rfl,?_⟩) (by assumption) ?_;rotate_left
 ·intro w B;rw[C.out]at B;obtain⟨E,F,G,H,I⟩:=B;go_simp;try with_reducible rfl
 simp only[Act.put];refine zV.take (i:=7) (v:=?_) rfl (by kernel_rfl) (λ_ _ _ h=>h) (Or.inl ⟨by rfl,?_⟩) (by assumption) ?_;rotate_left
 ·intro w B;rw[C.out]at B;obtain⟨E,F,G,H,I⟩:=B;go_simp;try with_reducible rfl
 simp only[Act.put];refine zV.take (i:=8) (v:=?_) rfl (by kernel_rfl) (λ_ _ _ h=>h) (Or.inl ⟨by rfl,?_⟩) (by assumption) ?_;rotate_left
 ·intro w B;rw[C.out]at B;obtain⟨E,F,G,H,I⟩:=B;go_simp;try with_reducible rfl
 simp only[Act.put];refine zV.take (i:=9) (v:=?_) rfl (by kernel_rfl) (λ_ _ _ h=>h) (Or.inl ⟨by rfl,?_⟩) (by assumption) ?_;rotate_left
 ·intro w B;rw[C.out]at B;obtain⟨E,F,G,H,I⟩:=B;go_simp;try with_reducible rfl
 simp only[Act.put];refine zV.take (i:=10) (v:=?_) rfl (by kernel_rfl) (λ_ _ _ h=>h) (Or.inl ⟨by rfl,?_⟩) (by assumption) ?_;rotate_left
 ·intro w B;rw[C.out]at B;obtain⟨E,F,G,H,I⟩:=B;go_simp;try with_reducible rfl
 simp only[Act.put];refine zV.take (i:=11) (v:=?_) rfl (by kernel_rfl) (λ_ _ _ h=>h) (Or.inl ⟨by rfl,?_⟩) (by assumption) ?_;rotate_left
 ·intro w B;rw[C.out]at B;obtain⟨E,F,G,H,I⟩:=B;go_simp;try with_reducible rfl
 simp only[Act.put];refine zV.take (i:=12) (v:=?_) rfl (by kernel_rfl) (λ_ _ _ h=>h) (Or.inl ⟨by rfl,?_⟩) (by assumption) ?_;rotate_left
 ·intro w B;rw[C.out]at B;obtain⟨E,F,G,H,I⟩:=B;go_simp;try with_reducible rfl
 simp only[Act.put];refine zV.take (i:=13) (v:=?_) rfl (by kernel_rfl) (λ_ _ _ h=>h) (Or.inl ⟨by rfl,?_⟩) (by assumption) ?_;rotate_left
 ·intro w B;rw[C.out]at B;obtain⟨E,F,G,H,I⟩:=B;go_simp;try with_reducible rfl
 simp only[Act.put];refine zV.one (i:=14) rfl (by kernel_rfl) λK hK=>?_;go_wp2_with (first|(refine(i0.out _).mono ?_;rw[X0.out];rintro e w5 ⟨rfl,v1⟩;have f0:Below (wr.alloc (Obj.cells #[.int .i64 y.a,.int .i64 y.b,.int .i64 y.cost] 134)).heap.size (wr.alloc (Obj.cells #[.int .i64 y.a,.int .i64 y.b,.int .i64 y.cost] 134)) w5:=za (by go_grown) v1));have K1:S w5:=by rw[C.out];exact Qu f0 ⟨X,P0,e0,e1,e2⟩
 refine hK.out _ _ ⟨λ_=>K1,?_⟩;clear hK K
 try simp only[pS]
 refine zV.take (i:=15) (v:=?_) rfl (by kernel_rfl) (λ_ _ _ h=>h) (Or.inl ⟨by rfl,?_⟩) (by assumption) ?_;rotate_left
 ·intro w B;rw[C.out]at B;obtain⟨E,F,G,H,I⟩:=B;go_simp;try with_reducible rfl
 simp only[Act.put,List.setIfInBounds_toArray];refine zV.take (i:=16) (v:=?_) rfl (by kernel_rfl) (λ_ _ _ h=>h) (Or.inl ⟨by rfl,?_⟩) (by assumption) ?_;rotate_left
 ·intro w B;rw[C.out]at B;obtain⟨E,F,G,H,I⟩:=B;go_simp;try with_reducible rfl
 simp only[Act.put];refine zV.take (i:=17) (v:=?_) rfl (by kernel_rfl) (λ_ _ _ h=>h) (Or.inl ⟨by rfl,?_⟩) (by assumption) ?_;rotate_left
 ·intro w B;rw[C.out]at B;obtain⟨E,F,G,H,I⟩:=B;go_simp;try with_reducible rfl
 simp only[Act.put];have u:Below wr.heap.size wr w5:=za (by go_grown) f0;have I1:=zj.ext J u;have r1:=zj.ext o u;have o1:=P.ext u;have N1:=za D u;have i2:=zj.frozen I1 y.b.toNat;have g2:=zD f0 X;have b2:w.heap.size<=L.heap.size:=by omega
 have a1:=zc (T.out.2.step O.out.2.2.2 N W0.out HY.out (by have:=g.a0;have:=i1.out;simp only[rc];omega) (rK _) (by simp only[rc];rw[B1.out,X0.out];omega));obtain⟨mv,C0⟩:∃mv,(if q'+n'<p' then q'+n' else p')=mv:=⟨_,rfl⟩
 first|rw[C0]|rw[show min p' (q'+n')=mv from by rw[<-C0];split <;> omega]
 have O1:Hid (gi (R.set y.b.toNat mv)=upd (gi R) (rc wt y).b (min (gi R (rc wt y).b) ((rc wt y).f (gi R m)))):=zc (by
  rw[vX (by rw[T.out.1];exact N0)];simp only[rc];rw[f1.out,B1.out,X0.out]
  congr 1
  rw[<-C0]
  split <;> omega)
 clear C0;refine zV.one (i:=18) rfl (by kernel_rfl) λK hK=>?_;clear K1 s1;go_wp2_with fail;refine hK.out _ _ ⟨λh=>by omega,?_⟩;clear hK K;refine zV.done (by kernel_rfl) ?_ _;go_wp2_with fail;go_roundw
 case rel=>exact⟨j+1,R.set y.b.toNat mv,by omega,by go_num,zc ⟨by rw[List.length_set];exact T.out.1,by rw[O1.out];exact a1.out⟩,xA.set I1 _ _,zj.far r1 (by simp;omega) _,o1.far (by simp;omega) _,N1.setCell (by simp;omega) _⟩
 case measure=>simp[intOf];omega
theorem Xm(a:xz)(w:World):Calls Tryz.prog 103 #[Pr a] w λe A=>e=.returned (.int .i64 (gS a))/\Below w.heap.size w A:=by
 go_enter Tryz.func103,Tryz.ntmps103
 go_wp2_with fail;go_ret;exact⟨rfl,by go_grown⟩
theorem Zz(a:xz)(w:World):Calls Tryz.prog 104 #[Pr a] w λe A=>e=.returned (.int .i64 (mq a))/\Below w.heap.size w A:=by
 go_enter Tryz.func104,Tryz.ntmps104
 go_wp2_with fail;go_ret;exact⟨rfl,by go_grown⟩
theorem YV:Enters Tryz.prog 103:=enters_of Tryz.func103 (by kernel_rfl) rfl
theorem ZF:Enters Tryz.prog 104:=enters_of Tryz.func104 (by kernel_rfl) rfl
theorem Qm(A B:Option Addr)(c C:Nat)(s:zH)(v:Int)(w:World)(I:wY w A c B C s) :
  Calls Tryz.prog 54 #[sx A c B C s,.int .i64 v] w (tQ (xu s gS v) (yk s v) w):=by
 go_enter Tryz.func54,Tryz.ntmps54
 go_wp2_with fail;refine(cH 103 gS A B c C s v _ YV (I.ext (by go_grown)) (λ_ a _=>by simp[gS]) (λa w _=>Xm a w)).mono ?_;rintro e K ⟨l,G,H,J,rfl,D,F,E⟩;go_wp2_with fail;go_ret2;exact⟨l,G,H,J,rfl,D,F,za (by go_grown) E⟩
theorem ce(A B:Option Addr)(c C:Nat)(s:zH)(v:Int)(w:World)(I:wY w A c B C s) :
  Calls Tryz.prog 57 #[sx A c B C s,.int .i64 v] w (tQ (xu s mq v) (yk s v) w):=by
 go_enter Tryz.func57,Tryz.ntmps57
 go_wp2_with fail;refine(cH 104 mq A B c C s v _ ZF (I.ext (by go_grown)) (λh a G=>⟨((sw h).arcs a G).c0,((sw h).arcs a G).c1⟩) (λa w _=>Zz a w)).mono ?_;rintro e K ⟨l,H,c1,J,rfl,D,F,E⟩;go_wp2_with fail;go_ret2;exact⟨l,H,c1,J,rfl,D,F,za (by go_grown) E⟩
def vc(s:zH)(l:List Int):Prop:=if zW s=0 then tR s l else l=[]
theorem dt{s:zH}(h:zW s=0){l:List Int}(A:tR s l):vc s l:=by unfold vc;rw[if_pos h];exact A
theorem tR.pos{s:zH}{l:List Int}(h:tR s l)(i:Nat):0<=gi l i:=
 qy h.2.2 (gy s) (λx hx=>by obtain⟨a,_,rfl|⟨_,rfl⟩⟩:=hx <;> simp[rc,iU,nb]) i
theorem tR.big{s:zH}{l:List Int}(h:tR s l)(hn:s.alive.length<=12)(i:Nat):gi l i<=vN:=Int.le_trans (h.2.1.1 i) (ax s hn i)
theorem VD(A d:Option Addr)(c i:Nat)(s:zH)(w:World)(Q:wY w A c d i s) :
  Calls Tryz.prog 59 #[sx A c d i s] w (tQ (vc s) (zW s) w):=by
 have m1:s.alive.length<=9223372036854775807:=Nat.le_trans Q.lc Q.cm;have m2:s.arcs.length<=9223372036854775807:=Nat.le_trans Q.lc' Q.cm'
 by_cases o:zW s=0
 case neg=>
  have q:=zc o;have hn:(zW s != 0)=true:=by simp[o]
  clear o
  go_enter Tryz.func59,Tryz.ntmps59
  go_wp2_with fail;refine(tO _ _ _ _ s _ (Q.ext (by go_grown))).mono ?_;rintro e E ⟨rfl,L⟩;go_wp2_with fail;go_ret2;exact⟨[],none,0,by unfold vc;rw[if_neg q.out],rfl,zU.nil,by simp,za (by go_grown) L⟩
 have M:=sw o;have q:=zc o;clear o;have E0:=M.nv;have P0:=lS s.alive.length (by omega)
 go_enter Tryz.func59,Tryz.ntmps59
 go_wp2_with fail;refine(tO _ _ _ _ s _ (Q.ext (by go_grown))).mono ?_;rw[q.out];rintro e E ⟨rfl,L⟩;obtain⟨B0,c1,c2,c3⟩:=(zj.new w 86 (tn A c d i s)).go L;go_wp2_with fail;have u:=xA.made (w:=E) (n:=s.alive.length) rfl;have P:=B0.alloc (Obj.cells (madeCells #[Value.int IntKind.i64 0] s.alive.length) 3);have U:Below w.heap.size w E:=za (by go_grown) L;have A0:Below E.heap.size E (E.alloc (Obj.cells (madeCells #[Value.int IntKind.i64 0] s.alive.length) 3)):=(Below.refl _ _).alloc (Nat.le_refl _) _
 have v0:=B0.lt;clear c1 c2 c3 L B0
 go_loopw [22] (λx wr=>∃(k:Nat) (l:List Int),k<=s.alive.length/\x=.int .i64 k/\Hid (nk s l k)/\xA wr E.heap.size l/\Below E.heap.size E wr/\zj wr w.heap.size 86 (tn A c d i s))
  (λx _=>s.alive.length-(intOf x).toNat)
 case atStart=>exact⟨0,_,Nat.zero_le _,rfl,zc nk.zero,u,A0,P⟩
 clear u P A0;obtain⟨k,l,hk,rfl,f,C,z,F⟩:=hrel
 by_cases H:k<s.alive.length
 ·obtain⟨bv,ov,t⟩:=Q.alive
  obtain⟨p,hp⟩:=zl H;obtain⟨rfl,O0,p0⟩:=t _ p hp;unfold oH at p0;have B:Below w.heap.size w wr:=U.trans (z.mono (by omega));have p1:=p0.now B;simp only[Nat.mul_one]at p1;have w0:bv<E.heap.size:=Nat.lt_of_lt_of_le O0 U.size;have C0:¬E.heap.size=bv:=by omega
  have HP:=zc hp;clear t hp p0;have hc:=C.cell (k:=k) (by rw[f.out.1];exact H);have hf:=zj.frozen C k;obtain⟨b1,b2,b3⟩:=(F.far (p:=⟨E.heap.size,k,none⟩) (by simp;omega) (.int .i64 k)).facts;have p2:(wr.setCell ⟨E.heap.size,k,none⟩ (.int .i64 k)).cell? ⟨bv,ov+k,none⟩=some (.bool p):=by rw[World.cell?_setCell_far _ _ _ _ C0];exact p1
  cases p
  case true=>
   have T:=zc (f.out.next H (Sk HP.out));go_wp2_with fail;go_roundw
   case rel=>exact⟨k+1,_,by omega,by go_num,T,C.set k k,z.setCell (by simp) _,F.far (by simp;omega) _⟩
   case measure=>simp[intOf];omega
  case false=>
   have T:=zc (f.out.next H (Qw HP.out));have v:=(C.set k k).set k vN;rw[List.set_set]at v;have C1:=zj.frozen (C.set k k) k;have z0:=(C.set k k).cell (k:=k) (by rw[List.length_set,f.out.1];exact H);go_wp2_with fail;go_roundw
   case rel=>exact⟨k+1,_,by omega,by go_num,T,v,(z.setCell (by simp) _).setCell (by simp) _,(F.far (by simp;omega) _).far (by simp;omega) _⟩
   case measure=>simp[intOf];omega
 have HR:=zc (f.out.fin (show s.alive.length<=k by omega));rw[HR.out]at C;clear f HR;have B:Below w.heap.size w wr:=U.trans (z.mono (by omega));have Z:=zj.lt C;clear z P0;go_wp2_with fail
 go_loopg [7] (uW (wy s)+1) (λgk m wr=>∃(b:Bool) (l:List Int),m=.bool b/\Hid ((b=true->uW l<gk/\mr s l l false 0)/\(b=false->tR s l)) /\
  xA wr E.heap.size l/\zj wr w.heap.size 86 (tn A c d i s)/\Below w.heap.size w wr)
 case atStart=>exact⟨true,_,rfl,zc ⟨λ_=>⟨Nat.lt_succ_self _,mr.start⟩,λh=>by simp at h⟩,C,F,B⟩
 clear C F B;obtain⟨m,l,rfl,T,C,F,B⟩:=hrel
 cases m
 case false=>
  have g:=zc (T.out.2 rfl);go_wp2_with fail;go_ret2;rw[q.out];have R:=g.out.1;exact⟨l,some ⟨E.heap.size,0,none⟩,s.alive.length,dt q.out g.out,by rw[R];rfl,C.slAt (λk _=>by have h1:=g.out.big E0 k;have h2:=g.out.pos k;simp only[vN]at h1;exact⟨by omega,by omega⟩),by rw[R];unfold maxLen;omega,B⟩
 case true=>
  have HM:=zc (T.out.1 rfl);clear T;obtain⟨q1,q2,q3⟩:=F.facts;obtain⟨bz,oz,N0⟩:=Q.arcs;go_wp2_with fail
  go_loopw [7,43] (λm x wr=>∃(b:Bool) (j:Nat) (S:List Int),j<=s.arcs.length/\m=.bool b/\x=.int .i64 j/\Hid (mr s l S b j) /\
   xA wr E.heap.size S/\zj wr w.heap.size 86 (tn A c d i s)/\Below w.heap.size w wr) (λ_ x _=>s.arcs.length-(intOf x).toNat)
  case atStart=>exact⟨false,0,l,Nat.zero_le _,rfl,rfl,zc HM.out.2,C,F,B⟩
  clear C F B q1 q2 q3;obtain⟨m,j,S,hj,rfl,rfl,O,C,F,B⟩:=hrel
  by_cases H:j<s.arcs.length
  case neg=>
   have HG:=zc HM.out.1
   cases m
   case true=>
    have HT:=zc (O.out.less rfl);go_wp2_with fail
    go_roundg (gk-1)
    case rel=>exact⟨true,S,rfl,zc ⟨λ_=>⟨by have:=HT.out;have:=HG.out;omega,O.out.again⟩,λh=>by simp at h⟩,C,F,B⟩
    case measure=>have:=HG.out;omega
   case false=>
    have g:=zc (O.out.fin (show s.arcs.length<=j by omega));go_wp2_with fail
    go_roundg (gk-1)
    case rel=>exact⟨false,S,rfl,zc ⟨λh=>by simp at h,λ_=>g.out⟩,C,F,B⟩
    case measure=>have:=HG.out;omega
  obtain⟨y,hy⟩:=zl H;obtain⟨rfl,X0,⟨⟨x0,x1,x2⟩,_⟩⟩:=N0 j y hy;have y0:=x0.now B;have y1:=x1.now B;have y2:=x2.now B;have N:=M.arcs y (List.mem_of_getElem? hy);have HY:=zc hy;clear hy x0 x1 x2;have s0:=N.a0;have t0:y.a<(s.alive.length:Int):=by have:=N.a1;omega
  have A1:=N.b0;have B1:y.b<(s.alive.length:Int):=by have:=N.b1;omega
  have V:=C.cell (k:=y.a.toNat) (by rw[O.out.len];omega);have W:=C.cell (k:=y.b.toNat) (by rw[O.out.len];omega);obtain⟨D,X⟩:∃D,gi S y.a.toNat=D:=⟨_,rfl⟩;obtain⟨I,Y⟩:∃I,gi S y.b.toNat=I:=⟨_,rfl⟩;rw[X]at V;rw[Y]at W;have J:=zc X;have K:=zc Y;clear X Y;have Z:=zj.lt C;have F0:=(zj.new wr 134 #[.int .i64 y.a,.int .i64 y.b,.int .i64 y.cost]);have e0:=F0.cell 0
  have e1:=F0.cell 1;simp only[List.getElem?_toArray,List.getElem?_cons_zero,List.getElem?_cons_succ]at e0 e1;have Y0:(wr.alloc (Obj.cells #[.int .i64 y.a,.int .i64 y.b,.int .i64 y.cost] 134)).cell? ⟨E.heap.size,y.a.toNat,none⟩=some (.int .i64 D):=by rw[World.cell?_alloc_past _ _ _ Z];exact V
  have Z0:(wr.alloc (Obj.cells #[.int .i64 y.a,.int .i64 y.b,.int .i64 y.cost] 134)).cell? ⟨E.heap.size,y.b.toNat,none⟩=some (.int .i64 I):=by rw[World.cell?_alloc_past _ _ _ Z];exact W
  clear V W
  by_cases G:D=I
  case pos=>
   have r:=zc (O.out.same HY.out (by rw[J.out,K.out];exact G));subst G;have d0:(if D<D then D else D)=D:=by simp
   go_wp2_with fail
   go_quiet (fail)
   go_wp2_with fail;go_roundw
   case rel=>exact⟨m,j+1,S,by omega,rfl,by go_num,r,zj.alloc C _,F.alloc _,zo (ze B _) _⟩
   case measure=>simp[intOf];omega
  have D1:=zj.frozen (zj.alloc C (Obj.cells #[.int .i64 y.a,.int .i64 y.b,.int .i64 y.cost] 134)) y.a.toNat;have E1:=zj.frozen (zj.alloc C (Obj.cells #[.int .i64 y.a,.int .i64 y.b,.int .i64 y.cost] 134)) y.b.toNat;have u0:¬y.a.toNat=y.b.toNat:=λe=>G (by rw[<-J.out,<-K.out,e])
  by_cases c0:I<D
  case pos=>
   have r:=zc (O.out.change M HY.out (n:=I) (by rw[J.out,K.out];exact G) (by rw[J.out,K.out];omega));have R0:(D != I)=true:=by simp[G]
   have Q0:min D I=I:=by omega
   have D0:min I D=I:=by omega
   go_wp2_with fail
   go_quiet (fail)
   go_wp2_with fail
   go_region
   go_wp2_with fail;go_roundw
   case rel=>exact⟨true,j+1,_,by omega,rfl,by go_num,r,xA.set (xA.set (zj.drewN (zj.alloc C _) _) _ _) _ _,((zj.drewN (F.alloc _) _).far (by simp;omega) _).far (by simp;omega) _,((zo (ze B _) _).setCell (by simp;omega) _).setCell (by simp;omega) _⟩
   case measure=>simp[intOf];omega
  have r:=zc (O.out.change M HY.out (n:=D) (by rw[J.out,K.out];exact G) (by rw[J.out,K.out];omega));have R0:(I != D)=true:=by simp only[bne_iff_ne];exact λe=>G e.symm
  have Q0:min D I=D:=by omega
  have D0:min I D=D:=by omega
  go_wp2_with fail
  go_quiet (fail)
  go_wp2_with fail
  go_region
  go_wp2_with fail;go_roundw
  case rel=>exact⟨true,j+1,_,by omega,rfl,by go_num,r,xA.set (xA.set (zj.drewN (zj.alloc C _) _) _ _) _ _,((zj.drewN (F.alloc _) _).far (by simp;omega) _).far (by simp;omega) _,((zo (ze B _) _).setCell (by simp;omega) _).setCell (by simp;omega) _⟩
  case measure=>simp[intOf];omega
end Go.Proofs.YtjcimdpldlamfaaGreatDoor
