import Derived.Test.YtjcimdpldlamfaaGreatDoorBd41e1ae0b04
namespace Go.Proofs.YtjcimdpldlamfaaGreatDoor
set_option maxRecDepth 100000
set_option maxHeartbeats 8000000
open Go.RowKit
theorem rm{w:World}{b:Nat}{l:List Int}(h:xA w b l):xA w.drew b l:=h
theorem vq{w:World}{b:Nat}{l:List Int}(h:xA w b l)(o:Obj):xA (w.alloc o) b l:=zj.alloc h o
theorem TK{A A' L:Option Addr}{c c' cl:Nat}{g:zf}{x:zA}{t:Int}(w:World)(hG:zv w A c A' c' g)(hV:zx g)(hx:xW g x)(hL:zU yY 4 w L x.legs)(ht0:0<=t)(ht1:t<=100)(h:first g x t=none) :
  Calls Tryz.prog 140 #[gV A c A' c' g,qj L cl x,.int .i64 t] w λe w'=>e=.returned (.tuple #[.int .i64 0,.int .i64 0,.bool false])/\Below w.heap.size w w':=
 (ai A A' L c c' cl g x t w hG hV hx hL (by have:=hx.six;unfold maxLen;omega) ht0 ht1).mono λe w' ⟨he,hb⟩=>⟨by rw[he,h];rfl,hb⟩
theorem aj{A A' L:Option Addr}{c c' cl:Nat}{g:zf}{x:zA}{t d te:Int}(w:World)(hG:zv w A c A' c' g)(hV:zx g)(hx:xW g x)(hL:zU yY 4 w L x.legs)(ht0:0<=t)(ht1:t<=100)(h:first g x t=some (d,te)) :
  Calls Tryz.prog 140 #[gV A c A' c' g,qj L cl x,.int .i64 t] w λe w'=>e=.returned (.tuple #[.int .i64 d,.int .i64 te,.bool true])/\Below w.heap.size w w':=
 (ai A A' L c c' cl g x t w hG hV hx hL (by have:=hx.six;unfold maxLen;omega) ht0 ht1).mono λe w' ⟨he,hb⟩=>⟨by rw[he,h];rfl,hb⟩
structure Ok(g:zf)(v t:Int)(l:List Int)(hs:List yy):Prop where
 early:yv g v t l
 hops:sZ g v t l hs λ_=>true
def Pk(g:zf)(v t:Int)(w:World)(e:Ending)(w':World):Prop:=∃l hs Al Ah,Hid (Ok g v t l hs)/\e=.returned (.agg #[.slice Al g.lives.length g.lives.length,.slice Ah g.lives.length g.lives.length]) /\
 zU ra 1 w' Al l/\zU mt 2 w' Ah hs/\Below w.heap.size w w'
theorem VQ{g:zf}{v t:Int}(ht:t<=100):iQ (pC g) g.lives.length zq (gi (wZ g v t)) (gi (wZ g v t)) (λ_=>false):=
 ⟨λ_=>Int.le_refl _,λi _=>nZ ht i,wM,λ_ _ _ h=>by simp at h,λ_ _ h=>by simp at h⟩
theorem Tl{g:zf}{j:Nat}{y:zA}(h:g.edges[j]?=some y):(pC g)[j]?=some (pq g y):=by simp[pC,h]
theorem Vi{n:Nat}{l:List Int}(hl:l.length=n)(h:∀i,i<n->gi l i=zq):l=List.replicate n zq:=
 wN (by simp[hl]) λi hi=>by rw[h i (by omega)];exact(vE (by simp[hl ▸ hi])).symm
theorem Sx{g:zf}(hV:zx g){v t:Int}{l:List Int}{done:Nat->Bool}(hl:l.length=g.lives.length)(h:iQ (pC g) g.lives.length zq (gi (wZ g v t)) (gi l) done)
  (hall:∀i,i<g.lives.length->done i=true∨zq<=gi l i):yv g v t l:=⟨hl,h.best hall (sI hV)⟩
theorem Qh(A A':Option Addr)(c c':Nat)(g:zf)(v t:Int)(w:World)(hG:zv w A c A' c' g)(S:zx g)(H1:0<=v)(I1:v<g.lives.length)(o2:0<=t)(p2:t<g.h) :
  Calls Tryz.prog 109 #[gV A c A' c' g,.int .i64 v,.int .i64 t] w (Pk g v t w):=by
 have J2:=S.nl;have f2:=S.h1;have v1:=lS g.lives.length (by omega);have u1:=Sq g.lives.length (by omega);have t1:=dF g.lives.length (by omega)
 go_enter Tryz.func109,Tryz.ntmps109
 go_upto_region 2 with fail
 go_cut [8] from 22 to 26 (λp wx=>∃g8 N X:Nat,p=.pointer (some ⟨g8,0,none⟩)/\zj wx g8 143 #[.slice (some ⟨N,0,none⟩) g.lives.length g.lives.length,.slice (some ⟨X,0,none⟩) g.lives.length g.lives.length] /\
  xA wx N (List.replicate g.lives.length 0)/\xE wx X (List.replicate g.lives.length ⟨0,0⟩)/\zj wx w.heap.size 68 (gC A c A' c' g)/\zj wx (w.heap.size+1) 143 #[.slice none 0 0,.slice none 0 0]/\Below w.heap.size w wx /\
  w.heap.size+1<g8/\w.heap.size+1<N/\w.heap.size+1<X/\N≠X/\N≠g8/\X≠g8)
 case first=>
  go_region
  all_goals (go_wp2_with fail;go_meet)
  ·refine⟨w.heap.size+1+1+1+1,w.heap.size+1+1,w.heap.size+1+1+1,rfl,?_,?_,?_,?_,?_,?_,?_,?_,?_,?_,?_,?_⟩
   ·exact zj.drew (zj.new_ (by simp))
   ·exact rm (vq (vq (xA.made (by simp)) _) _)
   ·exact xE.drew (xE.alloc (xE.made (by simp)) _)
   ·exact zj.drew (zj.alloc (zj.alloc (zj.alloc (zj.alloc (zj.new _ _ _) _) _) _) _)
   ·exact zj.drew (zj.alloc (zj.alloc (zj.alloc (zj.new_ (by simp)) _) _) _)
   ·exact zi (by go_grown)
   all_goals omega
  ·refine⟨w.heap.size+1+1+1,w.heap.size+1+1,w.heap.size+1+1+1+1,rfl,?_,?_,?_,?_,?_,?_,?_,?_,?_,?_,?_,?_⟩
   ·exact zj.drew (zj.alloc (zj.new_ (by simp)) _)
   ·exact rm (vq (vq (xA.made (by simp)) _) _)
   ·exact xE.drew (xE.made (by simp))
   ·exact zj.drew (zj.alloc (zj.alloc (zj.alloc (zj.alloc (zj.new _ _ _) _) _) _) _)
   ·exact zj.drew (zj.alloc (zj.alloc (zj.alloc (zj.new_ (by simp)) _) _) _)
   ·exact zi (by go_grown)
   all_goals omega
  ·refine⟨w.heap.size+1+1+1+1,w.heap.size+1+1+1,w.heap.size+1+1,rfl,?_,?_,?_,?_,?_,?_,?_,?_,?_,?_,?_,?_⟩
   ·exact zj.drew (zj.new_ (by simp))
   ·exact rm (vq (xA.made (by simp)) _)
   ·exact xE.drew (xE.alloc (xE.alloc (xE.made (by simp)) _) _)
   ·exact zj.drew (zj.alloc (zj.alloc (zj.alloc (zj.alloc (zj.new _ _ _) _) _) _) _)
   ·exact zj.drew (zj.alloc (zj.alloc (zj.alloc (zj.new_ (by simp)) _) _) _)
   ·exact zi (by go_grown)
   all_goals omega
  ·refine⟨w.heap.size+1+1+1,w.heap.size+1+1+1+1,w.heap.size+1+1,rfl,?_,?_,?_,?_,?_,?_,?_,?_,?_,?_,?_,?_⟩
   ·exact zj.drew (zj.alloc (zj.new_ (by simp)) _)
   ·exact rm (xA.made (by simp))
   ·exact xE.drew (xE.alloc (xE.alloc (xE.made (by simp)) _) _)
   ·exact zj.drew (zj.alloc (zj.alloc (zj.alloc (zj.alloc (zj.new _ _ _) _) _) _) _)
   ·exact zj.drew (zj.alloc (zj.alloc (zj.alloc (zj.new_ (by simp)) _) _) _)
   ·exact zi (by go_grown)
   all_goals omega
  ·refine⟨w.heap.size+1+1,w.heap.size+1+1+1,w.heap.size+1+1+1+1,rfl,?_,?_,?_,?_,?_,?_,?_,?_,?_,?_,?_,?_⟩
   ·exact zj.drew (zj.alloc (zj.alloc (zj.new_ (by simp)) _) _)
   ·exact rm (vq (xA.made (by simp)) _)
   ·exact xE.drew (xE.made (by simp))
   ·exact zj.drew (zj.alloc (zj.alloc (zj.alloc (zj.alloc (zj.new _ _ _) _) _) _) _)
   ·exact zj.drew (zj.alloc (zj.alloc (zj.alloc (zj.new_ (by simp)) _) _) _)
   ·exact zi (by go_grown)
   all_goals omega
  refine⟨w.heap.size+1+1,w.heap.size+1+1+1+1,w.heap.size+1+1+1,rfl,?_,?_,?_,?_,?_,?_,?_,?_,?_,?_,?_,?_⟩
  ·exact zj.drew (zj.alloc (zj.alloc (zj.new_ (by simp)) _) _)
  ·exact rm (xA.made (by simp))
  ·exact xE.drew (xE.alloc (xE.made (by simp)) _)
  ·exact zj.drew (zj.alloc (zj.alloc (zj.alloc (zj.alloc (zj.new _ _ _) _) _) _) _)
  ·exact zj.drew (zj.alloc (zj.alloc (zj.alloc (zj.new_ (by simp)) _) _) _)
  ·exact zi (by go_grown)
  all_goals omega
 clear v1 u1;obtain⟨g8,N,X,rfl,E,D,G,F,H,B,d1,d2,d3,d4,d5,d6⟩:=hcut;obtain⟨q1,q2,q3⟩:=E.facts;go_wp2_with fail
 go_loopw [30] (λx wr=>∃(k:Nat) (l:List Int),k<=g.lives.length/\x=.int .i64 k/\Hid (l.length=g.lives.length/\∀i,i<k->gi l i=zq)/\xA wr N l/\xE wr X (List.replicate g.lives.length ⟨0,0⟩) /\
  zj wr g8 143 #[.slice (some ⟨N,0,none⟩) g.lives.length g.lives.length,.slice (some ⟨X,0,none⟩) g.lives.length g.lives.length]/\zj wr w.heap.size 68 (gC A c A' c' g)/\zj wr (w.heap.size+1) 143 #[.slice none 0 0,.slice none 0 0]/\Below w.heap.size w wr) (λx _=>g.lives.length-(intOf x).toNat)
 case atStart=>exact⟨0,_,Nat.zero_le _,rfl,zc ⟨by simp,λi h=>by omega⟩,D,G,E,F,H,B⟩
 clear D G E F H B q1 q2 q3;obtain⟨k,l,hk,rfl,HL,D,G,E,F,H,B⟩:=hrel;obtain⟨q1,q2,q3⟩:=E.facts
 by_cases Z:k<g.lives.length
 case pos=>
  have hc:=D.cell (k:=k) (by rw[HL.out.1];exact Z);have Y:=zj.frozen D k;go_wp2_with fail;go_roundw
  case rel=>
   refine⟨k+1,l.set k zq,by omega,by go_num,zc ⟨by simp[HL.out.1],λi hi=>?_⟩,D.set k zq,G.far (by simp;omega) _,E.far (by simp;omega) _,F.far (by simp;omega) _,H.far (by simp;omega) _,B.setCell (by simp;omega) _⟩;rw[vX (by rw[HL.out.1];exact Z)]
   by_cases e:i=k
   ·rw[e,yD]
   rw[yx _ _ e];exact HL.out.2 i (by omega)
  case measure=>simp[intOf];omega
 have HR:=zc (Vi HL.out.1 (λi hi=>HL.out.2 i (by omega)));rw[HR.out]at D;clear HL HR;obtain⟨e1,e2,e3⟩:=F.facts;go_wp2_with fail;refine(xM _ _ _ _ g v t _ (hG.ext B) H1 I1).mono ?_;rintro e w2 ⟨rfl,T⟩;have D:=zj.ext D T;have G:=G.ext T;have E:=E.ext T;have F:=F.ext T;have H:=H.ext T;have B:=za B T;clear T q1 q2 q3 e1 e2 e3;obtain⟨q1,q2,q3⟩:=E.facts
 go_upto_if 41 with fail
 go_cut [] from 41 to 46 (λwx=>xA wx N (wZ g v t)/\xE wx X (List.replicate g.lives.length ⟨0,0⟩)/\zj wx g8 143 #[.slice (some ⟨N,0,none⟩) g.lives.length g.lives.length,.slice (some ⟨X,0,none⟩) g.lives.length g.lives.length]/\zj wx w.heap.size 68 (gC A c A' c' g)/\zj wx (w.heap.size+1) 143 #[.slice none 0 0,.slice none 0 0]/\Below w.heap.size w wx)
 case first=>
  have hc:=xA.cell D (k:=v.toNat) (by simp;omega);have Y:=zj.frozen D v.toNat
  cases B1:zn g v t
  case true=>
   have HS:=zc (SZ B1 H1 I1);go_wp2_with fail;go_meet;exact⟨by rw[<-HS.out];exact xA.set D _ _,G.far (by simp;omega) _,E.far (by simp;omega) _,F.far (by simp;omega) _,H.far (by simp;omega) _,B.setCell (by simp;omega) _⟩
  case false=>
   have HS:=zc (Ra B1);go_wp2_with fail;go_meet;exact⟨by rw[<-HS.out];exact D,G,E,F,H,B⟩
 clear D G E F H B q1 q2 q3;obtain⟨D,G,E,F,H,B⟩:=hcut;have k1:=zj.lt D;have k2:=G.lt;have k3:=E.lt;go_wp2_with fail;have J:=kM.made (w:=wc) (n:=g.lives.length) rfl;have D:=vq D (Obj.cells (madeCells #[Value.bool false] g.lives.length) 4);have G:=G.alloc (Obj.cells (madeCells #[Value.bool false] g.lives.length) 4);have E:=E.alloc (Obj.cells (madeCells #[Value.bool false] g.lives.length) 4)
 have F:=F.alloc (Obj.cells (madeCells #[Value.bool false] g.lives.length) 4);have H:=H.alloc (Obj.cells (madeCells #[Value.bool false] g.lives.length) 4);have B:=ze B (Obj.cells (madeCells #[Value.bool false] g.lives.length) 4);clear t1
 go_loopg [] g.lives.length (λgk wr=>∃(l:List Int) (hs:List yy) (r:List Bool),Hid (l.length=g.lives.length/\r.length=g.lives.length/\fO r<=gk/\iQ (pC g) g.lives.length zq (gi (wZ g v t)) (gi l) (gb r)/\sZ g v t l hs (gb r)) /\
  xA wr N l/\xE wr X hs/\kM wr wc.heap.size r/\zj wr g8 143 #[.slice (some ⟨N,0,none⟩) g.lives.length g.lives.length,.slice (some ⟨X,0,none⟩) g.lives.length g.lives.length]/\zj wr w.heap.size 68 (gC A c A' c' g)/\zj wr (w.heap.size+1) 143 #[.slice none 0 0,.slice none 0 0]/\Below w.heap.size w wr)
 case atStart=>exact⟨_,_,_,zc ⟨by simp[wZ],by simp,by rw[mp];exact Nat.le_refl _,by rw[jR];exact VQ (by omega),sZ.start⟩,D,G,J,E,F,H,B⟩
 clear D G J E F H B;obtain⟨l,hs,r,P,D,G,J,E,F,H,B⟩:=hrel;obtain⟨q1,q2,q3⟩:=E.facts;go_wp2_with fail;obtain⟨wo,rfl⟩:∃wo:World,wo=wr:=⟨_,rfl⟩
 go_loopw [11,52] (λx y wr=>∃(k:Nat) (z:Int),k<=g.lives.length/\y=.int .i64 k/\x=.int .i64 z/\Hid (sg (gi l) (gb r) zq k z)/\wo=wr) (λ_ y _=>g.lives.length-(intOf y).toNat)
 case atStart=>exact⟨0,-1,Nat.zero_le _,rfl,rfl,zc sg.zero,rfl⟩
 obtain⟨k,z,hk,rfl,rfl,HM,rfl⟩:=hrel
 by_cases Z:k<g.lives.length
 case pos=>
  have hc:=D.cell (k:=k) (by rw[P.out.1];exact Z);obtain⟨x,hx⟩:∃x,gb r k=x:=⟨_,rfl⟩;have hd:=J.cell (k:=k) (x:=x) (by rw[ZH (by rw[P.out.2.1];exact Z),hx]);obtain⟨n,hn⟩:∃n,gi l k=n:=⟨_,rfl⟩;rw[hn]at hc;have HX:=zc hx;have I0:=zc hn;clear hx hn
  cases x
  case true=>
   go_wp2_with fail;go_roundw
   case rel=>exact⟨k+1,z,by omega,by go_num,rfl,zc (HM.out.skip (.inl HX.out)),trivial⟩
   case measure=>simp[intOf];omega
  by_cases Y:n<1099511627776
  case neg=>
   have l0:decide (n<1099511627776)=false:=by simpa using Y
   go_wp2_with fail;go_roundw
   case rel=>exact⟨k+1,z,by omega,by go_num,rfl,zc (HM.out.skip (.inr (by rw[I0.out];simp only[zq];omega))),trivial⟩
   case measure=>simp[intOf];omega
  rcases HM.out.cases with⟨rfl,_⟩|⟨m,rfl,hm,_,_,_⟩
  ·go_wp2_with fail
   go_roundw
   case rel=>exact⟨k+1,k,by omega,by go_num,rfl,zc (HM.out.take HX.out (by rw[I0.out];exact Y) (λc h=>by omega)),trivial⟩
   case measure=>simp[intOf];omega
  have Q0:=D.cell (k:=m) (by rw[P.out.1];omega);obtain⟨q,hq⟩:∃q,gi l m=q:=⟨_,rfl⟩;rw[hq]at Q0;have HQ:=zc hq;clear hq;have M:m<g.lives.length:=by omega
  by_cases r1:n<q
  ·go_wp2_with fail
   go_roundw
   case rel=>exact⟨k+1,k,by omega,by go_num,rfl,zc (HM.out.less HX.out (by rw[I0.out];exact Y) (by rw[I0.out,HQ.out];exact r1)),trivial⟩
   case measure=>simp[intOf];omega
  go_wp2_with fail;go_roundw
  case rel=>exact⟨k+1,m,by omega,by go_num,rfl,zc (HM.out.stay (by rw[I0.out,HQ.out];omega)),trivial⟩
  case measure=>simp[intOf];omega
 rcases HM.out.cases with⟨rfl,Z0⟩|⟨m,rfl,hm,p0,hmf,e0⟩
 ·have HE:=zc (Sx S P.out.1 P.out.2.2.2.1 (λi hi=>Z0 i (by omega)))
  clear Z0;obtain⟨s1,s2,s3⟩:=H.facts;go_wp2_with fail;refine bodyPost_ret (v:=.agg #[.slice (some ⟨N,0,none⟩) g.lives.length g.lives.length,.slice (some ⟨X,0,none⟩) g.lives.length g.lives.length]) (by simp[results,Tryz.results109,go_sem,s1]) rfl ?_;refine⟨l,hs,_,_,zc ⟨HE.out,P.out.2.2.2.2.mono (λ_ _=>rfl)⟩,rfl,?_,?_,?_⟩
  ·refine xA.slAt (zj.far (zj.far D (by simp;omega) _) (by simp;omega) _) (λk hk=>?_)
   have h1:=HE.out.big (by omega) k;have h2:=HE.out.low S (by omega) (k:=k) (by rw[<-HE.out.1];exact hk);simp only[zq]at h1;exact⟨by omega,by omega⟩
  ·refine xE.slAt (xE.far (xE.far G (by simp;omega) _) (by simp;omega) _) (λx hx=>?_)
   have h1:=P.out.2.2.2.2.small x hx;exact⟨⟨by omega,by omega⟩,⟨by omega,by omega⟩⟩
  exact(B.setCell (by simp) _).setCell (by simp) _
 have M:m<g.lives.length:=by omega
 have N0:=zc p0;have Y1:=zc e0;have X1:=zc hmf;have hd:=J.cell (k:=m) (x:=false) (by rw[ZH (by rw[P.out.2.1];exact M),p0]);have Y:=zj.frozen J m;have H2:¬w.heap.size=wc.heap.size:=by omega
 obtain⟨e1,e2,e3⟩:=F.facts;clear p0 e0 hmf HM;go_wp2_with fail;have D:=zj.far D (p:=⟨wc.heap.size,m,none⟩) (by simp;omega) (.bool true);have G:=G.far (p:=⟨wc.heap.size,m,none⟩) (by simp;omega) (.bool true);have J:=J.set m true;have E:=E.far (p:=⟨wc.heap.size,m,none⟩) (by simp;omega) (.bool true);have F:=F.far (p:=⟨wc.heap.size,m,none⟩) (by simp;omega) (.bool true);have H:=H.far (p:=⟨wc.heap.size,m,none⟩) (by simp;omega) (.bool true)
 have B:=B.setCell (p:=⟨wc.heap.size,m,none⟩) (by simp;omega) (.bool true);obtain⟨wp,K1⟩:∃wp:World,wp=wo.setCell ⟨wc.heap.size,m,none⟩ (.bool true):=⟨_,rfl⟩;rw[<-K1]at D G J E F H B⊢;clear K1 hd Y q1 q2 q3 e1 e2 e3;obtain⟨bz,oz,hE⟩:=hG.edges
 go_loopw [90] (λx wr=>∃(j:Nat) (Q:List Int) (R:List yy),j<=g.edges.length/\x=.int .i64 j/\Hid (Q.length=g.lives.length/\UA (pC g) g.lives.length zq (gi (wZ g v t)) (gi l) (gi Q) (gb r) m j/\sZ g v t Q R (bC (gb r) m)) /\
  xA wr N Q/\xE wr X R/\kM wr wc.heap.size (r.set m true)/\zj wr g8 143 #[.slice (some ⟨N,0,none⟩) g.lives.length g.lives.length,.slice (some ⟨X,0,none⟩) g.lives.length g.lives.length]/\zj wr w.heap.size 68 (gC A c A' c' g)/\zj wr (w.heap.size+1) 143 #[.slice none 0 0,.slice none 0 0]/\Below w.heap.size w wr) (λx _=>g.edges.length-(intOf x).toNat)
 case atStart=>exact⟨0,l,hs,Nat.zero_le _,rfl,zc ⟨P.out.1,P.out.2.2.2.1.begin (λv hv hd=>Y1.out v (by omega) hd),P.out.2.2.2.2.mono (λu hu=>by unfold bC;split;(rfl);exact hu)⟩,D,G,J,E,F,H,B⟩
 clear D G J E F H B;obtain⟨j,Q,R,hj,rfl,I,D,G,J,E,F,H,B⟩:=hrel;have C2:g.edges.length<=(pC g).length:=by simp[pC]
 by_cases Z:j<g.edges.length
 case neg=>
  have HF:=zc (I.out.2.1.fin P.out.2.2.2.1 M N0.out (by simp[pC];omega));have HU:=zc (Ze (r:=r) (c:=m) (by rw[P.out.2.1];exact M) N0.out);have z0:=zc P.out.2.2.1;go_wp2_with fail
  go_roundg (gk-1)
  case rel=>exact⟨Q,R,_,zc ⟨I.out.1,by rw[List.length_set];exact P.out.2.1,by have:=HU.out;have:=z0.out;omega,by rw[Vm (by rw[P.out.2.1];exact M)];exact HF.out,by rw[Vm (by rw[P.out.2.1];exact M)];exact I.out.2.2⟩,D,G,J,E,F,H,B⟩
  case measure=>have:=HU.out;have:=z0.out;omega
 obtain⟨y,hy⟩:=zl Z;obtain⟨rfl,I2,⟨⟨x0,x1,L,cl,x2,g2,i2,hL⟩,_⟩⟩:=hE j y hy;have y0:=x0.now B;have y1:=x1.now B;have y2:=x2.now B;have O:=S.edges y (List.mem_of_getElem? hy);have HY:=zc (Tl hy);have f1:=zc hy;have T2:=O.a0;have U2:=O.a1;have K2:=S.ne;clear hy x0 x1 x2 C2
 by_cases T0:y.a=(m:Int)
 case neg=>
  have z1:(y.a != (m:Int))=true:=by simp[T0]
  have HS:=zc (I.out.2.1.skip HY.out (by simp only[pq];omega));clear T0;go_wp2_with fail;go_roundw
  case rel=>exact⟨j+1,Q,R,by omega,by go_num,zc ⟨I.out.1,HS.out,I.out.2.2⟩,vq D _,G.alloc _,zj.alloc J _,E.alloc _,F.alloc _,H.alloc _,ze B _⟩
  case measure=>simp[intOf];omega
 have z1:(y.a != (m:Int))=false:=by simp[T0]
 have g0:y.a.toNat=m:=by omega
 have J0:=zc g0;have V2:=O.b0;have T:=O.b1;have F0:y.b.toNat<g.lives.length:=by omega
 have d0:∀i,i<g.lives.length->t<=gi Q i:=λi hi=>by
  have:=I.out.2.1.above (λi=>if i<g.lives.length then t else 0) ⟨λi=>?_,λy hy=>?_⟩ i
  ·simpa[hi]using this
  ·by_cases hi:i<g.lives.length
   ·simp only[if_pos hi,yH hi];split <;> (try simp only[zq]) <;> omega
   simp only[if_neg hi,wT (show g.lives.length<=i by omega)];exact Int.le_refl _
  obtain⟨h1,h2,h3,h4⟩:=sI S y hy;obtain⟨x,hx,rfl⟩:=tg.1 hy;simp only[if_pos h1,if_pos h2];exact oM S (S.edges x hx) (by simp only[zq];omega)
 have G0:=D.cell (k:=y.b.toNat) (by rw[I.out.1];exact F0);have Q0:=D.cell (k:=m) (by rw[I.out.1];exact M);have B2:=d0 m M;have M0:=I.out.2.1.same;have F1:gi Q m<1099511627776:=by rw[M0];exact X1.out
 have r0:gi Q y.b.toNat<=zq:=Int.le_trans (I.out.2.1.le _) (P.out.2.2.2.1.big _ F0);obtain⟨p',q0⟩:∃p',gi Q y.b.toNat=p':=⟨_,rfl⟩;obtain⟨q',R0⟩:∃q',gi Q m=q':=⟨_,rfl⟩;rw[q0]at G0 r0;rw[R0]at Q0 B2 F1;have D0:=zc q0;have W:=zc R0;have Z1:=zc r0;have o:q'<=100:=by
  rcases I.out.2.2.come m M (by rw[R0];exact F1)with⟨_,h2,_⟩|⟨x,h,lg,_,h3,_,_,_,h5⟩
  ·omega
  have:=zT S (S.edges x (List.mem_of_getElem? h3)) h5;omega
 have C0:0<=q':=by omega
 clear q0 R0 r0 d0 M0 T0 g0;have m2:(0:Int)<=(m:Int):=by omega
 have n2:(m:Int)<(g.lives.length:Int):=by omega
 have n0:=zj.lt F;have n8:=E.lt;have nt:=zj.lt D;have nh:=G.lt;go_wp2_with fail;obtain⟨s,C1⟩:∃s,s=wr.heap.size:=⟨_,rfl⟩;have Ba:=zj.new wr 97 #[.int .i64 y.a,.int .i64 y.b,.slice L y.legs.length cl];have D:=vq D (Obj.cells #[.int .i64 y.a,.int .i64 y.b,.slice L y.legs.length cl] 97);have G:=G.alloc (Obj.cells #[.int .i64 y.a,.int .i64 y.b,.slice L y.legs.length cl] 97);have J:=zj.alloc J (Obj.cells #[.int .i64 y.a,.int .i64 y.b,.slice L y.legs.length cl] 97)
 have E:=E.alloc (Obj.cells #[.int .i64 y.a,.int .i64 y.b,.slice L y.legs.length cl] 97);have F:=F.alloc (Obj.cells #[.int .i64 y.a,.int .i64 y.b,.slice L y.legs.length cl] 97);have H:=H.alloc (Obj.cells #[.int .i64 y.a,.int .i64 y.b,.slice L y.legs.length cl] 97);have B:=ze B (Obj.cells #[.int .i64 y.a,.int .i64 y.b,.slice L y.legs.length cl] 97);rw[<-C1]at Ba n0 n8 nt nh⊢;obtain⟨V,J1⟩:∃V:World,V=wr.alloc (Obj.cells #[.int .i64 y.a,.int .i64 y.b,.slice L y.legs.length cl] 97):=⟨_,rfl⟩
 rw[<-J1]at Ba D G J E F H B⊢;clear C1 J1;have S0:V.cell? ⟨w.heap.size,0,none⟩=some (.int .i64 g.h)/\V.cell? ⟨w.heap.size,1,none⟩=some (.slice A g.lives.length c)/\V.cell? ⟨w.heap.size,2,none⟩=some (.slice (some ⟨bz,oz,none⟩) g.edges.length c')/\V.cell? ⟨s,0,none⟩=some (.int .i64 y.a)/\V.cell? ⟨s,1,none⟩=some (.int .i64 y.b)/\V.cell? ⟨s,2,none⟩=some (.slice L y.legs.length cl)/\V.cell? ⟨g8,0,none⟩=some (.slice (some ⟨N,0,none⟩) g.lives.length g.lives.length)/\V.cell? ⟨N,m,none⟩=some (.int .i64 q'):=
  ⟨by rw[F.cell];rfl,by rw[F.cell];rfl,by rw[F.cell];rfl,by rw[Ba.cell];rfl,by rw[Ba.cell];rfl,by rw[Ba.cell];rfl,by rw[E.cell];rfl,by rw[xA.cell D (by rw[I.out.1];exact M),W.out]⟩
 clear G0 Q0 y0 y1 y2
 cases Y:first g y q' with
 |none=>
  have HF:=zc Y;have HS:=zc (I.out.2.1.stay HY.out (by simp only[pq];rw[D0.out,W.out,fk Y];exact Z1.out));clear Y
  go_region_held3 (λK=>K.cell? ⟨w.heap.size,0,none⟩=some (.int .i64 g.h)/\K.cell? ⟨w.heap.size,1,none⟩=some (.slice A g.lives.length c)/\K.cell? ⟨w.heap.size,2,none⟩=some (.slice (some ⟨bz,oz,none⟩) g.edges.length c')/\K.cell? ⟨s,0,none⟩=some (.int .i64 y.a)/\K.cell? ⟨s,1,none⟩=some (.int .i64 y.b)/\K.cell? ⟨s,2,none⟩=some (.slice L y.legs.length cl)/\K.cell? ⟨g8,0,none⟩=some (.slice (some ⟨N,0,none⟩) g.lives.length g.lives.length)/\K.cell? ⟨N,m,none⟩=some (.int .i64 q'))
   (first|exact S0|exact dr C S0)
   (first|(go_at_call 140;refine(TK _ (hG.ext (za B (by go_grown))) S O (hL.ext yY.stable (za B (by go_grown))) C0 o HF.out).mono ?_;rintro e w5 ⟨rfl,U⟩;have C:Below V.heap.size V w5:=za (by go_grown) U))
  have D:=zj.ext D C;have G:=G.ext C;have J:=zj.ext J C;have E:=E.ext C;have F:=F.ext C;have H:=H.ext C;have B:=za B C;clear S0 U C;go_wp2_with fail;go_roundw
  case rel=>exact⟨j+1,Q,R,by omega,by go_num,zc ⟨I.out.1,HS.out,I.out.2.2⟩,D,G,J,E,F,H,B⟩
  case measure=>simp[intOf];omega
 |some p=>
  obtain⟨d,te⟩:=p;have HF:=zc Y;have v0:=zc (mN Y);have D1:=nD Y;obtain⟨Y2,⟨lg,l0⟩,_⟩:=D1;have D1:=zT S O l0;clear Y l0
  by_cases L0:te<p'
  case neg=>
   have HS:=zc (I.out.2.1.stay HY.out (by simp only[pq];rw[D0.out,W.out,v0.out];omega));have p1:decide (te<p')=false:=by simpa using L0
   go_region_held3 (λK=>K.cell? ⟨w.heap.size,0,none⟩=some (.int .i64 g.h)/\K.cell? ⟨w.heap.size,1,none⟩=some (.slice A g.lives.length c)/\K.cell? ⟨w.heap.size,2,none⟩=some (.slice (some ⟨bz,oz,none⟩) g.edges.length c')/\K.cell? ⟨s,0,none⟩=some (.int .i64 y.a)/\K.cell? ⟨s,1,none⟩=some (.int .i64 y.b)/\K.cell? ⟨s,2,none⟩=some (.slice L y.legs.length cl)/\K.cell? ⟨g8,0,none⟩=some (.slice (some ⟨N,0,none⟩) g.lives.length g.lives.length)/\K.cell? ⟨N,m,none⟩=some (.int .i64 q'))
    (first|exact S0|exact dr C S0)
    (first|(go_at_call 140;refine(aj _ (hG.ext (za B (by go_grown))) S O (hL.ext yY.stable (za B (by go_grown))) C0 o HF.out).mono ?_;rintro e w5 ⟨rfl,U⟩;have C:Below V.heap.size V w5:=za (by go_grown) U))
   have D:=zj.ext D C;have G:=G.ext C;have J:=zj.ext J C;have E:=E.ext C;have F:=F.ext C;have H:=H.ext C;have Ba:=Ba.ext C;have B:=za B C;have G0:=xA.cell D (k:=y.b.toNat) (by rw[I.out.1];exact F0);rw[D0.out]at G0;obtain⟨q1,q2,q3⟩:=E.facts;obtain⟨a1,a2,a3⟩:=Ba.facts;clear S0 U C;go_wp2_with fail;go_roundw
   case rel=>exact⟨j+1,Q,R,by omega,by go_num,zc ⟨I.out.1,HS.out,I.out.2.2⟩,D,G,J,E,F,H,B⟩
   case measure=>simp[intOf];omega
  have p1:decide (te<p')=true:=by simpa using L0
  have W1:=zc (I.out.2.1.step P.out.2.2.2.1 M N0.out HY.out (by simp only[pq];exact J0.out) (fj S O) (by simp only[pq];rw[W.out];exact oM S O (by simp only[zq];omega)));have E1:first g y (gi Q y.a.toNat)=some (d,te):=by rw[J0.out,W.out];exact HF.out
  have U1:=zc E1;clear E1;have V1:=zc (I.out.2.2.step S I.out.1 f1.out U1.out (by rw[J0.out,W.out];exact C0) (by rw[D0.out];exact L0) (by rw[J0.out];simp[bC]) (λu hu=>by
   rw[J0.out];simp only[bC]at hu
   split at hu
   ·rename_i e;rw[e];exact Int.le_refl _
   have h1:=P.out.2.2.2.1.near u m M hu N0.out;have h2:=I.out.2.1.olds u hu;have h3:=I.out.2.1.same;omega))
  have w0:Hid (gi (Q.set y.b.toNat te)=upd (gi Q) (pq g y).b (min (gi Q (pq g y).b) ((pq g y).f (gi Q m)))):=zc (by
   rw[vX (by rw[I.out.1];exact F0)];simp only[pq];rw[D0.out,W.out,v0.out]
   congr 1
   omega)
  go_region_held3 (λK=>K.cell? ⟨w.heap.size,0,none⟩=some (.int .i64 g.h)/\K.cell? ⟨w.heap.size,1,none⟩=some (.slice A g.lives.length c)/\K.cell? ⟨w.heap.size,2,none⟩=some (.slice (some ⟨bz,oz,none⟩) g.edges.length c')/\K.cell? ⟨s,0,none⟩=some (.int .i64 y.a)/\K.cell? ⟨s,1,none⟩=some (.int .i64 y.b)/\K.cell? ⟨s,2,none⟩=some (.slice L y.legs.length cl)/\K.cell? ⟨g8,0,none⟩=some (.slice (some ⟨N,0,none⟩) g.lives.length g.lives.length)/\K.cell? ⟨N,m,none⟩=some (.int .i64 q'))
   (first|exact S0|exact dr C S0)
   (first|(go_at_call 140;refine(aj _ (hG.ext (za B (by go_grown))) S O (hL.ext yY.stable (za B (by go_grown))) C0 o HF.out).mono ?_;rintro e w5 ⟨rfl,U⟩;have C:Below V.heap.size V w5:=za (by go_grown) U))
  have D:=zj.ext D C;have G:=G.ext C;have J:=zj.ext J C;have E:=E.ext C;have F:=F.ext C;have H:=H.ext C;have Ba:=Ba.ext C;have B:=za B C;have G0:=xA.cell D (k:=y.b.toNat) (by rw[I.out.1];exact F0);rw[D0.out]at G0;obtain⟨h0,m0⟩:=zl (show y.b.toNat<R.length by rw[I.out.2.2.len];exact F0);obtain⟨W2,X2⟩:=G.cell m0;have Z2:=G.frozen (y.b.toNat*2)
  have b2:=G.frozen (y.b.toNat*2+1);have c2:=zj.frozen D y.b.toNat;have o0:=zy m0;obtain⟨q1,q2,q3⟩:=E.facts;obtain⟨a1,a2,a3⟩:=Ba.facts;clear S0 U C m0;go_wp2_with fail
  go_region
  go_wp2_with fail;go_roundw
  case rel=>
   refine⟨j+1,Q.set y.b.toNat te,R.set y.b.toNat ⟨j,d⟩,by omega,by go_num,zc ⟨by rw[List.length_set];exact I.out.1,by rw[w0.out];exact W1.out,V1.out⟩,?_,?_,?_,?_,?_,?_,?_⟩
   ·exact zj.far (zj.far (xA.set (rm D) _ _) (by simp;omega) _) (by simp;omega) _
   ·exact xE.set (xE.far (xE.drew G) (by simp;omega) _) y.b.toNat ⟨j,d⟩ o0
   ·exact zj.far (zj.far (zj.far (zj.drew J) (by simp;omega) _) (by simp;omega) _) (by simp;omega) _
   ·exact zj.far (zj.far (zj.far (zj.drew E) (by simp;omega) _) (by simp;omega) _) (by simp;omega) _
   ·exact zj.far (zj.far (zj.far (zj.drew F) (by simp;omega) _) (by simp;omega) _) (by simp;omega) _
   ·exact zj.far (zj.far (zj.far (zj.drew H) (by simp;omega) _) (by simp;omega) _) (by simp;omega) _
   exact(((zi B).setCell (by simp;omega) _).setCell (by simp;omega) _).setCell (by simp;omega) _
  case measure=>simp[intOf];omega
set_option maxHeartbeats 1000000
def tq(g:zf)(v t:Int)(l:List Int):Prop:=if zm g v t=0 then yv g v t l else l=[]
theorem jC(A G:Option Addr)(c I:Nat)(g:zf)(v t:Int)(w:World)(J:zv w A c G I g) :
  Calls Tryz.prog 62 #[gV A c G I g,.int .i64 v,.int .i64 t] w (tQ (tq g v t) (zm g v t) w):=by
 by_cases D:zm g v t=0
 case neg=>
  have E:=zc D;have i:(zm g v t != 0)=true:=by simp[D]
  clear D
  go_enter Tryz.func62,Tryz.ntmps62
  go_wp2_with fail;refine(lW _ _ _ _ g v t _ (J.ext (by go_grown))).mono ?_;rintro e V ⟨X,Y,rfl,L,O,B⟩;go_wp2_with fail;go_ret2;exact⟨[],none,0,by unfold tq;rw[if_neg E.out],rfl,zU.nil,by simp,za (by go_grown) B⟩
 obtain⟨M,⟨R,S⟩,P,Q⟩:=uR D;have E:=zc D;have a:=M.h1;clear D
 go_enter Tryz.func62,Tryz.ntmps62
 go_wp2_with fail;refine(lW _ _ _ _ g v t _ (J.ext (by go_grown))).mono ?_;rw[E.out];rintro e V ⟨X,Y,rfl,L,O,B⟩;obtain⟨b,d,f,h⟩:=(zj.new w 68 (gC A c G I g)).go B;have F:Below w.heap.size w V:=za (by go_grown) B;clear B;go_wp2_with fail;refine(Qh _ _ _ _ g v t _ (J.ext F) M R S P Q).mono ?_;rintro e k ⟨l,j,H,W,T,rfl,K,_,N⟩;have C:=T.out.early.1
 have U:=zc C;clear C;have Z:∀w:World,(Instr.field 143 (.agg #[.slice H g.lives.length g.lives.length,.slice W g.lives.length g.lives.length]) 0).run Tryz.prog w=.ok (.slice H g.lives.length g.lives.length) w:=λ_=>by kernel_rfl
 go_wp2_with fail;go_ret2;rw[E.out];exact⟨l,H,g.lives.length,by unfold tq;rw[if_pos E.out];exact T.out.early,by rw[U.out];rfl,K,by rw[U.out];have:=M.nl;unfold maxLen;omega,za F N⟩
set_option maxHeartbeats 8000000
def vn(g:zf)(v t:Int)(l:List Int):Prop:=if zm g v t=0 then vO g v t l else l=[]
theorem vO.low{g:zf}{v t:Int}{l:List Int}(h:vO g v t l)(A:0<=t)(i:Nat):-1<=gi l i:=by
 have B:- gi l i<=- gi (vH g v t) i:=h.2.1.1 i;have C:=cJ (g:=g) (v:=v) A i;omega
theorem vO.high{g:zf}{v t:Int}{l:List Int}(hV:zx g)(h:vO g v t l)(ht:t<=100)(i:Nat):gi l i<=100:=Sl hV ht h.2.2 i
theorem Vh{n:Nat}{l:List Int}(hl:l.length=n)(h:∀i,i<n->gi l i=-1):l=List.replicate n (-1):=
 wN (by simp[hl]) λi hi=>by rw[h i (by omega)];exact(vE (by simp[hl ▸ hi])).symm
theorem mM(A A':Option Addr)(c O:Nat)(g:zf)(v t:Int)(w:World)(hG:zv w A c A' O g) :
  Calls Tryz.prog 64 #[gV A c A' O g,.int .i64 v,.int .i64 t] w (tQ (vn g v t) (zm g v t) w):=by
 by_cases h0:zm g v t=0
 case neg=>
  have Y:=zc h0;have hn:(zm g v t != 0)=true:=by simp[h0]
  clear h0
  go_enter Tryz.func64,Tryz.ntmps64
  go_wp2_with fail;refine(lW _ _ _ _ g v t _ (hG.ext (by go_grown))).mono ?_;rintro e F ⟨Ao,co,rfl,L0,P0,E⟩;go_wp2_with fail;go_ret2;exact⟨[],none,0,by unfold vn;rw[if_neg Y.out],rfl,zU.nil,by simp,za (by go_grown) E⟩
 obtain⟨M,⟨z,A0⟩,R,S1⟩:=uR h0;have Y:=zc h0;have N1:=M.h1;have s0:=M.nl;have j0:=lS g.lives.length (by omega);clear h0
 go_enter Tryz.func64,Tryz.ntmps64
 go_wp2_with fail;refine(lW _ _ _ _ g v t _ (hG.ext (by go_grown))).mono ?_;rw[Y.out];rintro e F ⟨Ao,co,rfl,L0,P0,E⟩;obtain⟨D,c1,c2,c3⟩:=(zj.new w 68 (gC A c A' O g)).go E;have B:Below w.heap.size w F:=za (by go_grown) E;clear E L0 P0;go_wp2_with fail;have C:=xA.made (w:=F) (n:=g.lives.length) rfl;have D:=D.alloc (Obj.cells (madeCells #[Value.int IntKind.i64 0] g.lives.length) 3)
 have B:=ze B (Obj.cells (madeCells #[Value.int IntKind.i64 0] g.lives.length) 3);have L1:w.heap.size<F.heap.size:=c3;clear c1 c2 c3
 go_loopw [32] (λx wr=>∃(k:Nat) (l:List Int),k<=g.lives.length/\x=.int .i64 k/\Hid (l.length=g.lives.length/\∀i,i<k->gi l i=-1)/\xA wr F.heap.size l/\zj wr w.heap.size 68 (gC A c A' O g)/\Below w.heap.size w wr)
  (λx _=>g.lives.length-(intOf x).toNat)
 case atStart=>exact⟨0,_,Nat.zero_le _,rfl,zc ⟨by simp,λi h=>by omega⟩,C,D,B⟩
 clear C D B;obtain⟨k,l,hk,rfl,f,C,D,B⟩:=hrel
 by_cases Q:k<g.lives.length
 case pos=>
  have hc:=C.cell (k:=k) (by rw[f.out.1];exact Q);have hf:=zj.frozen C k;go_wp2_with fail;go_roundw
  case rel=>
   refine⟨k+1,l.set k (-1),by omega,by go_num,zc ⟨by simp[f.out.1],λi hi=>?_⟩,C.set k (-1),D.far (by simp;omega) _,B.setCell (by simp;omega) _⟩;rw[vX (by rw[f.out.1];exact Q)]
   by_cases e:i=k
   ·rw[e,yD]
   rw[yx _ _ e];exact f.out.2 i (by omega)
  case measure=>simp[intOf];omega
 have HR:=zc (Vh f.out.1 (λi hi=>f.out.2 i (by omega)));rw[HR.out]at C;clear f HR j0;obtain⟨e1,e2,e3⟩:=D.facts
 cases G:zn g v t
 case false=>
  have HA:=zc G;have o:=zc (Sm G R M);clear G;go_wp2_with fail;refine(xM _ _ _ _ g v t _ (hG.ext B) z A0).mono ?_;rw[HA.out];rintro e w2 ⟨rfl,E⟩;have C:=zj.ext C E;have B:=za B E;go_wp2_with fail;go_ret2;rw[Y.out];exact⟨List.replicate g.lives.length (-1),some ⟨F.heap.size,0,none⟩,g.lives.length,by unfold vn;rw[if_pos Y.out];exact o.out,by rw[List.length_replicate];rfl,xA.slAt C (λk _=>by have h1:=o.out.low R k;have h2:=o.out.high M (by omega) k;exact⟨by omega,by omega⟩),by simp[maxLen];omega,B⟩
 have HA:=zc G;have X0:=zc (Rb G z A0);clear G;go_wp2_with fail;refine(xM _ _ _ _ g v t _ (hG.ext B) z A0).mono ?_;rw[HA.out];rintro e w2 ⟨rfl,E⟩;have C:=zj.ext C E;have D:=D.ext E;have B:=za B E;have hc:=xA.cell C (k:=v.toNat) (by simp;omega);have hf:=zj.frozen C v.toNat;clear E e1 e2 e3;go_wp2_with fail;have C:=xA.set C v.toNat t
 rw[X0.out]at C;have D:=D.far (p:=⟨F.heap.size,v.toNat,none⟩) (by simp;omega) (.int .i64 t);have B:=B.setCell (p:=⟨F.heap.size,v.toNat,none⟩) (by simp;omega) (.int .i64 t);clear hc hf
 go_loopg [12] (left (vH g v t)+1) (λgk m wr=>∃(b:Bool) (l:List Int),m=.bool b/\Hid ((b=true->left l<gk/\mu g v t l l false 0)/\(b=false->vO g v t l))/\Hid (l.length=g.lives.length) /\
  xA wr F.heap.size l/\zj wr w.heap.size 68 (gC A c A' O g)/\Below w.heap.size w wr)
 case atStart=>exact⟨true,_,rfl,zc ⟨λ_=>⟨Nat.lt_succ_self _,mu.start R⟩,λh=>by simp at h⟩,zc (by simp[vH]),C,D,B⟩
 clear C D B;obtain⟨m,l,rfl,HN,I0,C,D,B⟩:=hrel
 cases m
 case false=>
  have HQ:=zc (HN.out.2 rfl);go_wp2_with fail;go_ret2;rw[Y.out];have V:=I0.out;exact⟨l,some ⟨F.heap.size,0,none⟩,g.lives.length,by unfold vn;rw[if_pos Y.out];exact HQ.out,by rw[V];rfl,xA.slAt C (λk _=>by have h1:=HQ.out.low R k;have h2:=HQ.out.high M (by omega) k;exact⟨by omega,by omega⟩),by rw[V];unfold maxLen;omega,B⟩
 case true=>
  have HM:=zc (HN.out.1 rfl);clear HN I0;obtain⟨e1,e2,e3⟩:=D.facts;obtain⟨bz,oz,hE⟩:=hG.edges;go_wp2_with fail
  go_loopw [12,53] (λm x wr=>∃(b:Bool) (j:Nat) (W:List Int),j<=g.edges.length/\m=.bool b/\x=.int .i64 j/\Hid (mu g v t l W b j) /\
   xA wr F.heap.size W/\zj wr w.heap.size 68 (gC A c A' O g)/\Below w.heap.size w wr) (λ_ x _=>g.edges.length-(intOf x).toNat)
  case atStart=>exact⟨false,0,l,Nat.zero_le _,rfl,rfl,zc HM.out.2,C,D,B⟩
  clear C D B e1 e2 e3;obtain⟨m,j,W,hj,rfl,rfl,J,C,D,B⟩:=hrel
  by_cases Q:j<g.edges.length
  case neg=>
   have HG:=zc HM.out.1
   cases m
   case true=>
    have HT:=zc (J.out.less rfl);go_wp2_with fail
    go_roundg (gk-1)
    case rel=>exact⟨true,W,rfl,zc ⟨λ_=>⟨by have:=HT.out;have:=HG.out;omega,J.out.again⟩,λh=>by simp at h⟩,zc J.out.len,C,D,B⟩
    case measure=>have:=HG.out;omega
   case false=>
    have HQ:=zc (J.out.fin (show g.edges.length<=j by omega));go_wp2_with fail
    go_roundg (gk-1)
    case rel=>exact⟨false,W,rfl,zc ⟨λh=>by simp at h,λ_=>HQ.out⟩,zc J.out.len,C,D,B⟩
    case measure=>have:=HG.out;omega
  obtain⟨y,hy⟩:=zl Q;obtain⟨rfl,p0,⟨⟨x0,x1,L,U,x2,P1,Q1,hL⟩,_⟩⟩:=hE j y hy;have y0:=x0.now B;have y1:=x1.now B;have y2:=x2.now B;have I:=M.edges y (List.mem_of_getElem? hy);have K0:=zc hy;have I1:=I.a0;have J1:=I.a1;have K1:=I.b0;have E:=I.b1;have R1:=I.six;have t0:=M.ne;have n0:=D.lt;have nt:=zj.lt C;have P:=C.cell (k:=y.a.toNat) (by rw[J.out.len];omega)
  have O0:=C.cell (k:=y.b.toNat) (by rw[J.out.len];omega);obtain⟨p',s⟩:∃p',gi W y.a.toNat=p':=⟨_,rfl⟩;obtain⟨q',u⟩:∃q',gi W y.b.toNat=q':=⟨_,rfl⟩;rw[s]at P;rw[u]at O0;have N:=zc s;have q:=zc u;obtain⟨d,hd⟩:∃d,uB g y q'=d:=⟨_,rfl⟩;have Z:=zc hd;have g0:d<=100:=by rw[<-hd];exact VF M
  clear hy x0 x1 x2 s u hd;go_wp2_with fail;obtain⟨T,N0⟩:∃T,T=wr.heap.size:=⟨_,rfl⟩;have S:=zj.new wr 97 #[.int .i64 y.a,.int .i64 y.b,.slice L y.legs.length U];have C:=vq C (Obj.cells #[.int .i64 y.a,.int .i64 y.b,.slice L y.legs.length U] 97);have D:=D.alloc (Obj.cells #[.int .i64 y.a,.int .i64 y.b,.slice L y.legs.length U] 97);have B:=ze B (Obj.cells #[.int .i64 y.a,.int .i64 y.b,.slice L y.legs.length U] 97)
  rw[<-N0]at S n0 nt⊢;obtain⟨K,Q0⟩:∃K:World,K=wr.alloc (Obj.cells #[.int .i64 y.a,.int .i64 y.b,.slice L y.legs.length U] 97):=⟨_,rfl⟩;rw[<-Q0]at S C D B⊢;clear N0 Q0;have S0:K.cell? ⟨w.heap.size,0,none⟩=some (.int .i64 g.h)/\K.cell? ⟨w.heap.size,1,none⟩=some (.slice A g.lives.length c)/\K.cell? ⟨w.heap.size,2,none⟩=some (.slice (some ⟨bz,oz,none⟩) g.edges.length O)/\K.cell? ⟨T,0,none⟩=some (.int .i64 y.a)/\K.cell? ⟨T,1,none⟩=some (.int .i64 y.b)/\K.cell? ⟨T,2,none⟩=some (.slice L y.legs.length U)/\K.cell? ⟨F.heap.size,y.b.toNat,none⟩=some (.int .i64 q')/\K.cell? ⟨F.heap.size,y.a.toNat,none⟩=some (.int .i64 p'):=
   ⟨by rw[D.cell];rfl,by rw[D.cell];rfl,by rw[D.cell];rfl,by rw[S.cell];rfl,by rw[S.cell];rfl,by rw[S.cell];rfl,by rw[xA.cell C (by rw[J.out.len];omega),q.out],by rw[xA.cell C (by rw[J.out.len];omega),N.out]⟩
  clear P O0 y0 y1 y2
  go_region_held3 (λX=>X.cell? ⟨w.heap.size,0,none⟩=some (.int .i64 g.h)/\X.cell? ⟨w.heap.size,1,none⟩=some (.slice A g.lives.length c)/\X.cell? ⟨w.heap.size,2,none⟩=some (.slice (some ⟨bz,oz,none⟩) g.edges.length O)/\X.cell? ⟨T,0,none⟩=some (.int .i64 y.a)/\X.cell? ⟨T,1,none⟩=some (.int .i64 y.b)/\X.cell? ⟨T,2,none⟩=some (.slice L y.legs.length U)/\X.cell? ⟨F.heap.size,y.b.toNat,none⟩=some (.int .i64 q')/\X.cell? ⟨F.heap.size,y.a.toNat,none⟩=some (.int .i64 p'))
   (first|exact S0|exact dr H S0)
   (first|(go_at_call 110;refine(Qx _ _ L c O U g y q' _ (hG.ext (za B (by go_grown))) M I (hL.ext yY.stable (za B (by go_grown))) (by unfold maxLen;omega)).mono ?_;rw[Z.out];rintro e w5 ⟨rfl,M0⟩;have H:Below K.heap.size K w5:=za (by go_grown) M0))
  have C:=zj.ext C H;have D:=D.ext H;have S:=S.ext H;have B:=za B H;have P:=xA.cell C (k:=y.a.toNat) (by rw[J.out.len];omega);rw[N.out]at P;have M1:=zj.frozen C y.a.toNat;obtain⟨a1,a2,a3⟩:=S.facts;clear S0 M0 H
  by_cases r:d>p'
  case pos=>
   have HC:=zc (J.out.change M K0.out (d:=d) (by rw[q.out];exact Z.out) (by rw[N.out];exact r) g0);have i0:decide (d>p')=true:=by simpa using r
   go_wp2_with fail;go_roundw
   case rel=>exact⟨true,j+1,_,by omega,rfl,by go_num,HC,xA.set C _ _,D.far (by simp;omega) _,B.setCell (by simp;omega) _⟩
   case measure=>simp[intOf];omega
  have HC:=zc (J.out.same K0.out (by rw[q.out,N.out,Z.out];omega));have i0:decide (d>p')=false:=by simpa using r
  go_wp2_with fail;go_roundw
  case rel=>exact⟨m,j+1,W,by omega,rfl,by go_num,HC,C,D,B⟩
  case measure=>simp[intOf];omega
end Go.Proofs.YtjcimdpldlamfaaGreatDoor
