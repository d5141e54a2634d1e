import Derived.Test.YtjcimdpldlamfaaGreatDoorBd5eecbcc6b1
namespace Go.Proofs.YtjcimdpldlamfaaGreatDoor
set_option maxRecDepth 100000
set_option maxHeartbeats 8000000
open Go.RowKit Go.Shelf Go.Sort
def yF(l:List zg):List Int:=l.flatMap λx=>[x.f,x.t]
theorem nB{l:List zg}{x:zg}:yF (l++[x])=yF l++[x.f,x.t]:=by simp[yF]
theorem xO:∀l:List zg,(yF l).length=2*l.length
 |[]=>rfl
 |x::l=>by
  show([x.f,x.t]++yF l).length=_;rw[Ag,xO l];simp;omega
theorem sp{l:List zg}{n:Int}:n∈yF l↔∃x,x∈l/\(n=x.f∨n=x.t):=by simp[yF]
theorem pD{l:List zg}{D S:List Int}(h:D.Pairwise (· < ·))(hm:∀x,x∈D↔x∈S)(hS:∀x,x∈yF l->x∈S):yA D none (xN l):=
 iX h λx hx=>⟨(hm _).2 (hS _ (sp.2 ⟨x,hx,.inl rfl⟩)),(hm _).2 (hS _ (sp.2 ⟨x,hx,.inr rfl⟩))⟩
theorem jG{A:List Int}(D:A.Pairwise (·<=·)):∀m,m<=A.length->kl A m (Lib.compactUpTo A.toArray m)/\(0<m->∃o,Lib.compactUpTo A.toArray m=o++[A.toArray[m-1]!])
 |0,_=>⟨by simpa[Lib.compactUpTo]using kl.start,λh=>by omega⟩
 |m+1,hm=>by
  obtain⟨h1,h2⟩:=jG D m (by omega);have hx:A[m]?=some A.toArray[m]! := by
   rw[List.getElem?_eq_getElem (by omega)];simp[getElem!_pos,show m<A.length by omega]
  rw[Lib.compactUpTo_succ];rcases Nat.eq_zero_or_pos m with rfl|h0
  ·have hk:Lib.keeps A.toArray 0=true:=Lib.keeps_lt_one _ 0 (by omega)
   rw[Aq hk];have e:Lib.compactUpTo A.toArray 0=[]:=by simp[Lib.compactUpTo]
   rw[e];exact⟨by simpa using kl.first hx,λ_=>⟨[],by simp⟩⟩
  obtain⟨o,C⟩:=h2 h0
  by_cases B:A.toArray[m]! = A.toArray[m-1]!
  ·rw[Lib.keeps_neg h0 B,Au (by simp),AR]
   rw[C]at h1⊢;rw[<-B]at h1⊢;exact⟨h1.same hx,λ_=>⟨o,by rw[Nat.add_sub_cancel]⟩⟩
  rw[Lib.keeps_pos B,Aq rfl];refine⟨?_,λ_=>⟨_,by rw[Nat.add_sub_cancel]⟩⟩;rw[C]at h1⊢;exact h1.new D hx λe=>B e.symm
def Zk(l:List Int)(w:World)(base:Nat)(e:Ending)(w':World):Prop:=∃A c D,Hid (D.Pairwise (· < ·)/\(∀x,x∈D↔x∈l)/\D.length<=l.length)/\e=.returned (.slice A D.length c)/\zI w' A c D/\Below base w w'
theorem fg(v:Value)(l:List Int)(w:World)(base:Nat)(A:Own yK 1 w base 3 v l)(B:base<=w.heap.size)(Z:l.length<=100000)(W:l.Pairwise (·<=·))(hi:∀x,x∈l->zM x) :
  Calls Tryz.prog 186 #[v] w (Zk l w base):=by
 have J:=(jG W l.length (Ay _)).1;have G:=J.mem;rw[AL]at G;rcases A.2 with⟨K,S⟩|⟨g,D,P,K,V,Y,H,U,_⟩
 ·rw[K]
  have E:l=[]:=List.eq_nil_of_length_eq_zero S;exact(Tryz.slices_Compact_int_empty none 0 w).mono λe w' ⟨he,hw⟩=>⟨none,0,[],zc ⟨.nil,by simp[E],AA _⟩,he,⟨Ay _,AA _,zU.nil⟩,by rw[hw];exact Ae _ _⟩
 rw[K]at A⊢;have T:=aq (A.holdsK (sz:=1) (λ_=>rfl) (by decide));refine(Tryz.slices_Compact_int g 0 D l w T (by omega) H).mono λe w' ⟨he,n,hw⟩=>?_;have C:(Lib.compact l).length<=l.length:=J.short;have I:(Lib.compact l++List.replicate (l.length-(Lib.compact l).length) (0:Int)).length=l.length:=by rw[Ag,List.length_replicate];omega
 have M:=A.sortWorld (sz:=1) (m:=n) (os:=#[]) (λ_=>rfl) (by decide) I;have L:w'=Go.Proofs.sortWorldK yK 1 w g 0 n (Lib.compact l++List.replicate (l.length-(Lib.compact l).length) (0:Int)).toArray #[]:=by
  rw[hw,jk];unfold Go.Proofs.sortWorldK;rw[grow_empty]
 rw[<-L]at M;have N:=M.cut nK (by decide) C;rw[List.take_left]at N;obtain⟨O,Q,R,F⟩:=rM N (λx X=>hi x ((G x).1 X));refine⟨O,Q,Lib.compact l,zc ⟨J.up,G,C⟩,?_,F,?_⟩
 ·rw[he,R]
 rw[L];exact kT V B
theorem aa(gl:Nat)(A B:Option Addr)(c d:Nat)(m r:List zg)(w:World)(hL:zj w gl 111 #[.slice A m.length c,.slice B r.length d])(hA:PiecesAt w A c m)(hB:PiecesAt w B d r)(i:m.length<=1000)(l:r.length<=1000) :
  Calls Tryz.prog 171 #[.slice (some ⟨gl,0,none⟩) 2 2] w (Zk (yF m++yF r) w w.heap.size):=by
 obtain⟨i0,hi,n,o,p⟩:=qA;have T:=zc hA;have U:=zc hB;clear hA hB
 go_enter Tryz.func171,Tryz.ntmps171
 go_wp2_with fail
 go_loopw [3,10] (λu v wr=>∃(j:Nat) (C:List Int),j<=2/\v=.int .i64 j/\Hid (C=if j=0 then [] else if j=1 then yF m else yF m++yF r)/\Own yK 1 wr w.heap.size 3 u C/\Below w.heap.size w wr) (λ_ v _=>2-(intOf v).toNat)
 case atStart=>exact⟨0,[],by omega,rfl,zc rfl,Own.nil,Ae _ _⟩
 obtain⟨j,C,hj,Z,J,F,E⟩:=hrel;obtain⟨q1,q2,q3⟩:=(hL.ext E).facts;have Y:=E.size;have I0:j=0∨j=1∨j=2:=by omega
 rcases I0 with rfl|rfl|rfl
 ·obtain rfl:C=[]:=J.out
  rw[show((0:Nat):Int)=0 from rfl]at Z;subst Z;clear hj J;obtain⟨q,O⟩:∃q:World,q=wr:=⟨_,rfl⟩;rw[<-O]at F E q1 q2 q3 Y⊢;clear O;have g0:=T.out.len;go_wp2_with fail
  go_loopw [3,16] (λu v s=>∃(k:Nat),k<=m.length/\v=.int .i64 k/\Own yK 1 s w.heap.size 3 u (([]:List Int)++yF (m.take k))/\Below w.heap.size w s) (λ_ v _=>m.length-(intOf v).toNat)
  case atStart=>exact⟨0,AA _,rfl,by simpa[yF]using F,E⟩
  clear F E;obtain⟨k,g,rfl,F,E⟩:=hrel;have K0:=E.size
  by_cases X:k<m.length
  case neg=>
   obtain rfl:k=m.length:=by omega
   rw[AL]at F;go_wp2_with fail;go_roundw
   case rel=>exact⟨1,_,by omega,by go_num,zc (by simp),F,E⟩
   case measure=>simp[intOf]
  obtain⟨x,G⟩:=zl X;obtain⟨b,L0,rfl,W,x0,x1,x2⟩:=T.out.get G;rw[<-E.cell (by exact W)]at x0 x1 x2;have HN:Hid (yF (m.take (k+1))=yF (m.take k)++[x.f,x.t]):=zc (by rw[ue G,nB]);have L:(([]:List Int)++yF (m.take k)).length+2<=1000000:=by
   have h1:=i;have h2:=l;simp only[Ag,xO,AE,AC];omega
  obtain⟨V,H⟩:∃V,V=([]:List Int)++yF (m.take k):=⟨_,rfl⟩;have R:=zc H;rw[<-H]at L F;clear G H;go_wp2_with (at_builtin;refine yf (enc:=yK) rfl (.tmp 20) (.tmp 25) 55 rfl w.heap.size 3 i0 _ 1 8 Tryz.underlying55 hi n o p rfl (by decide) _ V [x.f,x.t] 2 rfl rfl (F.alloc _) #[.int .i64 x.f,.int .i64 x.t] rfl (wr.heap.size+1) (by simp) rfl rfl jW L (by decide) (by simp;omega) ?_;intro v' w6 I K _)
  go_roundw
  case rel=>exact⟨k+1,by omega,by go_num,by rw[HN.out,<-List.append_assoc,<-R.out];exact I,(ze E _).trans K⟩
  case measure=>simp[intOf];omega
 ·obtain rfl:C=yF m:=J.out
  rw[show((1:Nat):Int)=1 from rfl]at Z;subst Z;clear hj J;obtain⟨q,O⟩:∃q:World,q=wr:=⟨_,rfl⟩;rw[<-O]at F E q1 q2 q3 Y⊢;clear O;have h0:=U.out.len;go_wp2_with fail
  go_loopw [3,16] (λu v s=>∃(k:Nat),k<=r.length/\v=.int .i64 k/\Own yK 1 s w.heap.size 3 u (yF m++yF (r.take k))/\Below w.heap.size w s) (λ_ v _=>r.length-(intOf v).toNat)
  case atStart=>exact⟨0,AA _,rfl,by simpa[yF]using F,E⟩
  clear F E;obtain⟨k,g,rfl,F,E⟩:=hrel;have K0:=E.size
  by_cases X:k<r.length
  case neg=>
   obtain rfl:k=r.length:=by omega
   rw[AL]at F;go_wp2_with fail;go_roundw
   case rel=>exact⟨2,_,by omega,by go_num,zc rfl,F,E⟩
   case measure=>simp[intOf]
  obtain⟨x,G⟩:=zl X;obtain⟨b,L0,rfl,W,x0,x1,x2⟩:=U.out.get G;rw[<-E.cell (by exact W)]at x0 x1 x2;have HN:Hid (yF (r.take (k+1))=yF (r.take k)++[x.f,x.t]):=zc (by rw[ue G,nB]);have L:(yF m++yF (r.take k)).length+2<=1000000:=by
   have h1:=i;have h2:=l;simp only[Ag,xO,AE];omega
  obtain⟨V,H⟩:∃V,V=yF m++yF (r.take k):=⟨_,rfl⟩;have R:=zc H;rw[<-H]at L F;clear G H;go_wp2_with (at_builtin;refine yf (enc:=yK) rfl (.tmp 20) (.tmp 25) 55 rfl w.heap.size 3 i0 _ 1 8 Tryz.underlying55 hi n o p rfl (by decide) _ V [x.f,x.t] 2 rfl rfl (F.alloc _) #[.int .i64 x.f,.int .i64 x.t] rfl (wr.heap.size+1) (by simp) rfl rfl jW L (by decide) (by simp;omega) ?_;intro v' w6 I K _)
  go_roundw
  case rel=>exact⟨k+1,by omega,by go_num,by rw[HN.out,<-List.append_assoc,<-R.out];exact I,(ze E _).trans K⟩
  case measure=>simp[intOf];omega
 have z:C=yF m++yF r:=J.out;rw[show((2:Nat):Int)=2 from rfl]at Z;subst Z;have HA:=zc z;have P:∀x,x∈C->zM x:=λx G=>by
  rw[z]at G;rcases AK.1 G with G|G
  ·obtain⟨y,hy,h⟩:=sp.1 G
   obtain⟨k,g⟩:=AM hy;have:=T.out.i64 g;rcases h with rfl|rfl
   ·exact this.1
   exact this.2.1
  obtain⟨y,hy,h⟩:=sp.1 G;obtain⟨k,g⟩:=AM hy;have:=U.out.i64 g;rcases h with rfl|rfl
  ·exact this.1
  exact this.2.1
 have E0:C.length<=100000:=by rw[z,Ag,xO,xO];omega
 have a:=zc P;clear hj J z P;go_wp2_with fail;refine(iI _ C wr w.heap.size F Y E0).mono ?_;rintro e w7 ⟨rfl,S,M,Q,N,O7,F0⟩;have K:=E.trans F0;have hC:=fg _ S w7 w.heap.size O7 K.size (by omega) N (λx G=>a.out x ((M x).1 G));have HM:=zc M;have B0:=zc Q;clear M Q N O7 F q1 q2 q3;go_wp2_with fail;refine hC.mono ?_
 rintro e w8 ⟨A8,c8,D,HD,rfl,D0,G0⟩;go_wp2_with fail;go_ret;exact⟨A8,c8,D,zc ⟨HD.out.1,λx=>by rw[HD.out.2.1,HM.out,HA.out],by rw[<-HA.out,<-B0.out];exact HD.out.2.2⟩,rfl,D0,K.trans G0⟩
open Go.RowKit Go.Shelf
theorem bL(A B:Option Addr)(c d:Nat)(m r:List zg)(w:World)(s:PiecesAt w A c m)(z:PiecesAt w B d r)(Z:m.length<=1000)(a:r.length<=1000) :
  Calls Tryz.prog 179 #[.slice A m.length c,.slice B r.length d] w (Zk (yF m++yF r) w w.heap.size):=by
 obtain⟨i0,hi,i,j,l⟩:=qA;have U:=zc s;have V:=zc z;have W0:=s.len;have X0:=z.len;clear s z
 go_enter Tryz.func179,Tryz.ntmps179
 go_wp2_with fail
 go_loopw [5,12] (λu v n=>∃(k:Nat),k<=m.length/\v=.int .i64 k/\Own yK 1 n w.heap.size 3 u (yF (m.take k))/\Below w.heap.size w n) (λ_ v _=>m.length-(intOf v).toNat)
 case atStart=>exact⟨0,AA _,rfl,Own.nil,Ae _ _⟩
 obtain⟨k,Y,rfl,G,J⟩:=hrel;have G0:=J.size
 by_cases T:k<m.length
 case pos=>
  obtain⟨x,C⟩:=zl T;obtain⟨b,H0,rfl,R,x0,x1,x2⟩:=U.out.get C;rw[<-J.cell (by exact R)]at x0 x1 x2;have q:Hid (yF (m.take (k+1))=yF (m.take k)++[x.f,x.t]):=zc (by rw[ue C,nB]);have K:(yF (m.take k)).length+2<=1000000:=by
   have h1:=Z;have h2:=a;simp only[xO,AE];omega
  obtain⟨Q,E⟩:∃Q,Q=yF (m.take k):=⟨_,rfl⟩;have P:=zc E;rw[<-E]at K G;clear C E;go_wp2_with (at_builtin;refine yf (enc:=yK) rfl (.tmp 16) (.tmp 21) 55 rfl w.heap.size 3 i0 _ 1 8 Tryz.underlying55 hi i j l rfl (by decide) _ Q [x.f,x.t] 2 rfl rfl (G.alloc _) #[.int .i64 x.f,.int .i64 x.t] rfl (wr.heap.size+1) (by simp) rfl rfl jW K (by decide) (by simp;omega) ?_;intro v' w6 F H _)
  go_roundw
  case rel=>exact⟨k+1,by omega,by go_num,by rw[q.out,<-P.out];exact F,(ze J _).trans H⟩
  case measure=>simp[intOf];omega
 obtain rfl:k=m.length:=by omega
 rw[AL]at G;obtain⟨wo,g⟩:∃wo:World,wo=wr:=⟨_,rfl⟩;rw[<-g]at G J G0⊢;clear g;go_wp2_with fail
 go_loopw [5,26] (λu v n=>∃(k:Nat),k<=r.length/\v=.int .i64 k/\Own yK 1 n w.heap.size 3 u (yF m++yF (r.take k))/\Below w.heap.size w n) (λ_ v _=>r.length-(intOf v).toNat)
 case atStart=>exact⟨0,AA _,rfl,by simpa[yF]using G,J⟩
 clear G J;obtain⟨k,Y,rfl,G,J⟩:=hrel;have F0:=J.size
 by_cases T:k<r.length
 case pos=>
  obtain⟨x,C⟩:=zl T;obtain⟨b,H0,rfl,R,x0,x1,x2⟩:=V.out.get C;rw[<-J.cell (by exact R)]at x0 x1 x2;have q:Hid (yF (r.take (k+1))=yF (r.take k)++[x.f,x.t]):=zc (by rw[ue C,nB]);have K:(yF m++yF (r.take k)).length+2<=1000000:=by
   have h1:=Z;have h2:=a;simp only[Ag,xO,AE];omega
  obtain⟨Q,E⟩:∃Q,Q=yF m++yF (r.take k):=⟨_,rfl⟩;have P:=zc E;rw[<-E]at K G;clear C E;go_wp2_with (at_builtin;refine yf (enc:=yK) rfl (.tmp 30) (.tmp 35) 55 rfl w.heap.size 3 i0 _ 1 8 Tryz.underlying55 hi i j l rfl (by decide) _ Q [x.f,x.t] 2 rfl rfl (G.alloc _) #[.int .i64 x.f,.int .i64 x.t] rfl (wr.heap.size+1) (by simp) rfl rfl jW K (by decide) (by simp;omega) ?_;intro v' w6 F H _)
  go_roundw
  case rel=>exact⟨k+1,by omega,by go_num,by rw[q.out,<-List.append_assoc,<-P.out];exact F,(ze J _).trans H⟩
  case measure=>simp[intOf];omega
 obtain rfl:k=r.length:=by omega
 rw[AL]at G;obtain⟨I,X⟩:∃I,I=yF m++yF r:=⟨_,rfl⟩;rw[<-X]at G;have HA:=zc X;have N:∀x,x∈I->zM x:=λx C=>by
  rw[X]at C;rcases AK.1 C with C|C
  ·obtain⟨y,hy,h⟩:=sp.1 C
   obtain⟨k,Y⟩:=AM hy;have:=U.out.i64 Y;rcases h with rfl|rfl
   ·exact this.1
   exact this.2.1
  obtain⟨y,hy,h⟩:=sp.1 C;obtain⟨k,Y⟩:=AM hy;have:=V.out.i64 Y;rcases h with rfl|rfl
  ·exact this.1
  exact this.2.1
 have B0:I.length<=100000:=by rw[X,Ag,xO,xO];omega
 have W:=zc N;clear X N;go_wp2_with fail;refine(iI _ I wr w.heap.size G F0 B0).mono ?_;rintro e w7 ⟨rfl,S,L,O,M,O7,C0⟩;have H:=J.trans C0;have hC:=fg _ S w7 w.heap.size O7 H.size (by omega) M (λx C=>W.out x ((L x).1 C));have HM:=zc L;have p:=zc O;clear L O M O7 G;go_wp2_with fail;refine hC.mono ?_;rintro e w8 ⟨A8,c8,D,o,rfl,A0,D0⟩
 go_wp2_with fail;go_ret;exact⟨A8,c8,D,zc ⟨o.out.1,λx=>by rw[o.out.2.1,HM.out,HA.out],by rw[<-HA.out,<-p.out];exact o.out.2.2⟩,rfl,A0,H.trans D0⟩
theorem OF{o p:Option Int}:o=p↔o.getD 0=p.getD 0/\o.isSome=p.isSome:=by
 cases o <;> cases p <;> simp
theorem Yn(A B:Option Addr)(c d n m:Nat)(o p:Option Int)(a b:List Int)(w:World)(M:zI w A c a)(N:zI w B d b)(W:a.length=n)(V:b.length=m) :
  Calls Tryz.prog 181 #[gE A n c o,gE B m d p] w λe X=>e=.returned (.bool (decide (a=b/\o=p)))/\Below w.heap.size w X:=by
 subst W V;have J:=zc M;have K:=zc N;have Y:=M.len;have Z:=N.len;clear M N;obtain⟨Q,D⟩:∃x,o.getD 0=x:=⟨_,rfl⟩;obtain⟨P,C⟩:∃x,o.isSome=x:=⟨_,rfl⟩;obtain⟨S,F⟩:∃x,p.getD 0=x:=⟨_,rfl⟩;obtain⟨R,E⟩:∃x,p.isSome=x:=⟨_,rfl⟩;have L:Hid (o=p↔Q=S/\P=R):=zc (by rw[OF,D,C,F,E]);unfold gE gD;rw[D,C,F,E];clear D C F E
 by_cases H:Q=S
 case neg=>
  have T:(Q== S)=false:=by simpa using H
  have G:Hid (decide (a=b/\o=p)=false):=zc (by simp[L.out,H]);rw[G.out];clear H
  go_enter Tryz.func181,Tryz.ntmps181
  go_wp2_with fail;go_ret;exact⟨rfl,by go_grown⟩
 case pos=>
 subst H
 by_cases I:P=R
 case neg=>
  have U:(P== R)=false:=by simpa using I
  have G:Hid (decide (a=b/\o=p)=false):=zc (by simp[L.out,I]);rw[G.out];clear I
  go_enter Tryz.func181,Tryz.ntmps181
  go_wp2_with fail;go_ret;exact⟨rfl,by go_grown⟩
 case pos=>
 subst I;have G:Hid (decide (a=b/\o=p)=decide (a=b)):=zc (by simp[L.out]);rw[G.out]
 go_enter Tryz.func181,Tryz.ntmps181
 go_wp2_with fail;refine(bo _ _ _ _ a b _ (J.out.ext (by go_grown)).sl (K.out.ext (by go_grown)).sl (Ai J.out.lc J.out.cm) (Ai K.out.lc K.out.cm)).mono ?_;rintro e f ⟨rfl,O⟩;go_wp2_with fail;go_ret;exact⟨rfl,za (by go_grown) O⟩
