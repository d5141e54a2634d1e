import Derived.IntWalk
import Derived.Test.YtjcimdpldlamfaaGreatDoorBdc116324c0e
import Derived.Test.YtjcimdpldlamfaaGreatDoorBd52a5eed018
namespace Go.Proofs.YtjcimdpldlamfaaGreatDoor
open Go.RowKit
set_option maxHeartbeats 1000000
theorem Ww{α:Type}{a b:List α}(B:a.length=b.length){k:Nat}(A:a.length<=k)(h:a.take k=b.take k):a=b:=by
 rwa[List.take_of_length_le A,List.take_of_length_le (by omega)]at h
theorem Uv{α:Type}{a b:List α}{k:Nat}{x y:α}(B:a[k]?=some x)(C:b[k]?=some y)(h:a.take k=b.take k)(A:x=y):a.take (k+1)=b.take (k+1):=by
 rw[List.take_add_one,List.take_add_one,B,C,h,A]
theorem VP{α:Type}{a b:List α}{k:Nat}{x y:α}(C:a[k]?=some x)(B:b[k]?=some y)(A:¬x=y):¬a=b:=by
 rintro rfl;rw[C]at B;exact A (by simpa using B)
theorem eO(A B:Option Addr)(c d:Nat)(a b:List Int)(w:World)(F:zU ra 1 w A a)(G:zU ra 1 w B b)(T:a.length<=maxLen)(_:b.length<=maxLen) :
  Calls Tryz.prog 148 #[.slice A a.length c,.slice B b.length d] w λe Z=>e=.returned (.bool (decide (a=b)))/\Below w.heap.size w Z:=by
 unfold maxLen at T
 by_cases H:a.length=b.length
 case neg=>
  have J:((a.length:Int) != (b.length:Int))=true:=by simp;omega
  go_enter Tryz.func148,Tryz.ntmps148
  go_wp2_with fail;go_ret;exact⟨yW (by symm;simp;intro h;exact H (by rw[h])),Below.refl _ _⟩
 have J:((a.length:Int) != (b.length:Int))=false:=by simp;omega
 obtain⟨i,m,F⟩:=F;obtain⟨j,n,G⟩:=G;have S:=zc H;have W:a.length<=b.length:=by omega
 have X:b.length<=a.length:=by omega
 clear H
 go_enter Tryz.func148,Tryz.ntmps148
 go_wp2_with fail
 go_loopw [13] (λv wr=>∃k:Nat,k<=a.length/\v=.int .i64 k/\Hid (a.take k=b.take k)/\Below w.heap.size w wr) (λv _=>a.length-(intOf v).toNat)
 case atStart=>exact⟨0,Nat.zero_le _,rfl,zc (by simp),Below.refl _ _⟩
 obtain⟨k,l,rfl,M,E⟩:=hrel
 by_cases I:k<a.length
 ·obtain⟨x,K⟩:=zl I
  obtain⟨y,L⟩:=zl (show k<b.length by omega);obtain⟨rfl,U,Q,_⟩:=F k x K;obtain⟨rfl,V,R,_⟩:=G k y L;have f:=Q.now E;have g:=R.now E;simp only[Nat.mul_one]at f g;have N:=zc K;have O:=zc L;have P:k<b.length:=by omega
  clear F G K L Q R
  by_cases C:x=y
  ·have D:=zc C
   have Y:(x != y)=false:=by simp[C]
   clear C;go_wp2_with fail
   go_quiet (fail)
   go_wp2;go_roundw
   case rel=>exact⟨k+1,by omega,by go_num,zc (Uv N.out O.out M.out D.out),zo E _⟩
   case measure=>simp[intOf];omega
  have D:=zc C;have Y:(x != y)=true:=by simp[C]
  clear C;go_wp2_with fail
  go_quiet (fail)
  go_wp2;go_ret;exact⟨yW (by symm;simp;exact VP N.out O.out D.out),zo E _⟩
 go_wp2_with fail;go_ret;exact⟨yW (by symm;simp;exact Ww S.out (by omega) M.out),E⟩
open Go.Lib
theorem Qs{n:Int}(h:0<=n):itoa n=decDigits n.toNat:=by
 unfold itoa;rw[if_neg (by omega)]
theorem Sg{n:Int}(h:0<=n/\n<10000):(itoa n).length<=4:=by rw[Qs h.1];exact RT (by omega)
def bQ(l:List Int):Prop:=∀n∈l,0<=n/\n<10000
theorem dN:∀{l:List Int},bQ l->(tl l).length<=l.length*5
 |[],_=>by simp[tl]
 |n::l,h=>by
  have h1:=Sg (h n (by simp));have h2:=dN (l:=l) λm hm=>h m (by simp[hm]);have e:tl (n::l)=(32::itoa n)++tl l:=rfl;rw[e,List.length_append,List.length_cons,List.length_cons];omega
theorem nO{v:List UInt8}{l:List Int}(h:bQ l):(yg v l).length<=v.length+l.length*5+1:=by
 have:=dN h;unfold yg;rw[List.length_append,List.length_append];simp only[List.length_cons,List.length_nil];omega
theorem Yl{g:zf}(B:zx g):bQ [g.h]/\(∀x∈g.lives,bQ [x.f,x.t])/\∀x∈g.edges,bQ [x.a,x.b]/\x.legs.length<=6/\∀y∈x.legs,bQ [y.f,y.t,y.time,y.cost]:=by
 have h0:=B.h0;have h1:=B.h1;have A:=B.nl;refine⟨λn A=>?_,λx C n A=>?_,λx C=>?_⟩
 ·simp at A;omega
 ·have:=B.lives x C
  simp at A;omega
 have h:=B.edges x C;have a0:=h.a0;have a1:=h.a1;have b0:=h.b0;have b1:=h.b1;refine⟨λn A=>?_,h.six,λy D n A=>?_⟩
 ·simp at A;omega
 have:=h.legs y D;simp at A;omega
theorem eZ{g:zf}(C:zx g):(sN g).length<=8192:=by
 obtain⟨D,E,B⟩:=Yl C;have H:=nO (v:=yz) D;have M:=rI (f:=yj) (l:=g.lives) (m:=17) λx A=>nO (v:=xV) (E x A);have N:=rI (f:=sL) (l:=g.edges) (m:=159) λx A=>by
  have G:=nO (v:=xt) (B x A).1;have K:=rI (f:=qS) (l:=x.legs) (m:=24) λy F=>nO (v:=qf) ((B x A).2.2 y F);have L:=(B x A).2.1;have e:xt.length=4:=rfl;unfold sL;rw[List.length_append];simp only[List.length_cons,List.length_nil]at G;omega
 have I:=C.nl;have J:=C.ne;have e:yz.length=4:=rfl;unfold sN;rw[List.length_append,List.length_append];simp only[List.length_cons,List.length_nil]at H;omega
set_option maxHeartbeats 4000000
set_option maxRecDepth 100000
abbrev Pr(x:xz):Value:=.agg #[.int .i64 x.a,.int .i64 x.b,.int .i64 x.cost]
abbrev tn(A:Option Addr)(c:Nat)(A':Option Addr)(c':Nat)(s:zH):Array Value:=#[.slice A s.alive.length c,.slice A' s.arcs.length c']
theorem Yz{s:zH}{v:Int}(h:¬0<=v):uy s v=false:=by simp[uy];omega
theorem Yy{s:zH}{v:Int}(h:(s.alive.length:Int)<=v):uy s v=false:=by
 simp only[uy,Bool.and_eq_false_iff]
 right
 rw[List.getElem?_eq_none (by omega)];rfl
theorem WL{s:zH}{v:Int}{b:Bool}(h:0<=v)(A:s.alive[v.toNat]?=some b):uy s v=b:=by simp[uy,h,A]
theorem sF(A H:Option Addr)(c J:Nat)(s:zH)(v:Int)(I bs:Nat)(w:World)(D:wY w A c H J s)(P:zj w I 3 #[.int .i64 s.alive.length])(Q:zj w bs 86 (tn A c H J s)) :
  Calls Tryz.prog 133 #[.int .i64 v,.pointer (some ⟨I,0,none⟩),.pointer (some ⟨bs,0,none⟩)] w λe U=>e=.returned (.bool (uy s v))/\w=U:=by
 have V:s.alive.length<=9223372036854775807:=Nat.le_trans D.lc D.cm;obtain⟨R,W,X⟩:=P.facts;obtain⟨T,Y,Z⟩:=Q.facts;have F:=R 0;have G:=T 0;simp at F G;obtain⟨b,S,K⟩:=D.alive
 by_cases C:0<=v
 case neg=>
  have B:=zc (Yz (s:=s) C);have O:decide (0<=v)=false:=by simpa using C
  go_enter Tryz.func133,Tryz.ntmps133
  go_wp2_with fail;go_ret;exact⟨yW B.out.symm,rfl⟩
 by_cases M:(v:Int)<s.alive.length
 case neg=>
  have B:=zc (Yy (s:=s) (v:=v) (by omega));have O:decide (v<(s.alive.length:Int))=false:=by simpa using M
  go_enter Tryz.func133,Tryz.ntmps133
  go_wp2_with fail;go_ret;exact⟨yW B.out.symm,rfl⟩
 obtain⟨y,E⟩:=zl (show v.toNat<s.alive.length by omega);have B:=zc (WL C E);obtain⟨rfl,N,L⟩:=K _ y E;unfold oH zJ at L;simp only[Nat.mul_one]at L;clear K E
 go_enter Tryz.func133,Tryz.ntmps133
 go_wp2_with fail;go_ret;exact⟨yW B.out.symm,rfl⟩
theorem tO(A V:Option Addr)(c W:Nat)(s:zH)(w:World)(F:wY w A c V W s) :
  Calls Tryz.prog 105 #[sx A c V W s] w λe o=>e=.returned (.int .i64 (zW s))/\Below w.heap.size w o:=by
 have x:s.alive.length<=9223372036854775807:=Nat.le_trans F.lc F.cm;have z:s.arcs.length<=9223372036854775807:=Nat.le_trans F.lc' F.cm';have hmf:∀(fn:Fn) (first cap:Array Value) (w:World),(Instr.makeFunc fn first cap).run Tryz.prog w=.ok (.func fn first cap) w:=λ_ _ _ _=>rfl
 by_cases h:12<s.alive.length
 ·go_enter Tryz.func105,Tryz.ntmps105
  go_wp2_with fail;go_ret;exact⟨zC (kH (.inl h)).symm,by go_grown⟩
 by_cases i:30<s.arcs.length
 ·go_enter Tryz.func105,Tryz.ntmps105
  go_wp2_with fail;go_ret;exact⟨zC (kH (.inr i)).symm,by go_grown⟩
 obtain⟨b,n,T⟩:=F.arcs
 go_enter Tryz.func105,Tryz.ntmps105
 go_wp2_with fail
 go_loopw [24] (λv wr=>∃k:Nat,k<=s.arcs.length/\v=.int .i64 k/\Hid ((s.arcs.drop k).all (wD s)=s.arcs.all (wD s))/\Below w.heap.size w wr/\zj wr w.heap.size 86 (tn A c V W s)/\zj wr (w.heap.size+1) 3 #[.int .i64 s.alive.length])
  (λv _=>s.arcs.length-(intOf v).toNat)
 case atStart=>exact⟨0,Nat.zero_le _,rfl,zc rfl,by go_grown,(zj.new _ _ _).alloc _,zj.new_ (by simp)⟩
 obtain⟨k,u,rfl,I,B,D,E⟩:=hrel;obtain⟨d,f,g⟩:=D.facts
 by_cases L:k<s.arcs.length
 ·obtain⟨y,N⟩:=zl L
  obtain⟨rfl,X,⟨⟨Q,R,S⟩,_⟩⟩:=T k y N;have p:=Q.now B;have q:=R.now B;have r:=S.now B;have P:=xj N;have C:Hid ((y::s.arcs.drop (k+1)).all (wD s)=s.arcs.all (wD s)):=by rw[<-P];exact I
  clear T P N I Q R S
  cases O:uy s y.a
  case false=>
   have K:Hid (zW s=4):=zc (iG (by omega) (C.out.symm.trans (jz (by simp[wD,O]))));go_wp2_with fail;refine(sF _ _ _ _ s y.a _ _ _ (F.ext (ze B _)) (E.alloc _) (D.alloc _)).mono ?_;rw[O];rintro e U ⟨rfl,rfl⟩;go_wp2_with fail;go_ret;exact⟨zC K.out.symm,ze B _⟩
  cases G:uy s y.b
  case false=>
   have K:Hid (zW s=4):=zc (iG (by omega) (C.out.symm.trans (jz (by simp[wD,G]))));go_wp2_with fail;refine(sF _ _ _ _ s y.a _ _ _ (F.ext (ze B _)) (E.alloc _) (D.alloc _)).mono ?_;rw[O];rintro e U ⟨rfl,rfl⟩;go_wp2_with fail;refine(sF _ _ _ _ s y.b _ _ _ (F.ext (ze B _)) (E.alloc _) (D.alloc _)).mono ?_;rw[G];rintro e U ⟨rfl,rfl⟩
   go_wp2_with fail;go_ret;exact⟨zC K.out.symm,ze B _⟩
  have M:Hid ((s.arcs.drop (k+1)).all (wD s)=s.arcs.all (wD s)):=zc ((jA (by simp[wD,O,G])).symm.trans C.out);clear C;go_wp2_with fail;refine(sF _ _ _ _ s y.a _ _ _ (F.ext (ze B _)) (E.alloc _) (D.alloc _)).mono ?_;rw[O];rintro e U ⟨rfl,rfl⟩;go_wp2_with fail;refine(sF _ _ _ _ s y.b _ _ _ (F.ext (ze B _)) (E.alloc _) (D.alloc _)).mono ?_
  rw[G];rintro e U ⟨rfl,rfl⟩;go_wp2_with fail;go_roundw
  case rel=>exact⟨k+1,by omega,by go_num,M,ze B _,D.alloc _,E.alloc _⟩
  case measure=>simp[intOf];omega
 have J:s.arcs.all (wD s)=true:=by rw[<-I.out,vg (by omega)];rfl
 have H:=zc J;clear J I;obtain⟨Z,rfl⟩:∃Z:World,Z=wr:=⟨_,rfl⟩;go_wp2_with fail
 go_loopw [44] (λv wr=>∃k:Nat,k<=s.arcs.length/\v=.int .i64 k/\Hid ((s.arcs.drop k).all ri=s.arcs.all ri)/\Below w.heap.size w wr)
  (λv _=>s.arcs.length-(intOf v).toNat)
 case atStart=>exact⟨0,Nat.zero_le _,rfl,zc rfl,B⟩
 clear B D E d f g;obtain⟨j,t,rfl,I,B⟩:=hrel
 by_cases L:j<s.arcs.length
 ·obtain⟨y,N⟩:=zl L
  obtain⟨rfl,X,⟨⟨Q,R,S⟩,_⟩⟩:=T j y N;have p:=Q.now B;have q:=R.now B;have r:=S.now B;have P:=xj N;have C:Hid ((y::s.arcs.drop (j+1)).all ri=s.arcs.all ri):=by rw[<-P];exact I
  clear T P N I Q R S
  by_cases Y:0<=y.cost/\y.cost<=1000
  ·have M:Hid ((s.arcs.drop (j+1)).all ri=s.arcs.all ri):=zc ((jA (by simp[ri,Y])).symm.trans C.out)
   obtain⟨l,m⟩:=Y;clear C;go_wp2_with fail;go_roundw
   case rel=>exact⟨j+1,by omega,by go_num,M,ze B _⟩
   case measure=>simp[intOf];omega
  have K:Hid (zW s=1):=zc (Yd (by omega) H.out (C.out.symm.trans (jz (by simp only[ri,decide_eq_false_iff_not];exact Y))));go_wp2_with fail
  all_goals go_ret
  all_goals exact⟨zC K.out.symm,ze B _⟩
 have K:Hid (zW s=0):=zc (cB (by omega) H.out (by rw[<-I.out,vg (by omega)];rfl));go_wp2_with fail;go_ret;exact⟨zC K.out.symm,B⟩
structure mr(s:zH)(l0 l:List Int)(more:Bool)(j:Nat):Prop where
 len:l.length=s.alive.length
 le:∀i,gi l i<=gi (wy s) i
 above:wV (sA s nb true) (gi (wy s)) (gi l)
 tot:uW l<=uW l0
 less:more=true->uW l<uW l0
 told:more=false->∀a,a∈s.arcs.take j->gi l a.a.toNat=gi l a.b.toNat
section
variable {s:zH}{l0 l:List Int}{more:Bool}{j:Nat}
theorem mr.pos(h:mr s l0 l more j)(i:Nat):0<=gi l i:=
 qy h.above (gy s) (λx hx=>by obtain⟨a,_,rfl|⟨_,rfl⟩⟩:=hx <;> simp[rc,iU,nb]) i
theorem mr.start:mr s (wy s) (wy s) false 0:=⟨by simp[wy],λ_=>Int.le_refl _,wM,Nat.le_refl _,λh=>by simp at h,λ_ a ha=>by simp at ha⟩
theorem mr.again(h:mr s l0 l more j):mr s l l false 0:=⟨h.len,h.le,h.above,Nat.le_refl _,λh=>by simp at h,λ_ a ha=>by simp at ha⟩
theorem mr.same(h:mr s l0 l more j){y:xz}(D:s.arcs[j]?=some y)(B:gi l y.a.toNat=gi l y.b.toNat):mr s l0 l more (j+1):=
 ⟨h.len,h.le,h.above,h.tot,h.less,λC a A=>by
  rw[List.take_add_one,D]at A;rcases List.mem_append.1 A with A|A
  ·exact h.told C a A
  obtain rfl:a=y:=by simpa using A
  exact B⟩
theorem mr.change(h:mr s l0 l more j)(O:pZ s){y:xz}(P:s.arcs[j]?=some y)(E:¬gi l y.a.toNat=gi l y.b.toNat){n:Int}(L:min (gi l y.a.toNat) (gi l y.b.toNat)=n) :
  mr s l0 ((l.set y.a.toNat n).set y.b.toNat n) true (j+1):=by
 have D:=List.mem_of_getElem? P;have H:=O.arcs y D;have S:=H.a1;have T:=H.b1;have K:=h.len;have A:¬y.b.toNat=y.a.toNat:=λe=>E (by rw[e]);have F:gi (l.set y.a.toNat n)=upd (gi l) y.a.toNat n:=vX (by omega) n;have G:gi ((l.set y.a.toNat n).set y.b.toNat n)=upd (upd (gi l) y.a.toNat n) y.b.toNat n:=by rw[vX (by simp;omega),F]
 have J:gi (l.set y.a.toNat n) y.b.toNat=gi l y.b.toNat:=by rw[F,yx _ _ A]
 have M:=h.pos y.a.toNat;have N:=h.pos y.b.toNat;have U:=gP (l:=l) (i:=y.a.toNat) (by omega) n;have R:=gP (l:=l.set y.a.toNat n) (i:=y.b.toNat) (by simp;omega) n;rw[J]at R;have C:uW ((l.set y.a.toNat n).set y.b.toNat n)<uW l0:=by have:=h.tot;omega
 have I:wV (sA s nb true) (gi (wy s)) (upd (gi l) y.a.toNat n):=by
  have:=h.above.upd h.above (x:=iU nb y) ⟨y,D,.inr ⟨rfl,rfl⟩⟩ (rK _) (Int.le_refl _);simp only[iU,nb,Int.add_zero]at this
  rwa[L]at this
 have Q:wV (sA s nb true) (gi (wy s)) (upd (upd (gi l) y.a.toNat n) y.b.toNat n):=by
  have:=I.upd I (x:=rc nb y) ⟨y,D,.inl rfl⟩ (rK _) (Int.le_refl _);simp only[rc,nb,Int.add_zero,yD]at this;rw[yx _ _ A,show min (gi l y.b.toNat) n=n by omega]at this;exact this
 refine⟨by simp[K],λi=>?_,by rw[G];exact Q,by omega,λ_=>C,λe=>by simp at e⟩;rw[G]
 by_cases B:i=y.b.toNat
 ·rw[B,yD];have:=h.le y.b.toNat;omega
 rw[yx _ _ B]
 by_cases B:i=y.a.toNat
 ·rw[B,yD];have:=h.le y.a.toNat;omega
 rw[yx _ _ B];exact h.le i
theorem mr.fin(h:mr s l0 l false j)(C:s.arcs.length<=j):tR s l:=by
 refine⟨h.len,⟨h.le,λx D=>?_⟩,h.above⟩;obtain⟨a,A,B⟩:=D;have:=h.told rfl a (by rw[List.take_of_length_le C];exact A);rcases B with rfl|⟨_,rfl⟩ <;> simp only[rc,iU,nb] <;> omega
def nk(s:zH)(l:List Int)(k:Nat):Prop:=l.length=s.alive.length/\∀i,i<k->gi l i=gi (wy s) i
theorem nk.zero:nk s (List.replicate s.alive.length 0) 0:=⟨by simp,λi h=>by omega⟩
theorem nk.next{k:Nat}(h:nk s l k)(A:k<s.alive.length){x:Int}(B:gi (wy s) k=x):nk s (l.set k x) (k+1):=by
 refine⟨by simp[h.1],λi C=>?_⟩;rw[vX (by rw[h.1];exact A)]
 by_cases e:i=k
 ·rw[e,yD,B]
 rw[yx _ _ e];exact h.2 i (by omega)
theorem nk.fin{k:Nat}(h:nk s l k)(hk:s.alive.length<=k):l=wy s:=wN (by simp[h.1,wy]) λi hi=>h.2 i (by have:=h.1;omega)
theorem Sk{k:Nat}(A:s.alive[k]?=some true):gi (wy s) k=k:=by rw[ay (zy A),if_pos A]
theorem Qw{k:Nat}(A:s.alive[k]?=some false):gi (wy s) k=vN:=by rw[ay (zy A),if_neg (by simp[A])]
def pV(s:zH)(l:List Int)(k:Nat):Prop:=l.length=s.alive.length/\(∀i,i<k->s.alive[i]?=some true->gi l i=0)/\(∀i,i<k->s.alive[i]?=some false->gi l i=vN)/\∀i,k<=i->gi l i=0
theorem pV.zero:pV s (List.replicate s.alive.length 0) 0:=
 ⟨by simp,λi h=>by omega,λi h=>by omega,λi _=>by
  by_cases h:i<s.alive.length
  ·exact vE (by simp[h])
  exact nF (by simp;omega)⟩
theorem pV.alive{k:Nat}(h:pV s l k)(hk:s.alive[k]?=some true):pV s l (k+1):=
 ⟨h.1,λi hi ha=>by
  by_cases e:i=k
  ·rw[e];exact h.2.2.2 k (Nat.le_refl _)
  ·exact h.2.1 i (by omega) ha,λi hi ha=>by
  by_cases e:i=k
  ·rw[e,hk]at ha;simp at ha
  exact h.2.2.1 i (by omega) ha,λi hi=>h.2.2.2 i (by omega)⟩
theorem pV.dead{k:Nat}(h:pV s l k)(D:s.alive[k]?=some false):pV s (l.set k vN) (k+1):=by
 have E:=zy D;have B:gi (l.set k vN)=upd (gi l) k vN:=vX (by rw[h.1];exact E) vN;refine⟨by simp[h.1],λi C A=>?_,λi C A=>?_,λi C=>?_⟩
 ·rw[B]
  by_cases e:i=k
  ·rw[e,D]at A;simp at A
  rw[yx _ _ e];exact h.2.1 i (by omega) A
 ·rw[B]
  by_cases e:i=k
  ·rw[e,yD]
  rw[yx _ _ e];exact h.2.2.1 i (by omega) A
 rw[B,yx _ _ (by omega)];exact h.2.2.2 i (by omega)
structure Te(s:zH)(l:List Int)(j:Nat):Prop where
 len:l.length=s.alive.length
 low:∀i,0<=gi l i
 al:∀i,s.alive[i]?=some true->gi l i+iv i (s.arcs.drop j)=iv i s.arcs
 dead:∀i,s.alive[i]?=some false->gi l i=vN
theorem pV.fin{k:Nat}(h:pV s l k)(B:s.alive.length<=k):Te s l 0:=by
 refine⟨h.1,λi=>?_,λi A=>?_,λi A=>?_⟩
 ·cases A:s.alive[i]? with
  |none=>
   rw[nF (by rw[h.1];exact List.getElem?_eq_none_iff.1 A)];exact Int.le_refl _
  |some b=>
   have:=zy A
   cases b with
   |true=>rw[h.2.1 i (by omega) A];exact Int.le_refl _
   |false=>rw[h.2.2.1 i (by omega) A];simp[vN]
 ·have:=zy A
  rw[h.2.1 i (by omega) A,List.drop_zero,Int.zero_add]
 have:=zy A;exact h.2.2.1 i (by omega) A
theorem Te.step(h:Te s l j)(H:pZ s){y:xz}(E:s.arcs[j]?=some y):Te s (l.set y.a.toNat (gi l y.a.toNat+1)) (j+1):=by
 have D:=H.arcs y (List.mem_of_getElem? E);have F:=D.a1;have C:gi (l.set y.a.toNat (gi l y.a.toNat+1))=upd (gi l) y.a.toNat (gi l y.a.toNat+1):=vX (by rw[h.len];exact F) _;refine⟨by simp[h.len],λi=>?_,λi B=>?_,λi B=>?_⟩
 ·rw[C]
  have:=h.low y.a.toNat
  by_cases e:i=y.a.toNat
  ·rw[e,yD];omega
  rw[yx _ _ e];exact h.low i
 ·have A:=h.al i B
  rw[xj E]at A;rw[C]
  by_cases e:i=y.a.toNat
  ·rw[e,yD]
   rw[e]at A;simp only[iv,if_true]at A;omega
  rw[yx _ _ e];simp only[iv,if_neg (λk=>e k.symm:¬y.a.toNat=i)]at A;exact A
 rw[C];have G:=D.al
 by_cases e:i=y.a.toNat
 ·rw[e,G]at B;simp at B
 rw[yx _ _ e];exact h.dead i B
theorem Te.fin(h:Te s l j)(C:s.arcs.length<=j):l=jH s:=
 wN (by simp[h.len,jH]) λi B=>by
  have hi':i<s.alive.length:=by rw[<-h.len];exact B
  rw[WZ hi']
  cases A:s.alive[i]? with
  |none=>exact absurd (List.getElem?_eq_none_iff.1 A) (by omega)
  |some b=>
   cases b with
   |true=>
    have:=h.al i A;rw[List.drop_eq_nil_of_le C]at this;simp only[iv,Int.add_zero]at this;rw[if_pos rfl,this]
   |false=>rw[if_neg (by simp),h.dead i A]
end
def xE(w:World)(b:Nat)(hs:List yy):Prop:=∃cs,zj w b 64 cs/\∀k h,hs[k]?=some h->cs[k*2]?=some (.int .i64 h.edge)/\cs[k*2+1]?=some (.int .i64 h.depart)
theorem QE(z:Value)(n:Nat):madeCells #[z,z] n=(List.replicate n z).toArray:=by
 apply Array.toList_inj.1
 apply List.ext_getElem?
 intro j
 by_cases B:j<n
 ·have A:j % 2=0∨j % 2=1:=by omega
  rcases A with A|A <;> simp[madeCells,B,A]
 simp[madeCells,B]
section
variable {w w':World}{b:Nat}{hs:List yy}
theorem xE.made{n:Nat}(C:b=w.heap.size):xE (w.alloc (.cells (madeCells #[.int .i64 0,.int .i64 0] (n*2)) 64)) b (List.replicate n ⟨0,0⟩):=by
 refine⟨_,zj.new_ C,λk h B=>?_⟩;have A:=zy B;simp only[List.length_replicate]at A;rw[List.getElem?_replicate,if_pos A]at B;obtain rfl:(⟨0,0⟩:yy)=h:=by simpa using B
 rw[QE]
 constructor
 ·rw[List.getElem?_toArray,List.getElem?_replicate,if_pos (by omega)]
 rw[List.getElem?_toArray,List.getElem?_replicate,if_pos (by omega)]
theorem xE.lt(h:xE w b hs):b<w.heap.size:=by obtain⟨A,h,_⟩:=h;exact h.lt
theorem xE.frozen(h:xE w b hs)(i:Nat):w.frozen? ⟨b,i,none⟩=false:=by obtain⟨A,h,_⟩:=h;exact h.frozen i
theorem xE.cell(h:xE w b hs){k:Nat}{x:yy}(B:hs[k]?=some x):w.cell? ⟨b,k*2,none⟩=some (.int .i64 x.edge)/\w.cell? ⟨b,k*2+1,none⟩=some (.int .i64 x.depart):=by
 obtain⟨C,h,A⟩:=h;rw[h.cell,h.cell];exact A k x B
theorem xE.ext(h:xE w b hs)(B:Below w.heap.size w w'):xE w' b hs:=by obtain⟨A,h,C⟩:=h;exact⟨A,h.ext B,C⟩
theorem xE.alloc(h:xE w b hs)(o:Obj):xE (w.alloc o) b hs:=by obtain⟨A,h,B⟩:=h;exact⟨A,h.alloc o,B⟩
theorem xE.drew(h:xE w b hs):xE w.drew b hs:=h
theorem xE.drewN(h:xE w b hs)(n:Nat):xE (w.drewN n) b hs:=h
theorem xE.far(h:xE w b hs){p:Addr}(C:b≠p.block)(u:Value):xE (w.setCell p u) b hs:=by obtain⟨A,h,B⟩:=h;exact⟨A,h.far C u,B⟩
theorem xE.set(h:xE w b hs)(k:Nat)(x:yy)(D:k<hs.length):xE ((w.setCell ⟨b,k*2,none⟩ (.int .i64 x.edge)).setCell ⟨b,k*2+1,none⟩ (.int .i64 x.depart)) b (hs.set k x):=by
 obtain⟨E,h,C⟩:=h;obtain⟨y,G⟩:=zl D;have F:=C k y G;have I:k*2+1<E.size:=by
  refine Classical.byContradiction λH=>?_;have A:=F.2;rw[Array.getElem?_eq_none (by omega)]at A;simp at A
 refine⟨_,(h.set_ _ _).set_ _ _,λi z B=>?_⟩
 by_cases e:k=i
 ·subst e
  rw[List.getElem?_set_self D]at B;obtain rfl:x=z:=by simpa using B
  constructor
  ·rw[Array.getElem?_setIfInBounds_ne (by omega),Array.getElem?_setIfInBounds_self_of_lt (by omega)]
  rw[Array.getElem?_setIfInBounds_self_of_lt (by simp;omega)]
 rw[List.getElem?_set_ne e]at B;have A:=C i z B
 constructor
 ·rw[Array.getElem?_setIfInBounds_ne (by omega),Array.getElem?_setIfInBounds_ne (by omega)];exact A.1
 rw[Array.getElem?_setIfInBounds_ne (by omega),Array.getElem?_setIfInBounds_ne (by omega)];exact A.2
theorem xE.slAt(h:xE w b hs)(hi:∀x,x∈hs->zM x.edge/\zM x.depart):zU mt 2 w (some ⟨b,0,none⟩) hs:=by
 refine⟨b,0,λi x B=>⟨rfl,h.lt,?_⟩⟩;have A:=h.cell B;have C:=hi x (List.mem_of_getElem? B);refine⟨⟨?_,?_⟩,C⟩ <;> (unfold zJ;rw[Nat.zero_add])
 ·exact A.1
 exact A.2
end
theorem Sq(n:Nat)(h:n<=1000000)(w:World):(Instr.makeSlice 62 (.int .i64 (n:Int)) (.int .i64 (n:Int))).run Tryz.prog w=.ok (.slice (some ⟨w.heap.size,0,none⟩) n n) (w.alloc (.cells (madeCells #[.int .i64 0,.int .i64 0] (n*2)) 64)):=by
 obtain⟨i,D,A⟩:=Option.map_eq_some_iff.1 jU;simp only[Prod.mk.injEq]at A;obtain⟨F,E,C⟩:=A;have B:=run_make (P:=Tryz.prog) w 62 64 i _ Tryz.underlying62 D F .i64 .i64 n n (by omega) (Int.le_refl _) (by rw[C];omega) (by omega);simp only[Int.toNat_natCast,E]at B;exact B
structure sZ(g:zf)(v t:Int)(l:List Int)(hs:List yy)(done:Nat->Bool):Prop where
 len:hs.length=g.lives.length
 small:∀h,h∈hs->0<=h.edge/\h.edge<=30/\0<=h.depart/\h.depart<=100
 come:∀k,k<g.lives.length->gi l k<zq->((k:Int)=v/\gi l k=t/\zn g v t=true) ∨
  ∃x h lg,hs[k]?=some h/\g.edges[h.edge.toNat]?=some x/\x.b=(k:Int)/\done x.a.toNat=true/\gi l x.a.toNat<=h.depart/\zF g x h.depart=some (lg,gi l k)
section
variable {g:zf}{v t:Int}{l:List Int}{hs:List yy}{done done':Nat->Bool}
theorem sZ.start:sZ g v t (wZ g v t) (List.replicate g.lives.length ⟨0,0⟩) done:=
 ⟨by simp,λh hm=>by obtain⟨_,rfl⟩:=List.mem_replicate.1 hm;simp,λk hk hf=>by
  rw[yH hk]at hf⊢
  split at hf
  ·rename_i hp
   exact .inl ⟨hp.2,by rw[if_pos hp],hp.1⟩
  omega⟩
theorem sZ.mono(h:sZ g v t l hs done)(hd:∀u,done u=true->done' u=true):sZ g v t l hs done':=
 ⟨h.len,h.small,λk hk hf=>(h.come k hk hf).imp id λ⟨x,y,lg,h1,h2,h3,h4,h5⟩=>⟨x,y,lg,h1,h2,h3,hd _ h4,h5⟩⟩
theorem sZ.step(D:zx g)(h:sZ g v t l hs done)(Z:l.length=g.lives.length){x:zA}{j:Nat}(G:g.edges[j]?=some x){d to:Int}(O:first g x (gi l x.a.toNat)=some (d,to))(_:0<=gi l x.a.toNat)
  (Q:to<gi l x.b.toNat) (A:done x.a.toNat=true) (E:∀u,done u=true->gi l u<=gi l x.a.toNat):sZ g v t (l.set x.b.toNat to) (hs.set x.b.toNat ⟨j,d⟩) done:=by
 have B:=D.edges x (List.mem_of_getElem? G);have U:=B.b0;have V:=B.b1;have W:=B.a0;have X:=B.a1;obtain⟨L,⟨S,J⟩,_⟩:=nD O;have T:=zT D B J;have Y:=zy G;have R:=D.ne;have C:done x.b.toNat=false:=by
  cases C:done x.b.toNat with
  |false=>rfl
  |true=>have:=E _ C;omega
 have M:¬x.a.toNat=x.b.toNat:=λe=>by rw[e,C]at A;simp at A
 have K:gi (l.set x.b.toNat to)=upd (gi l) x.b.toNat to:=vX (by omega) to;refine⟨by simp[h.len],λy H=>?_,λk P F=>?_⟩
 ·rcases List.mem_or_eq_of_mem_set H with H|rfl
  ·exact h.small y H
  simp only;omega
 rw[K]at F⊢
 by_cases e:k=x.b.toNat
 ·right
  refine⟨x,⟨j,d⟩,S,by rw[e,List.getElem?_set_self (by rw[h.len];omega)],by simpa using G,by omega,A,?_,?_⟩
  ·rw[yx _ _ M];exact L
  rw[e,yD];exact J
 rw[yx _ _ e]at F⊢;rcases h.come k P F with N|⟨y,z,lg',c1,c2,c3,c4,c5,c6⟩
 ·exact .inl N
 right
 have I:¬y.a.toNat=x.b.toNat:=λe=>by rw[e,C]at c4;simp at c4
 exact⟨y,z,lg',by rw[List.getElem?_set_ne (λh=>e h.symm)];exact c1,c2,c3,c4,by rw[yx _ _ I];exact c5,c6⟩
end
theorem rd{A A' L:Option Addr}{c c' cl:Nat}{g:zf}{x:zA}{t to:Int}{l:zR}(w:World)(hG:zv w A c A' c' g)(hV:zx g)(hx:xW g x)(hL:zU yY 4 w L x.legs)(hl:x.legs.length<=maxLen)(ht:zM t)(h:zF g x t=some (l,to)) :
  Calls Tryz.prog 98 #[gV A c A' c' g,qj L cl x,.int .i64 t] w λe w'=>e=.returned (.tuple #[tK l,.int .i64 to,.bool true])/\Below w.heap.size w w':=
 (nx A A' L c c' cl g x t w hG hV hx hL hl ht).mono λe w' ⟨he,hb⟩=>⟨by rw[he,h];rfl,hb⟩
theorem ny{A A' L:Option Addr}{c c' cl:Nat}{g:zf}{x:zA}{t:Int}(w:World)(hG:zv w A c A' c' g)(hV:zx g)(hx:xW g x)(hL:zU yY 4 w L x.legs)(hl:x.legs.length<=maxLen)(ht:zM t)(h:zF g x t=none) :
  Calls Tryz.prog 98 #[gV A c A' c' g,qj L cl x,.int .i64 t] w λe w'=>e=.returned (.tuple #[tK ⟨0,0,0,0⟩,.int .i64 0,.bool false])/\Below w.heap.size w w':=
 (nx A A' L c c' cl g x t w hG hV hx hL hl ht).mono λe w' ⟨he,hb⟩=>⟨by rw[he,h];rfl,hb⟩
abbrev Oe(L:Option Addr)(cl:Nat)(x:zA):Array Value:=#[.int .i64 x.a,.int .i64 x.b,.slice L x.legs.length cl]
theorem uS{B:Func}{t u v:Tmp}(h:B.results=#[.tmp t,.tmp u,.tmp v])(A:Array Value)(P:Program)(w:World) :
  (results B A).run P w=.ok (.tuple #[A.getD t undef,A.getD u undef,A.getD v undef]) w:=by simp[results,h]
def Ox(o:Option (Int×Int)):Value:=match o with
 |some p=>.tuple #[.int .i64 p.1,.int .i64 p.2,.bool true]
 |none=>.tuple #[.int .i64 0,.int .i64 0,.bool false]
def Oj(o:Option (Int×Int))(b d f:Value):Prop:=match o with
 |some p=>b=.int .i64 p.2/\d=.int .i64 p.1/\f=.bool true
 |none=>b=.int .i64 0/\d=.int .i64 0/\f=.bool false
theorem Vk{g:zf}{x:zA}{d:Int}{o:Option (Int×Int)}{n:Nat}(h:n=0):ot g x n d o=o:=by subst h;rfl
theorem TJ{g:zf}{x:zA}{d:Int}{o:Option (Int×Int)}{n:Nat}(h:0<n):ot g x n d o=ot g x (n-1) (d+1) (oO g x o d):=by
 cases n with
 |zero=>omega
 |succ n=>rfl
theorem ai(A S L:Option Addr)(c V b:Nat)(g:zf)(x:zA)(t:Int)(w:World)(M:zv w A c S V g)(I:zx g)(K:xW g x)(N:zU yY 4 w L x.legs)(O:x.legs.length<=maxLen)(v:0<=t)(X:t<=100) :
  Calls Tryz.prog 140 #[gV A c S V g,qj L b x,.int .i64 t] w λe w'=>e=.returned (Ox (first g x t))/\Below w.heap.size w w':=by
 have s:=I.h1;have r:=I.h0
 go_enter Tryz.func140,Tryz.ntmps140
 go_wp2_with fail
 go_loopw [9,10,11,12] (λz vd vf Z wr=>∃(d:Int) (o:Option (Int×Int)),t<=d/\d<=100/\Z=.int .i64 d/\Hid (Oj o z vd vf)/\Hid (ot g x (g.h-d).toNat d o=first g x t)/\Hid (∀p q,o=some (p,q)->p<=100/\q<=100) /\
   zj wr w.heap.size 68 (gC A c S V g)/\zj wr (w.heap.size+1) 97 (Oe L b x)/\Below w.heap.size w wr)
  (λ_ _ _ Z _=>(100-intOf Z).toNat)
 case atStart=>exact⟨t,none,Int.le_refl _,X,rfl,zc ⟨rfl,rfl,rfl⟩,zc rfl,zc (λp q h=>by simp at h),(zj.new _ _ _).alloc _,zj.new_ (by simp),by go_grown⟩
 obtain⟨d,o,l,m,rfl,H,T,U,D,E,C⟩:=hrel;obtain⟨c1,c2,c3⟩:=D.facts;obtain⟨e1,e2,e3⟩:=E.facts
 by_cases u:d<g.h
 case neg=>
  have a:Hid (o=first g x t):=zc ((Vk (by omega)).symm.trans T.out)
  cases o with
  |none=>
   obtain⟨rfl,rfl,rfl⟩:=H.out;go_wp2_with fail;refine bodyPost_ret (uS rfl _ _ _) rfl ?_;exact⟨by rw[<-a.out];rfl,C⟩
  |some p=>
   obtain⟨p,q⟩:=p;obtain⟨rfl,rfl,rfl⟩:=H.out;go_wp2_with fail;refine bodyPost_ret (uS rfl _ _ _) rfl ?_;exact⟨by rw[<-a.out];rfl,C⟩
 have G:Hid (ot g x (g.h-(d+1)).toNat (d+1) (oO g x o d)=first g x t):=zc (by
  rw[<-T.out,TJ (n:=(g.h-d).toNat) (by omega),show(g.h-d).toNat-1=(g.h-(d+1)).toNat by omega])
 have y:IntKind.i64.wrap (d+1)=d+1:=IntWalk.i64_in _ (by omega);clear T
 cases F:zF g x d with
 |none=>
  have J:=zc F;rw[eT F]at G;clear F
  cases o with
  |none=>
   obtain⟨rfl,rfl,rfl⟩:=H.out;go_wp2_with fail;refine(ny _ (M.ext C) I K (N.ext yY.stable C) O ⟨by omega,by omega⟩ J.out).mono ?_;rintro e R ⟨rfl,B⟩;have D:=D.ext B;have E:=E.ext B;have C:=za C B;go_wp2_with fail;go_roundw
   case rel=>exact⟨d+1,none,by omega,by omega,by go_num,H,G,U,D.alloc _,E.alloc _,ze C _⟩
   case measure=>simp[intOf];omega
  |some p=>
   obtain⟨p,q⟩:=p;obtain⟨rfl,rfl,rfl⟩:=H.out;go_wp2_with fail;refine(ny _ (M.ext C) I K (N.ext yY.stable C) O ⟨by omega,by omega⟩ J.out).mono ?_;rintro e R ⟨rfl,B⟩;have D:=D.ext B;have E:=E.ext B;have C:=za C B;go_wp2_with fail;go_roundw
   case rel=>exact⟨d+1,some (p,q),by omega,by omega,by go_num,H,G,U,D.alloc _,E.alloc _,ze C _⟩
   case measure=>simp[intOf];omega
 |some p=>
  obtain⟨lg,P⟩:=p;have J:=zc F;have Y:=zT I K F;obtain⟨f,i,j,k⟩:=Y
  cases o with
  |none=>
   rw[gf F]at G;clear F;obtain⟨rfl,rfl,rfl⟩:=H.out;go_wp2_with fail;refine(rd _ (M.ext C) I K (N.ext yY.stable C) O ⟨by omega,by omega⟩ J.out).mono ?_;rintro e R ⟨rfl,B⟩;have D:=D.ext B;have E:=E.ext B;have C:=za C B;go_wp2_with fail;go_roundw
   case rel=>exact⟨d+1,some (d,P),by omega,by omega,by go_num,zc ⟨rfl,rfl,rfl⟩,G,zc (λp q h=>by simp only[Option.some.injEq,Prod.mk.injEq]at h;omega),D.alloc _,E.alloc _,ze C _⟩
   case measure=>simp[intOf];omega
  |some p=>
   obtain⟨p,q⟩:=p;obtain⟨rfl,rfl,rfl⟩:=H.out
   by_cases Q:P<q
   case pos=>
    rw[kW F Q]at G;have W:decide (P<q)=true:=by simpa using Q
    clear F;go_wp2_with fail;refine(rd _ (M.ext C) I K (N.ext yY.stable C) O ⟨by omega,by omega⟩ J.out).mono ?_;rintro e R ⟨rfl,B⟩;have D:=D.ext B;have E:=E.ext B;have C:=za C B;go_wp2_with fail;go_roundw
    case rel=>exact⟨d+1,some (d,P),by omega,by omega,by go_num,zc ⟨rfl,rfl,rfl⟩,G,zc (λp q h=>by simp only[Option.some.injEq,Prod.mk.injEq]at h;omega),D.alloc _,E.alloc _,ze C _⟩
    case measure=>simp[intOf];omega
   rw[kX F Q]at G;have W:decide (P<q)=false:=by simpa using Q
   clear F;go_wp2_with fail;refine(rd _ (M.ext C) I K (N.ext yY.stable C) O ⟨by omega,by omega⟩ J.out).mono ?_;rintro e R ⟨rfl,B⟩;have D:=D.ext B;have E:=E.ext B;have C:=za C B;go_wp2_with fail;go_roundw
   case rel=>exact⟨d+1,some (p,q),by omega,by omega,by go_num,H,G,U,D.alloc _,E.alloc _,ze C _⟩
   case measure=>simp[intOf];omega
theorem Qx(A M L:Option Addr)(c N V:Nat)(g:zf)(x:zA)(t:Int)(w:World)(O:zv w A c M N g)(I:zx g)(S:xW g x)(P:zU yY 4 w L x.legs)(Q:x.legs.length<=maxLen) :
  Calls Tryz.prog 110 #[gV A c M N g,qj L V x,.int .i64 t] w λe f=>e=.returned (.int .i64 (uB g x t))/\Below w.heap.size w f:=by
 have a:=I.h1;have Z:=I.h0;have b:IntKind.i64.wrap (g.h-1)=g.h-1:=IntWalk.i64_in _ (by omega)
 go_enter Tryz.func110,Tryz.ntmps110
 go_wp2_with fail
 go_loopw [7] (λU wr=>∃n:Nat,n<=100/\U=.int .i64 ((n:Int)-1)/\Hid (vF g x t n=uB g x t) /\
   zj wr w.heap.size 68 (gC A c M N g)/\zj wr (w.heap.size+1) 97 (Oe L V x)/\Below w.heap.size w wr)
  (λU _=>(intOf U+1).toNat)
 case atStart=>exact⟨g.h.toNat,by omega,by congr 1;omega,zc rfl,(zj.new _ _ _).alloc _,zj.new_ (by simp),by go_grown⟩
 obtain⟨n,q,rfl,H,F,G,C⟩:=hrel;obtain⟨i,j,k⟩:=F.facts;obtain⟨l,m,o⟩:=G.facts
 cases n with
 |zero=>
  have X:Hid (uB g x t=-1):=zc (H.out.symm);have Y:decide ((((0:Nat):Int)-1) ≥ 0)=false:=by decide
  go_wp2_with fail;go_ret;exact⟨zC X.out.symm,C⟩
 |succ n=>
  have K:(((n+1:Nat):Int)-1)=n:=by omega
  rw[K];have d:IntKind.i64.wrap ((n:Int)-1)=(n:Int)-1:=IntWalk.i64_in _ (by omega)
  cases E:zF g x n with
  |none=>
   have J:=zc E;rw[XA E]at H;clear E K;go_wp2_with fail;refine(ny _ (O.ext C) I S (P.ext yY.stable C) Q ⟨by omega,by omega⟩ J.out).mono ?_;rintro e W ⟨rfl,B⟩;have F:=F.ext B;have G:=G.ext B;have C:=za C B;go_wp2_with fail;go_roundw
   case rel=>exact⟨n,by omega,rfl,H,F.alloc _,G.alloc _,ze C _⟩
   case measure=>simp[intOf]
  |some p=>
   obtain⟨r,T⟩:=p;have J:=zc E
   by_cases D:T<=t
   case pos=>
    rw[aA E D]at H;have R:decide (T<=t)=true:=by simpa using D
    clear E K;go_wp2_with fail;refine(rd _ (O.ext C) I S (P.ext yY.stable C) Q ⟨by omega,by omega⟩ J.out).mono ?_;rintro e W ⟨rfl,B⟩;have C:=za C B;go_wp2_with fail;go_ret;exact⟨zC H.out,ze C _⟩
   rw[dv E D]at H;have R:decide (T<=t)=false:=by simpa using D
   clear E K;go_wp2_with fail;refine(rd _ (O.ext C) I S (P.ext yY.stable C) Q ⟨by omega,by omega⟩ J.out).mono ?_;rintro e W ⟨rfl,B⟩;have F:=F.ext B;have G:=G.ext B;have C:=za C B;go_wp2_with fail;go_roundw
   case rel=>exact⟨n,by omega,rfl,H,F.alloc _,G.alloc _,ze C _⟩
   case measure=>simp[intOf]
end Go.Proofs.YtjcimdpldlamfaaGreatDoor
