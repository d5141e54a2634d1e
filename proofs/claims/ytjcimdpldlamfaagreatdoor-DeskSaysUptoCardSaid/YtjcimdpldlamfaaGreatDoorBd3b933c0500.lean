import Derived.Test.YtjcimdpldlamfaaGreatDoorBdeea8b97884
import Derived.Test.YtjcimdpldlamfaaGreatDoorBdcb20961c57
namespace Go.Proofs.YtjcimdpldlamfaaGreatDoor
set_option maxRecDepth 100000
set_option maxHeartbeats 16000000
open Go.RowKit
theorem Se:(Tryz.prog.info? 9).map (λi=>(i.zero,i.size,i.bytes))=some (some (.string ByteArray.empty),1,16):=by kernel_rfl
theorem td:∃i,Tryz.prog.info? 9=some i/\i.zero=some (.string ByteArray.empty)/\i.size=1/\i.bytes=16:=by
 obtain⟨C,B,A⟩:=Option.map_eq_some_iff.1 Se;simp only[Prod.mk.injEq]at A;exact⟨C,B,A.1,A.2.1,A.2.2⟩
theorem uE{s:ByteArray}:∀u∈(#[.string s]:Array Value).toList,u.oneCell'=true:=by simp[Value.oneCell']
theorem RP{l:List UInt8}{k:Nat}{b:UInt8}(h:l[k]?=some b):(bs l).extract k (k+1)=bs [b]:=by
 apply ByteArray.ext
 apply Array.ext'
 have A:=zy h;obtain⟨_,rfl⟩:=List.getElem?_eq_some_iff.1 h;simp only[bs,ByteArray.data_extract,List.extract_toArray,List.extract_eq_take_drop];rw[show k+1-k=1 by omega,List.drop_eq_getElem_cons A];rfl
theorem wl(a b:List UInt8)(h:a.length+b.length<=9223372036854775807)(W:World):(Op.stringOp .add (bs a) (bs b)).run Tryz.prog W=.ok (.string (bs (a++b))) W:=by
 unfold Op.stringOp;simp only;rw[if_neg (by
  rw[xT,xT];have:IntKind.i64.max=9223372036854775807:=rfl;omega),Zx]
 rfl
def jw(l:List (List UInt8))(w:World)(e:Ending)(w':World):Prop:=∃g c,e=.returned (.slice (some ⟨g,0,none⟩) l.length c)/\Own yp 1 w' w.heap.size 9 (.slice (some ⟨g,0,none⟩) l.length c) l/\Below w.heap.size w w'
theorem oC(l:List UInt8)(c:UInt8)(w:World)(hl:l.length<=100000):Calls Tryz.prog 18 #[.string (bs l),.int .u8 c.toNat] w (jw (zk c l) w):=by
 have L:=xT l;obtain⟨s,p⟩:∃s,bs l=s:=⟨_,rfl⟩;have HB:Hid (∀k b,l[k]?=some b->yl s k=b.toNat/\s.extract k (k+1)=bs [b]):=zc λk b h=>by rw[<-p];exact⟨UL h,RP h⟩
 rw[p]at L⊢;have N:=zc L;have b0:s.size<=100000:=by omega
 clear p L hl;obtain⟨i0,hi,q,r,x⟩:=td
 go_enter Tryz.func18,Tryz.ntmps18
 go_wp2_with fail
 go_loopw [5,6] (λu v wr=>∃(k:Nat) (A:List (List UInt8)) (B:List UInt8) (g O:Nat),k<=s.size/\v=.int .i64 k/\u=.slice (some ⟨g,0,none⟩) (A.length+1) O/\Hid (zk c (l.take k)=A++[B]/\A.length<=k/\B.length<=k)/\Own yp 1 wr w.heap.size 9 (.slice (some ⟨g,0,none⟩) (A.length+1) O) (A++[B])/\Below w.heap.size w wr) (λ_ v _=>s.size-(intOf v).toNat)
 case atStart=>
  refine⟨0,[],[],w.heap.size,1,Nat.zero_le _,rfl,rfl,zc ⟨rfl,by simp,by simp⟩,?_,by go_grown⟩;exact Own.lit (enc:=yp) (l:=[[]]) rfl (Nat.le_refl _) rfl rfl rfl (by decide)
 obtain⟨k,A,B,g,O,hk,rfl,rfl,G,f,X⟩:=hrel;have y:=X.size;have O0:=G.out.2.1;have c0:=G.out.2.2
 by_cases J:k<s.size
 case neg=>
  obtain rfl:k=s.size:=by omega
  have z:Hid (zk c l=A++[B]):=zc (by
   have:=G.out.1
   rwa[N.out,List.take_length]at this)
  clear G;go_wp2_with fail;go_ret;refine⟨g,O,?_,?_,X⟩
  ·rw[z.out,List.length_append];rfl
  rw[z.out,List.length_append];exact f
 obtain⟨b,C⟩:=zl (show k<l.length by rw[<-N.out];exact J);obtain⟨F,T⟩:=HB.out k b C;have g1:((s[k]'J).toNat)=yl s k:=(rf J).symm;have K0:=lF s k;have L0:A.length+1+1<=1000000:=by omega
 by_cases M:b=c
 ·have hq:((yl s k:Int)== (c.toNat:Int))=true:=by rw[F,M];simp
  have a:Hid (zk c (l.take (k+1))=(A++[B])++[[]]):=zc (by rw[pH C G.out.1,if_pos M]);have Q:(A++[B]).length+1<=1000000:=by simp;omega
  clear M C F T G;go_wp2_with (at_builtin;refine zr (enc:=yp) rfl (.tmp 19) (.tmp 20) 23 rfl w.heap.size 9 i0 _ 1 16 Tryz.underlying23 hi q r x rfl (by decide) _ (A++[B]) [] rfl f _ rfl wr.heap.size rfl rfl rfl uE Q (by decide) y ?_;intro gn d w6 D j X0 M0;rw[List.length_append]at D⊢);go_roundw
  case rel=>exact⟨k+1,A++[B],[],gn,d,by omega,by go_num,by simp,zc ⟨a.out,by simp;omega,by simp⟩,by simpa using D,X.trans j⟩
  case measure=>simp[intOf];omega
 have hq:((yl s k:Int)== (c.toNat:Int))=false:=by
  rw[F];simp;intro e;exact M (UInt8.toNat_inj.1 (by omega))
 have a:Hid (zk c (l.take (k+1))=A++[B++[b]]):=zc (by rw[pH C G.out.1,if_neg M]);obtain⟨o,U,V,n,cs,H,R,E⟩:=f.cells ud;have W:(A++[B])[A.length]?=some B:=by simp
 have z0:cs[A.length]?=some (.string (bs B)):=by have:=E _ B W 0 (by decide);simpa[yp]using this
 have Q0:IntKind.i64.wrap (A.length:Int)=A.length:=IntWalk.i64_in _ (by omega);have Y0:IntKind.i64.wrap ((k:Int)+1)=(k:Int)+1:=IntWalk.i64_in _ (by omega);have P0:A.length<A.length+1:=by omega
 have R0:(A.length:Int)<(A.length:Int)+1:=by omega
 have S0:k+1<=s.size:=by omega
 have T0:(k:Int)+1<=(s.size:Int):=by omega
 have U0:(k:Int)<=(k:Int)+1:=by omega
 have V0:(0:Int)<=(k:Int)+1:=by omega
 have W0:((k:Int)+1).toNat=k+1:=by omega
 obtain⟨c1,c2,c3⟩:=H.facts;have HR:=zc E;have Z:=zc V;have Y:=zc R;have Z0:=zc z0;clear M C F G E V o W R;have D0:=wl B [b] (by simp;omega);go_wp2_with fail;obtain⟨S,P⟩:∃S:World->Prop,Hid (S=λw'=>w'.cell? ⟨g,A.length,none⟩=some (.string (bs B))):=⟨_,zc rfl⟩;have J0:S wr.drew:=by rw[P.out];exact(H.cell _).trans z0
 refine zV.begin (S:=S) 13 (by kernel_rfl) ?_;refine tN 0 ?_ ?_<|tN 1 ?_ ?_<|tN 2 ?_ ?_<|tN 3 ?_ ?_<|tN 4 ?_ ?_<|tN 5 ?_ ?_<|tN 6 ?_ ?_<|tN 7 ?_ ?_<|tN 8 ?_ ?_<|tN 9 ?_ ?_<|tN 10 ?_ ?_<|tN 11 ?_ ?_<|tN 12 ?_ ?_ ?_
 iterate 13
  rotate_left;intro w I;rw[P.out]at I;have h0:=I;clear I;(try simp only[pS]);go_simp;try with_reducible rfl
 try simp only[pS]
 refine zV.one (i:=13) rfl (by kernel_rfl) λK hK=>?_;go_wp2_with fail;refine hK.out _ _ ⟨λh=>by omega,?_⟩;clear hK K;refine zV.done (by kernel_rfl) ?_ _;go_wp2_with fail;go_roundw
 case rel=>
  refine⟨k+1,A,B++[b],g,O,by omega,by go_num,rfl,zc ⟨a.out,by omega,by simp;omega⟩,?_,by exact(zi X).setCell U _⟩;have h2:=Own.of_cells (enc:=yp) (m:=A++[B++[b]]) ud (by decide) ((H.drew).set_ A.length (.string (bs (B++[b])))) U (by have:=Z.out;simpa using this) n (by simpa using Y.out) (by
   have e:(A++[B]).set A.length (B++[b])=A++[B++[b]]:=by simp
   rw[<-e];refine HR.out.set (by simp) (λt ht=>by rw[Array.getElem?_setIfInBounds_ne (by omega)]) (λt ht=>?_);have k1:A.length<cs.size:=(Array.getElem?_eq_some_iff.1 Z0.out).1;obtain rfl:t=0:=by omega
   simp only[Nat.mul_one,Nat.add_zero];rw[Array.getElem?_setIfInBounds_self_of_lt k1];rfl)
  rw[show(A++[B++[b]]).length=A.length+1 by simp]at h2;exact h2
 case measure=>simp[intOf];omega
set_option maxHeartbeats 4000000
theorem lT{α β:Type}{f:α->β}{l:List α}{k:Nat}{x:α}(A:l[k]?=some x):(l.take k).map f++[f x]=(l.take (k+1)).map f:=by
 rw[List.take_add_one,A];simp
theorem pi(A:Option Addr)(c0 c:Nat)(l:List Int)(K:Int)(w:World)(X:zI w A c0 l)(hl:l.length<=100000)(z:zM K)(Y:ITab w) :
  Calls Tryz.prog 48 #[.slice A l.length c,.int .i64 K] w λe w'=>e=.returned (.string (bs (yb l K)))/\Below w.heap.size w w':=by
 have HA:=zc X;have HT:=zc Y;have m1:=X.len;have q:=zc X.i64;clear X;obtain⟨i0,hi,S,T,U⟩:=td
 by_cases W:K=0
 case neg=>
  have o:(K != 0)=true:=by simp[W]
  have Z:Hid (yb l K=yO K):=zc (by unfold yb;rw[if_neg W]);have O:=xg K z w Y;clear W Y
  go_enter Tryz.func48,Tryz.ntmps48
  go_wp2_with fail;refine O.mono ?_;rintro e w1 ⟨rfl,f⟩;clear O;go_wp2_with fail;go_ret;exact⟨by rw[Z.out];rfl,f⟩
 subst W;clear z Y
 go_enter Tryz.func48,Tryz.ntmps48
 go_wp2_with fail
 go_loopw [5,15] (λu v wr=>∃k:Nat,k<=l.length/\v=.int .i64 k/\Own yp 1 wr w.heap.size 9 u ((l.take k).map qW)/\Below w.heap.size w wr) (λ_ v _=>l.length-(intOf v).toNat)
 case atStart=>exact⟨0,Nat.zero_le _,rfl,Own.nil,Below.refl _ _⟩
 obtain⟨k,hk,rfl,H,M⟩:=hrel;have K0:=M.size;have F:((l.take k).map qW).length+1<=1000000:=by rw[List.length_map,List.length_take];omega
 by_cases j:k<l.length
 case neg=>
  obtain rfl:k=l.length:=by omega
  rw[List.take_length]at H F;obtain⟨out,D⟩:∃out,l.map qW=out:=⟨_,rfl⟩;have J:out.length=l.length:=by rw[<-D,List.length_map]
  rw[D]at H F;obtain⟨Ao,co,rfl,t⟩:=vG H;have HO:=zc D
  cases l with
  |nil=>
   obtain rfl:out=[]:=by rw[<-D];rfl
   clear H D J;go_wp2_with fail;go_ret;exact⟨rfl,M⟩
  |cons x r=>
   have o:(((out.length:Nat):Int)== 0)=false:=by rw[J];simp;omega
   have hj:=ie Ao co out 32 wr t (by
    have h1:=si (c:=32) (m:=21) (l:=out) λy hy=>by
     rw[<-D]at hy;obtain⟨n,P,rfl⟩:=List.mem_map.1 hy;exact dM (q.out n P)
    rw[J]at h1;omega)
   have Z:Hid (yb (x::r) 0=zO 32 out):=zc (by rw[<-D];unfold yb;rw[if_pos rfl,if_neg (by simp)]);clear H D J t;go_wp2_with fail;refine hj.mono ?_;rintro e w2 ⟨rfl,g⟩;clear hj;go_wp2_with fail;go_ret;exact⟨by rw[Z.out];rfl,za M g⟩
 obtain⟨n,P⟩:=zl j;obtain⟨b,L0,rfl,d,x0⟩:=HA.out.get P;rw[<-M.cell (by exact d)]at x0;have p:=q.out n (List.mem_of_getElem? P);have uF:=wO n p wr (HT.out.ext M);obtain⟨out,D⟩:∃out,(l.take k).map qW=out:=⟨_,rfl⟩;have s:Hid (out++[qW n]=(l.take (k+1)).map qW):=zc (by rw[<-D];exact lT P);rw[D]at H F
 by_cases O:n=1099511627776
 case pos=>
  subst O;have I:Hid (qW 1099511627776=[45]):=zc rfl;obtain⟨R,G⟩:∃R,Lib.itoa 1099511627776=R:=⟨_,rfl⟩;rw[G]at uF;clear P D G;go_wp2_with fail;refine uF.mono ?_;rintro e V ⟨rfl,B⟩;have L:=H.ext B;have E:=za M B;have Q:w.heap.size<=V.heap.size:=E.size;clear uF H B;go_wp2_with (at_builtin;refine zr (enc:=yp) rfl (.tmp 23) (.tmp 25) 23 rfl w.heap.size 9 i0 _ 1 16 Tryz.underlying23 hi S T U rfl (by decide) _ out [45] rfl L _ rfl V.heap.size rfl rfl rfl uE F (by decide) Q ?_;intro gn a w6 C N i h)
  go_roundw
  case rel=>exact⟨k+1,by omega,by go_num,by rw[<-s.out,I.out];exact C,E.trans N⟩
  case measure=>simp[intOf];omega
 have hq:(n== 1099511627776)=false:=by simpa using O
 have I:Hid (qW n=Lib.itoa n):=zc (by unfold qW;rw[if_neg O]);obtain⟨R,G⟩:∃R,Lib.itoa n=R:=⟨_,rfl⟩;rw[G]at uF I;clear P D G O;go_wp2_with fail;refine uF.mono ?_;rintro e V ⟨rfl,B⟩;have L:=H.ext B;have E:=za M B;have Q:w.heap.size<=V.heap.size:=E.size;clear uF H B;go_wp2_with (at_builtin;refine zr (enc:=yp) rfl (.tmp 23) (.tmp 25) 23 rfl w.heap.size 9 i0 _ 1 16 Tryz.underlying23 hi S T U rfl (by decide) _ out R rfl L _ rfl V.heap.size rfl rfl rfl uE F (by decide) Q ?_;intro gn a w6 C N i h)
 go_roundw
 case rel=>exact⟨k+1,by omega,by go_num,by rw[<-s.out,I.out];exact C,E.trans N⟩
 case measure=>simp[intOf];omega
section
variable {P Q:List Int->Prop}{er:Int}{w w':World}{e:Ending}
end
theorem zU.cells{w:World}{A:Option Addr}{l:List Int}(h:zU ra 1 w A l)(h0:0<l.length):∃b B,A=some ⟨b,B,none⟩/\b<w.heap.size/\∀i,i<l.length->w.cell? ⟨b,B+i,none⟩=some (.int .i64 (gi l i)):=by
 obtain⟨b,B,h⟩:=h;obtain⟨rfl,D,_⟩:=h 0 _ (ou h0);refine⟨b,B,rfl,D,λi E=>?_⟩;obtain⟨_,_,C,_⟩:=h i _ (ou E);simpa[zJ]using C
section
variable {g:zf}{v t:Int}{l:List Int}
theorem RE(h:zm g v t=0):tq g v t l->yv g v t l:=λhl=>by unfold tq at hl;rwa[if_pos h]at hl
theorem YQ(h:zm g v t=0):vn g v t l->vO g v t l:=λhl=>by unfold vn at hl;rwa[if_pos h]at hl
theorem cd(A:zx g)(h0:0<=v)(h1:v<g.lives.length)(B:0<=t)(C:t<g.h):zm g v t=0:=by
 unfold zm;rw[if_pos (xK A),if_pos (sO.2 (by omega)),if_pos (sO.2 (by omega))]
end
def Pj(g:zf)(v u:Int)(w:World)(e:Ending)(w':World):Prop:=∃d a er,Hid (xX g v u d a er)/\e=.returned (.tuple #[.int .i64 d,.int .i64 a,.int .i64 er])/\Below w.heap.size w w'
theorem Xb(A P:Option Addr)(c Q:Nat)(g:zf)(v u:Int)(w:World)(J:zv w A c P Q g) :
  Calls Tryz.prog 114 #[gV A c P Q g,.int .i64 v,.int .i64 u] w (Pj g v u w):=by
 have m1:g.lives.length<=9223372036854775807:=Nat.le_trans J.lc J.cm
 by_cases h0:zz g=0
 case neg=>
  have F:=zc h0;have hn:(zz g != 0)=true:=by simp[h0]
  clear h0
  go_enter Tryz.func114,Tryz.ntmps114
  go_wp2_with fail;refine(ym _ _ _ _ g _ (J.ext (by go_grown))).mono ?_;rintro e d ⟨rfl,B⟩;go_wp2_with fail;refine bodyPost_ret (uS rfl _ _ _) rfl ?_;exact⟨0,0,zz g,zc (.bad F.out),rfl,za (by go_grown) B⟩
 have F:=zc h0;clear h0
 by_cases W:(0<=v/\v<g.lives.length)/\0<=u/\u<g.lives.length
 case neg=>
  have y:=zc (xX.out F.out W);have M:=W
  by_cases Z:v<0
  ·have o:decide (v<0)=true:=by simpa using Z
   clear Z W M
   go_enter Tryz.func114,Tryz.ntmps114
   go_wp2_with fail;refine(ym _ _ _ _ g _ (J.ext (by go_grown))).mono ?_;rw[F.out];rintro e d ⟨rfl,B⟩;obtain⟨D,R,S,T⟩:=(zj.new w 68 (gC A c P Q g)).go B;go_wp2_with fail;refine bodyPost_ret (uS rfl _ _ _) rfl ?_;exact⟨0,0,4,y,rfl,za (by go_grown) B⟩
  have o:decide (v<0)=false:=by simpa using Z
  by_cases j:v ≥ (g.lives.length:Int)
  ·have p:decide (v ≥ (g.lives.length:Int))=true:=by simpa using j
   clear Z j W M
   go_enter Tryz.func114,Tryz.ntmps114
   go_wp2_with fail;refine(ym _ _ _ _ g _ (J.ext (by go_grown))).mono ?_;rw[F.out];rintro e d ⟨rfl,B⟩;obtain⟨D,R,S,T⟩:=(zj.new w 68 (gC A c P Q g)).go B;go_wp2_with fail;refine bodyPost_ret (uS rfl _ _ _) rfl ?_;exact⟨0,0,4,y,rfl,za (by go_grown) B⟩
  have p:decide (v ≥ (g.lives.length:Int))=false:=by simpa using j
  by_cases z:u<0
  ·have q:decide (u<0)=true:=by simpa using z
   clear Z j z W M
   go_enter Tryz.func114,Tryz.ntmps114
   go_wp2_with fail;refine(ym _ _ _ _ g _ (J.ext (by go_grown))).mono ?_;rw[F.out];rintro e d ⟨rfl,B⟩;obtain⟨D,R,S,T⟩:=(zj.new w 68 (gC A c P Q g)).go B;go_wp2_with fail;refine bodyPost_ret (uS rfl _ _ _) rfl ?_;exact⟨0,0,4,y,rfl,za (by go_grown) B⟩
  have q:decide (u<0)=false:=by simpa using z
  have G0:decide (u ≥ (g.lives.length:Int))=true:=by simp only[decide_eq_true_eq];omega
  clear Z j z W M
  go_enter Tryz.func114,Tryz.ntmps114
  go_wp2_with fail;refine(ym _ _ _ _ g _ (J.ext (by go_grown))).mono ?_;rw[F.out];rintro e d ⟨rfl,B⟩;obtain⟨D,R,S,T⟩:=(zj.new w 68 (gC A c P Q g)).go B;go_wp2_with fail;refine bodyPost_ret (uS rfl _ _ _) rfl ?_;exact⟨0,0,4,y,rfl,za (by go_grown) B⟩
 obtain⟨⟨G,H⟩,N,O⟩:=W;have m:=uX F.out;have P0:=m.h0;have Q0:=m.h1;have o:decide (v<0)=false:=by simpa using G
 have p:decide (v ≥ (g.lives.length:Int))=false:=by simpa using H
 have q:decide (u<0)=false:=by simpa using N
 have G0:decide (u ≥ (g.lives.length:Int))=false:=by simpa using O
 go_enter Tryz.func114,Tryz.ntmps114
 go_wp2_with fail;refine(ym _ _ _ _ g _ (J.ext (by go_grown))).mono ?_;rw[F.out];rintro e d ⟨rfl,B⟩;obtain⟨D,R,S,T⟩:=(zj.new w 68 (gC A c P Q g)).go B;have C:Below w.heap.size w d:=za (by go_grown) B;clear B;go_wp2_with fail
 go_loopw [11,12,42] (λxb xa x wr=>∃(k:Nat) (b a:Int),k<=100/\(k:Int)<=g.h/\xb=.int .i64 b/\xa=.int .i64 a/\x=.int .i64 k/\Hid (sa g v u k b a)/\zj wr w.heap.size 68 (gC A c P Q g)/\Below w.heap.size w wr)
  (λ_ _ x _=>(100-intOf x).toNat)
 case atStart=>exact⟨0,1099511627776,0,by omega,by omega,rfl,rfl,rfl,zc sa.start,D,C⟩
 clear D C R S T;obtain⟨k,b,a,hk,R0,rfl,rfl,rfl,f,D,C⟩:=hrel;obtain⟨R,S,T⟩:=D.facts
 by_cases s:(k:Int)<g.h
 case neg=>
  have K:(k:Int)=g.h:=by omega
  rcases f.out with⟨E,ha,V⟩|E
  ·rw[K]at V
   have Y:=zc (xX.none F.out ⟨G,H⟩ ⟨N,O⟩ V);subst ha;have E0:(b== 1099511627776)=true:=by rw[E];rfl
   clear E V K;go_wp2_with fail;refine bodyPost_ret (uS rfl _ _ _) rfl ?_;exact⟨0,0,4,Y,rfl,C⟩
  rw[K]at E;have Y:=zc (xX.some F.out ⟨G,H⟩ ⟨N,O⟩ E);have E0:(b== 1099511627776)=false:=by have:=E.b1;simp;omega
  clear E K;go_wp2_with fail;refine bodyPost_ret (uS rfl _ _ _) rfl ?_;exact⟨b,a,0,Y,rfl,C⟩
 have HP:Hid (zm g v k=0):=zc (cd m G H (by omega) s);have F0:0<=b/\b<=1099511627776:=by
  rcases f.out with⟨E,_,_⟩|E
  ·simp only[zq]at E;omega
  have:=E.b0;have:=E.b1;omega
 obtain⟨L0,M0⟩:=F0;go_wp2_with fail;refine(jC _ _ _ _ g v k _ (J.ext C)).mono ?_;rw[HP.out];rintro e w2 ⟨l,A1,d1,hl,rfl,D0,S0,U⟩;have X:=zc (RE HP.out hl);have hn:=X.out.1;rw[hn];have Y:=zc hn;have D:=D.ext U;have C:=za C U;clear hl hn U R S T;obtain⟨b1,o1,rfl,V0,n⟩:=D0.cells (by rw[Y.out];omega);have ku:=n u.toNat (by rw[Y.out];omega)
 clear n;obtain⟨x,t⟩:∃x,gi l u.toNat=x:=⟨_,rfl⟩;have T0:(k:Int)<=x:=by rw[<-t];exact X.out.low m (by omega) (by omega)
 have U0:x<=1099511627776:=by rw[<-t];exact X.out.big (by omega) _
 rw[t]at ku;have HX:=zc t;clear t;have I0:IntKind.i64.wrap (x-k)=x-k:=IntWalk.i64_in _ (by omega)
 by_cases I:x<1099511627776
 case neg=>
  have J0:decide (x<1099511627776)=false:=by simpa using I
  have i:=zc (f.out.skip ⟨by omega,by omega⟩ X.out (by rw[HX.out];simp only[zq];omega));clear I;go_wp2_with fail;go_roundw
  case rel=>exact⟨k+1,b,a,by omega,by omega,rfl,rfl,by go_num,i,D,C⟩
  case measure=>simp[intOf];omega
 have J0:decide (x<1099511627776)=true:=by simpa using I
 by_cases L:x-k<b
 case pos=>
  have r:decide (x-k<b)=true:=by simpa using L
  have i:=zc (f.out.take m ⟨by omega,s⟩ ⟨G,H⟩ ⟨N,O⟩ X.out HX.out I L);go_wp2_with fail;go_roundw
  case rel=>exact⟨k+1,x-k,k,by omega,by omega,rfl,rfl,by go_num,i,D,C⟩
  case measure=>simp[intOf];omega
 have r:decide (x-k<b)=false:=by simpa using L
 have i:=zc (f.out.stay ⟨by omega,by omega⟩ X.out HX.out I L);go_wp2_with fail;go_roundw
 case rel=>exact⟨k+1,b,a,by omega,by omega,rfl,rfl,by go_num,i,D,C⟩
 case measure=>simp[intOf];omega
end Go.Proofs.YtjcimdpldlamfaaGreatDoor
