import Derived.Test.YtjcimdpldlamfaaGreatDoorBd4bbf09d4c0
namespace Go.Proofs.YtjcimdpldlamfaaGreatDoor
set_option maxHeartbeats 1000000
open Go.RowKit
theorem ek(l:zR)(h:Int)(w:World):Calls Tryz.prog 150 #[tK l,.int .i64 h] w λe A=>e=.returned (.bool (uN l h))/\Below w.heap.size w A:=by
 go_enter Tryz.func150,Tryz.ntmps150
 go_wp2
 all_goals go_ret
 all_goals (refine⟨yW ?_,?_⟩ <;> first|(rw[Bool.eq_iff_iff];simp[uN];omega)|go_grown)
theorem fl{h n:Int}{x:zA}(A:vQ x.a 0 (n-1)=false∨vQ x.b 0 (n-1)=false):yU h n x=4:=by unfold yU;rw[if_pos A]
theorem bi{h n:Int}{x:zA}(h1:vQ x.a 0 (n-1)=true)(A:vQ x.b 0 (n-1)=true)(B:6<x.legs.length):yU h n x=2:=by
 unfold yU;rw[if_neg (by simp[h1,A]),if_pos B]
theorem ZC{h n:Int}{x:zA}(h1:vQ x.a 0 (n-1)=true)(A:vQ x.b 0 (n-1)=true)(B:¬6<x.legs.length):yU h n x=yB h none x.legs:=by
 unfold yU;rw[if_neg (by simp[h1,A]),if_neg B]
theorem de{n lo hi:Int}(h1:lo<=n)(A:n<=hi):vQ n lo hi=true:=by simp[vQ,h1,A]
theorem gq{n lo hi:Int}(h:n<lo∨hi<n):vQ n lo hi=false:=by simp[vQ];omega
theorem ug(n lo hi:Int)(w:World)(h:lo<=n/\n<=hi):Calls Tryz.prog 115 #[.int .i64 n,.int .i64 lo,.int .i64 hi] w λe A=>e=.returned (.bool true)/\w=A:=by
 obtain⟨B,C⟩:=h
 go_enter Tryz.func115,Tryz.ntmps115
 go_wp2;go_ret;exact⟨yW (by simp),rfl⟩
theorem nd(n lo hi:Int)(w:World)(h:n<lo∨hi<n):Calls Tryz.prog 115 #[.int .i64 n,.int .i64 lo,.int .i64 hi] w λe A=>e=.returned (.bool false)/\w=A:=by
 go_enter Tryz.func115,Tryz.ntmps115
 go_wp2
 all_goals go_ret
 all_goals exact⟨yW (by simp;try omega),rfl⟩
theorem YT(A V L:Option Addr)(c Y Z:Nat)(g:zf)(x:zA)(w:World)(hg:g.lives.length<=maxLen)(H:zU yY 4 w L x.legs)(hl:x.legs.length<=maxLen) :
    Calls Tryz.prog 132 #[gV A c V Y g,qj L Z x] w λe I=>e=.returned (.int .i64 (yU g.h g.lives.length x))/\Below w.heap.size w I:=by
  unfold maxLen at hg hl
  by_cases i:0<=x.a/\x.a<=(g.lives.length:Int)-1
  case neg=>
    go_enter Tryz.func132,Tryz.ntmps132
    go_wp2_with (go_at_call 115;refine(nd _ _ _ _ (by omega)).mono ?_;rintro e I ⟨rfl,rfl⟩);go_ret;exact⟨zC (fl (.inl (gq (by omega)))).symm,by go_grown⟩
  by_cases l:0<=x.b/\x.b<=(g.lives.length:Int)-1
  case neg=>
    go_enter Tryz.func132,Tryz.ntmps132
    go_wp2_with (go_at_call 115;first|(refine(ug _ _ _ _ (by omega)).mono ?_;rintro e I ⟨rfl,rfl⟩)|(refine(nd _ _ _ _ (by omega)).mono ?_;rintro e I ⟨rfl,rfl⟩));go_ret;exact⟨zC (fl (.inr (gq (by omega)))).symm,by go_grown⟩
  have o:=de i.1 i.2;have p:=de l.1 l.2;have O:=zc o;have P:=zc p;clear o p
  by_cases m:6<x.legs.length
  · go_enter Tryz.func132,Tryz.ntmps132
    go_wp2_with (go_at_call 115;refine(ug _ _ _ _ (by omega)).mono ?_;rintro e I ⟨rfl,rfl⟩);go_ret;exact⟨zC (bi O.out P.out m).symm,by go_grown⟩
  have d:=ZC (h:=g.h) O.out P.out m;rw[d];clear d O P;obtain⟨b,M0,H⟩:=H
  go_enter Tryz.func132,Tryz.ntmps132
  go_wp2_with (go_at_call 115;refine(ug _ _ _ _ (by omega)).mono ?_;rintro e I ⟨rfl,rfl⟩)
  go_loopw [32] (λv wr=>∃k:Nat,k<=x.legs.length/\v=.int .i64 k/\yB g.h (oT x.legs k) (x.legs.drop k)=yB g.h none x.legs/\Below w.heap.size w wr/\zj wr w.heap.size 68 (gC A c V Y g)/\zj wr (w.heap.size+1) 97 #[.int .i64 x.a,.int .i64 x.b,.slice L x.legs.length Z])
    (λv _=>x.legs.length-(intOf v).toNat)
  case atStart=>exact⟨0,Nat.zero_le _,rfl,rfl,by go_grown,(zj.new _ _ _).alloc _,zj.new_ (by simp)⟩
  obtain⟨k,hk,rfl,C,F,G,D⟩:=hrel;obtain⟨b1,b2,b3⟩:=G.facts;obtain⟨d1,d2,d3⟩:=D.facts
  by_cases R:k<x.legs.length
  · obtain⟨y,N⟩:=zl R
    obtain⟨rfl,J,⟨⟨x0,x1,x2,x3⟩,_⟩⟩:=H k y N;have n:=xj N;rw[n]at C;have M:=zc C;have W:=zc N;clear C N n;unfold zJ at x0 x1 x2 x3;rw[<-F.cell (by exact J)]at x0 x1 x2 x3
    by_cases E:uN y g.h=true
    case neg=>
      have K:uN y g.h=false:=by simpa using E
      clear H E;go_wp2_with (first
          |(go_at_call 150;refine(ek y _ _).mono ?_;rintro e T ⟨rfl,B⟩))
      go_ret;exact⟨zC (by rw[<-M.out,uO K]),za (ze F _) B⟩
    by_cases K0:k<=0
    · clear H
      have I0:decide (0<k)=false:=by simp;omega
      go_wp2_with (first
        |(go_at_call 150;refine(ek y _ _).mono ?_;rintro e T ⟨rfl,B⟩;obtain⟨q,r,s⟩:=((D.alloc _).ext B).facts;obtain⟨u,r2,r3⟩:=((zj.new wr 100 _).ext B).facts))
      go_quiet (fail)
      go_wp2;go_roundw
      case rel=>
        obtain rfl:k=0:=by omega
        refine⟨1,by omega,by go_num,?_,zo (za (ze F _) B) _,((G.alloc _).ext B).drewN _,((D.alloc _).ext B).drewN _⟩;rw[<-M.out,vS W.out];exact(rB E).symm
      case measure=>simp[intOf];omega
    obtain⟨j,rfl⟩:∃j,k=j+1:=⟨k-1,by omega⟩;obtain⟨z,S⟩:=zl (show j<x.legs.length by omega);obtain⟨_,J,⟨⟨z0,z1,z2,z3⟩,_⟩⟩:=H j z S;have X:=zc S;clear H S;have J0:(0:Int)<(j:Int)+1:=by omega
    by_cases Q:y.f<z.t
    · go_wp2_with (first
        |(go_at_call 150;refine(ek y _ _).mono ?_;rintro e T ⟨rfl,B⟩;obtain⟨q,r,s⟩:=((D.alloc _).ext B).facts;obtain⟨u,r2,r3⟩:=((zj.new wr 100 _).ext B).facts;
           have U:=z1.now (za (ze F _) B)))
      go_quiet (fail)
      go_wp2;go_ret;exact⟨zC (by rw[<-M.out,vS X.out,sQ E Q]),zo (za (ze F _) B) _⟩
    go_wp2_with (first
      |(go_at_call 150;refine(ek y _ _).mono ?_;rintro e T ⟨rfl,B⟩;obtain⟨q,r,s⟩:=((D.alloc _).ext B).facts;obtain⟨u,r2,r3⟩:=((zj.new wr 100 _).ext B).facts;
         have U:=z1.now (za (ze F _) B)))
    go_quiet (fail)
    go_wp2;go_roundw
    case rel=>
      refine⟨j+1+1,by omega,by go_num,?_,zo (za (ze F _) B) _,((G.alloc _).ext B).drewN _,((D.alloc _).ext B).drewN _⟩;rw[<-M.out,vS W.out,vS X.out,sR E (by omega)]
    case measure=>simp[intOf];omega
  go_wp2;go_ret;exact⟨zC (by rw[<-C,vg (by omega)];cases k <;> rfl),F⟩
theorem ym(A V:Option Addr)(c M:Nat)(g:zf)(w:World)(D:zv w A c V M g) :
  Calls Tryz.prog 99 #[gV A c V M g] w λe S=>e=.returned (.int .i64 (zz g))/\Below w.heap.size w S:=by
 have m1:g.lives.length<=9223372036854775807:=Nat.le_trans D.lc D.cm;have m2:g.edges.length<=9223372036854775807:=Nat.le_trans D.lc' D.cm'
 by_cases r:1<=g.h/\g.h<=100
 case neg=>
  go_enter Tryz.func99,Tryz.ntmps99
  go_wp2_with (go_at_call 115;refine(nd _ _ _ _ (by omega)).mono ?_;rintro e S ⟨rfl,rfl⟩);go_ret;exact⟨zC (eY (gq (by omega))).symm,by go_grown⟩
 have X:=zc (de r.1 r.2)
 by_cases h2:12<g.lives.length
 ·go_enter Tryz.func99,Tryz.ntmps99
  go_wp2_with (go_at_call 115;refine(ug _ _ _ _ (by omega)).mono ?_;rintro e S ⟨rfl,rfl⟩);go_ret;exact⟨zC (sM X.out (by omega)).symm,by go_grown⟩
 by_cases h3:30<g.edges.length
 ·go_enter Tryz.func99,Tryz.ntmps99
  go_wp2_with (go_at_call 115;refine(ug _ _ _ _ (by omega)).mono ?_;rintro e S ⟨rfl,rfl⟩);go_ret;exact⟨zC (sM X.out (by omega)).symm,by go_grown⟩
 obtain⟨b,F0,N⟩:=D.lives
 go_enter Tryz.func99,Tryz.ntmps99
 go_wp2_with (go_at_call 115;refine(ug _ _ _ _ (by omega)).mono ?_;rintro e S ⟨rfl,rfl⟩)
 go_loopw [25] (λv wr=>∃k:Nat,k<=g.lives.length/\v=.int .i64 k/\Hid ((g.lives.drop k).all (vY g.h)=g.lives.all (vY g.h))/\Below w.heap.size w wr/\zj wr w.heap.size 68 (gC A c V M g))
  (λv _=>g.lives.length-(intOf v).toNat)
 case atStart=>exact⟨0,Nat.zero_le _,rfl,zc rfl,by go_grown,zj.new _ _ _⟩
 obtain⟨k,hk,rfl,W,O,J⟩:=hrel;obtain⟨m,n,o⟩:=J.facts
 by_cases j:k<g.lives.length
 ·obtain⟨y,K⟩:=zl j
  obtain⟨rfl,a,⟨⟨T,U⟩,_⟩⟩:=N k y K;have y0:=T.now O;have y1:=U.now O;have P:=xj K;have C:Hid ((y::g.lives.drop (k+1)).all (vY g.h)=g.lives.all (vY g.h)):=by rw[<-P];exact W
  clear N P K W T U
  by_cases F:0<=y.f/\y.f<y.t/\y.t<=g.h
  ·obtain⟨k1,k2,k3⟩:=F
   go_wp2;go_roundw
   case rel=>exact⟨k+1,by omega,by go_num,zc ((jA (fA ⟨k1,k2,k3⟩)).symm.trans C.out),ze O _,J.alloc _⟩
   case measure=>simp[intOf];omega
  go_wp2
  all_goals go_ret
  all_goals exact⟨zC (kw X.out (by omega) (C.out.symm.trans (jz (im (by omega))))).symm,ze O _⟩
 have H:g.lives.all (vY g.h)=true:=by rw[<-W.out,vg (by omega)];rfl
 have q:=qO X.out (by omega) H;have l:=zc q;clear q H W N;obtain⟨b',u,s⟩:=D.edges;obtain⟨x,rfl⟩:∃x:World,x=wr:=⟨_,rfl⟩;go_wp2
 go_loopw [50] (λv wr=>∃k:Nat,k<=g.edges.length/\v=.int .i64 k/\Hid (yI g.h g.lives.length (g.edges.drop k)=yI g.h g.lives.length g.edges)/\Below w.heap.size w wr/\zj wr w.heap.size 68 (gC A c V M g))
  (λv _=>g.edges.length-(intOf v).toNat)
 case atStart=>exact⟨0,Nat.zero_le _,rfl,zc rfl,O,J⟩
 clear m n o;obtain⟨Y,A0,rfl,I,B,G⟩:=hrel;obtain⟨m,n,o⟩:=G.facts
 by_cases R:Y<g.edges.length
 ·obtain⟨y,K⟩:=zl R
  obtain⟨rfl,a,⟨⟨T,U,L,p,z,d,i,N⟩,_⟩⟩:=s Y y K;have y0:=T.now B;have y1:=U.now B;have y2:=z.now B;have P:=xj K;have C:Hid (yI g.h g.lives.length (y::g.edges.drop (Y+1))=yI g.h g.lives.length g.edges):=by rw[<-P];exact I
  clear s P K I T U z;have Q:y.legs.length<=maxLen:=Nat.le_trans d i
  by_cases F:yU g.h g.lives.length y=0
  ·have Z:=zc F
   go_wp2_with (go_at_call 132;refine(YT _ _ L c M p g y _ (Nat.le_trans D.lc D.cm) (N.ext yY.stable (ze B _)) Q).mono ?_;rintro e w1 ⟨rfl,E⟩);go_roundw
   case rel=>exact⟨Y+1,by omega,by go_num,zc ((kr Z.out).symm.trans C.out),za (ze B _) E,(G.alloc _).ext E⟩
   case measure=>simp[intOf];omega
  have Z:=zc F;go_wp2_with (go_at_call 132;refine(YT _ _ L c M p g y _ (Nat.le_trans D.lc D.cm) (N.ext yY.stable (ze B _)) Q).mono ?_;rintro e w1 ⟨rfl,E⟩);go_ret;exact⟨zC (by rw[l.out,<-C.out,jO Z.out]),za (ze B _) E⟩
 go_wp2;go_ret;exact⟨zC (by rw[l.out,<-I.out,vg (by omega)];rfl),B⟩
def zZ(g:zf)(p v:Int):Int:=if zz g=0 then (if 1<=p/\p<=3 then (if p≠3/\¬(0<=v/\v<g.lives.length) then 4 else 0) else 1) else zz g
theorem jF(A H:Option Addr)(c I:Nat)(g:zf)(p v:Int)(w:World)(G:zv w A c H I g) :
  Calls Tryz.prog 134 #[gV A c H I g,.int .i64 p,.int .i64 v] w λe V=>e=.returned (.int .i64 (zZ g p v))/\Below w.heap.size w V:=by
 have X:g.lives.length<=9223372036854775807:=Nat.le_trans G.lc G.cm
 by_cases J:zz g=0
 case neg=>
  have T:Hid (zZ g p v=zz g):=zc (by unfold zZ;rw[if_neg J]);have W:(zz g != 0)=true:=by simp[J]
  go_enter Tryz.func134,Tryz.ntmps134
  go_wp2_with fail;refine(ym _ _ _ _ g _ (G.ext (by go_grown))).mono ?_;rintro e D ⟨rfl,B⟩;have C:Below w.heap.size w D:=za (by go_grown) B;go_wp2_with fail;go_ret;exact⟨zC T.out.symm,C⟩
 have T:=zc J
 by_cases Q:1<=p/\p<=3
 case neg=>
  have F:Hid (zZ g p v=1):=zc (by unfold zZ;rw[if_pos J,if_neg Q])
  by_cases E:1<=p
  ·replace Q:¬p<=3:=λh=>Q ⟨E,h⟩
   go_enter Tryz.func134,Tryz.ntmps134
   go_wp2_with fail;refine(ym _ _ _ _ g _ (G.ext (by go_grown))).mono ?_;rintro e D ⟨rfl,B⟩;obtain⟨M,N,O,P⟩:=(zj.new w 68 (gC A c H I g)).go B;have C:Below w.heap.size w D:=za (by go_grown) B;go_wp2_with fail
   all_goals go_ret
   all_goals exact⟨zC F.out.symm,C⟩
  clear Q
  go_enter Tryz.func134,Tryz.ntmps134
  go_wp2_with fail;refine(ym _ _ _ _ g _ (G.ext (by go_grown))).mono ?_;rintro e D ⟨rfl,B⟩;obtain⟨M,N,O,P⟩:=(zj.new w 68 (gC A c H I g)).go B;have C:Below w.heap.size w D:=za (by go_grown) B;go_wp2_with fail
  all_goals go_ret
  all_goals exact⟨zC F.out.symm,C⟩
 obtain⟨E,L⟩:=Q
 by_cases K:p=3
 ·subst K
  have F:Hid (zZ g 3 v=0):=zc (by unfold zZ;rw[if_pos J,if_pos (by decide),if_neg (by simp)])
  go_enter Tryz.func134,Tryz.ntmps134
  go_wp2_with fail;refine(ym _ _ _ _ g _ (G.ext (by go_grown))).mono ?_;rintro e D ⟨rfl,B⟩;obtain⟨M,N,O,P⟩:=(zj.new w 68 (gC A c H I g)).go B;have C:Below w.heap.size w D:=za (by go_grown) B;go_wp2_with fail
  all_goals go_ret
  all_goals exact⟨zC F.out.symm,C⟩
 have U:(p != 3)=true:=by simp[K]
 by_cases R:0<=v
 ·by_cases S:v<g.lives.length
  ·have F:Hid (zZ g p v=0):=zc (by unfold zZ;rw[if_pos J,if_pos ⟨E,L⟩,if_neg (by intro h;exact h.2 ⟨R,S⟩)])
   clear K
   go_enter Tryz.func134,Tryz.ntmps134
   go_wp2_with fail;refine(ym _ _ _ _ g _ (G.ext (by go_grown))).mono ?_;rintro e D ⟨rfl,B⟩;obtain⟨M,N,O,P⟩:=(zj.new w 68 (gC A c H I g)).go B;have C:Below w.heap.size w D:=za (by go_grown) B;go_wp2_with fail
   all_goals go_ret
   all_goals exact⟨zC F.out.symm,C⟩
  have F:Hid (zZ g p v=4):=zc (by unfold zZ;rw[if_pos J,if_pos ⟨E,L⟩,if_pos ⟨K,λh=>S h.2⟩]);clear K
  go_enter Tryz.func134,Tryz.ntmps134
  go_wp2_with fail;refine(ym _ _ _ _ g _ (G.ext (by go_grown))).mono ?_;rintro e D ⟨rfl,B⟩;obtain⟨M,N,O,P⟩:=(zj.new w 68 (gC A c H I g)).go B;have C:Below w.heap.size w D:=za (by go_grown) B;go_wp2_with fail
  all_goals go_ret
  all_goals exact⟨zC F.out.symm,C⟩
 have F:Hid (zZ g p v=4):=zc (by unfold zZ;rw[if_pos J,if_pos ⟨E,L⟩,if_pos ⟨K,λh=>R h.1⟩]);clear K
 go_enter Tryz.func134,Tryz.ntmps134
 go_wp2_with fail;refine(ym _ _ _ _ g _ (G.ext (by go_grown))).mono ?_;rintro e D ⟨rfl,B⟩;obtain⟨M,N,O,P⟩:=(zj.new w 68 (gC A c H I g)).go B;have C:Below w.heap.size w D:=za (by go_grown) B;go_wp2_with fail
 all_goals go_ret
 all_goals exact⟨zC F.out.symm,C⟩
theorem xM(A C:Option Addr)(c D:Nat)(g:zf)(v t:Int)(w:World)(G:zv w A c C D g)(h0:0<=v)(h1:v<g.lives.length) :
  Calls Tryz.prog 97 #[gV A c C D g,.int .i64 v,.int .i64 t] w λe J=>e=.returned (.bool (zn g v t))/\Below w.heap.size w J:=by
 obtain⟨b,I,E⟩:=G.lives;obtain⟨y,B⟩:=zl (show v.toNat<g.lives.length by omega);obtain⟨rfl,H,⟨⟨K,L⟩,_⟩⟩:=E _ y B;unfold zJ at K L;have F:=zc (lC (t:=t) B);clear E B
 by_cases M:y.f<=t
 all_goals
  go_enter Tryz.func97,Tryz.ntmps97
  go_wp2;go_ret;exact⟨yW (by rw[F.out];first|(rw[Bool.eq_iff_iff];simp;omega)|(symm;simp;omega)),by go_grown⟩
theorem ye(A C:Option Addr)(c D:Nat)(g:zf)(v t:Int)(w:World)(G:zv w A c C D g)(h0:0<=v)(h1:v<g.lives.length) :
  Calls Tryz.prog 121 #[gV A c C D g,.int .i64 v,.int .i64 t] w λe J=>e=.returned (.bool (zn g v t))/\Below w.heap.size w J:=by
 obtain⟨b,I,E⟩:=G.lives;obtain⟨y,B⟩:=zl (show v.toNat<g.lives.length by omega);obtain⟨rfl,H,⟨⟨K,L⟩,_⟩⟩:=E _ y B;unfold zJ at K L;have F:=zc (lC (t:=t) B);clear E B
 by_cases M:y.f<=t
 all_goals
  go_enter Tryz.func121,Tryz.ntmps121
  go_wp2;go_ret;exact⟨yW (by rw[F.out];first|(rw[Bool.eq_iff_iff];simp;omega)|(symm;simp;omega)),by go_grown⟩
def aC(o:Option zR):Value:=match o with
 |some x=>.tuple #[tK x,.bool true]
 |none=>.tuple #[tK ⟨0,0,0,0⟩,.bool false]
theorem nN(L:Option Addr)(P:Nat)(x:zA)(t:Int)(w:World)(C:zU yY 4 w L x.legs)(R:x.legs.length<=maxLen) :
  Calls Tryz.prog 131 #[qj L P x,.int .i64 t] w λe W=>e=.returned (aC (yC t x.legs))/\Below w.heap.size w W:=by
 unfold maxLen at R;obtain⟨b,V,C⟩:=C
 go_enter Tryz.func131,Tryz.ntmps131
 go_wp2
 go_loopw [11] (λv wr=>∃k:Nat,k<=x.legs.length/\v=.int .i64 k/\Hid (yC t (x.legs.drop k)=yC t x.legs)/\Below w.heap.size w wr/\zj wr (w.heap.size+1) 100 #[.int .i64 0,.int .i64 0,.int .i64 0,.int .i64 0]) (λv _=>x.legs.length-(intOf v).toNat)
 case atStart=>exact⟨0,Nat.zero_le _,rfl,zc rfl,by go_grown,zj.new_ (by simp)⟩
 obtain⟨k,Y,rfl,D,A,H⟩:=hrel;obtain⟨I,X,S⟩:=H.facts
 by_cases E:k<x.legs.length
 ·obtain⟨y,G⟩:=zl E
  obtain⟨rfl,Q,⟨⟨K,M,N,O⟩,_⟩⟩:=C k y G;have Z:=K.now A;have a:=M.now A;have c:=N.now A;have d:=O.now A;have J:=xj G;have B:Hid (yC t (y::x.legs.drop (k+1))=yC t x.legs):=by rw[<-J];exact D
  clear C J G D K M N O
  by_cases F:y.f<=t/\t<y.t
  ·obtain⟨T,U⟩:=F
   go_wp2;refine bodyPost_ret (v:=.tuple #[tK y,.bool true]) (by simp[results,Tryz.results131,go_sem,I,S,tK]) rfl ?_;refine⟨by rw[<-B.out,jc ⟨T,U⟩];rfl,?_⟩;exact((((A.setCell (by simp) _).setCell (by simp) _).setCell (by simp) _).setCell (by simp) _).alloc (by simp;omega) _
  go_wp2
  all_goals
   go_roundw
   case rel=>exact⟨k+1,by omega,by go_num,zc ((mZ (by omega)).symm.trans B.out),ze A _,H.alloc _⟩
   case measure=>simp[intOf];omega
 go_wp2;refine bodyPost_ret (v:=.tuple #[tK ⟨0,0,0,0⟩,.bool false]) (by simp[results,Tryz.results131,go_sem,I,tK]) rfl ?_;refine⟨by rw[<-D.out,vg (by omega)];rfl,?_⟩;exact((((A.setCell (by simp) _).setCell (by simp) _).setCell (by simp) _).setCell (by simp) _)
theorem nX(L:Option Addr)(I:Nat)(x:zA)(t:Int)(w:World)(D:zU yY 4 w L x.legs)(S:x.legs.length<=maxLen) :
  Calls Tryz.prog 123 #[qj L I x,.int .i64 t] w λe W=>e=.returned (aC (yC t x.legs))/\Below w.heap.size w W:=by
 unfold maxLen at S;obtain⟨b,V,D⟩:=D
 go_enter Tryz.func123,Tryz.ntmps123
 go_wp2
 go_loopw [6] (λv wr=>∃k:Nat,k<=x.legs.length/\v=.int .i64 k/\Hid (yC t (x.legs.drop k)=yC t x.legs)/\Below w.heap.size w wr/\zj wr w.heap.size 97 #[.int .i64 x.a,.int .i64 x.b,.slice L x.legs.length I]/\zj wr (w.heap.size+1) 100 #[.int .i64 0,.int .i64 0,.int .i64 0,.int .i64 0]) (λv _=>x.legs.length-(intOf v).toNat)
 case atStart=>exact⟨0,Nat.zero_le _,rfl,zc rfl,by go_grown,(zj.new _ _ _).alloc _,zj.new_ (by simp)⟩
 obtain⟨k,d,rfl,E,A,C,J⟩:=hrel;obtain⟨K,c,g⟩:=J.facts;obtain⟨X,Y,Z⟩:=C.facts
 by_cases F:k<x.legs.length
 ·obtain⟨y,H⟩:=zl F
  obtain⟨rfl,R,⟨⟨N,O,P,Q⟩,_⟩⟩:=D k y H;have h:=N.now A;have i:=O.now A;have j:=P.now A;have l:=Q.now A;have M:=xj H;have B:Hid (yC t (y::x.legs.drop (k+1))=yC t x.legs):=by rw[<-M];exact E
  clear D M H E N O P Q
  by_cases G:y.f<=t/\t<y.t
  ·obtain⟨T,U⟩:=G
   go_wp2;refine bodyPost_ret (v:=.tuple #[tK y,.bool true]) (by simp[results,Tryz.results123,go_sem,K,tK]) rfl ?_;refine⟨by rw[<-B.out,jc ⟨T,U⟩];rfl,?_⟩;exact((((A.setCell (by simp) _).setCell (by simp) _).setCell (by simp) _).setCell (by simp) _)
  go_wp2
  all_goals
   go_roundw
   case rel=>exact⟨k+1,by omega,by go_num,zc ((mZ (by omega)).symm.trans B.out),A,C,J⟩
   case measure=>simp[intOf];omega
 go_wp2;refine bodyPost_ret (v:=.tuple #[tK ⟨0,0,0,0⟩,.bool false]) (by simp[results,Tryz.results123,go_sem,K,tK]) rfl ?_;refine⟨by rw[<-E.out,vg (by omega)];rfl,?_⟩;exact((((A.setCell (by simp) _).setCell (by simp) _).setCell (by simp) _).setCell (by simp) _)
theorem XE{L:Option Addr}{cl:Nat}{x:zA}{t:Int}(w:World)(hL:zU yY 4 w L x.legs)(hl:x.legs.length<=maxLen)(h:yC t x.legs=none) :
  Calls Tryz.prog 131 #[qj L cl x,.int .i64 t] w λe w'=>e=.returned (.tuple #[tK ⟨0,0,0,0⟩,.bool false])/\Below w.heap.size w w':=
 (nN L cl x t w hL hl).mono λe w' ⟨he,hb⟩=>⟨by rw[he,h];rfl,hb⟩
theorem pF{L:Option Addr}{cl:Nat}{x:zA}{t:Int}{l:zR}(w:World)(hL:zU yY 4 w L x.legs)(hl:x.legs.length<=maxLen)(h:yC t x.legs=some l) :
  Calls Tryz.prog 131 #[qj L cl x,.int .i64 t] w λe w'=>e=.returned (.tuple #[tK l,.bool true])/\Below w.heap.size w w':=
 (nN L cl x t w hL hl).mono λe w' ⟨he,hb⟩=>⟨by rw[he,h];rfl,hb⟩
theorem Wj{L:Option Addr}{cl:Nat}{x:zA}{t:Int}(w:World)(hL:zU yY 4 w L x.legs)(hl:x.legs.length<=maxLen)(h:yC t x.legs=none) :
  Calls Tryz.prog 123 #[qj L cl x,.int .i64 t] w λe w'=>e=.returned (.tuple #[tK ⟨0,0,0,0⟩,.bool false])/\Below w.heap.size w w':=
 (nX L cl x t w hL hl).mono λe w' ⟨he,hb⟩=>⟨by rw[he,h];rfl,hb⟩
theorem pI{L:Option Addr}{cl:Nat}{x:zA}{t:Int}{l:zR}(w:World)(hL:zU yY 4 w L x.legs)(hl:x.legs.length<=maxLen)(h:yC t x.legs=some l) :
  Calls Tryz.prog 123 #[qj L cl x,.int .i64 t] w λe w'=>e=.returned (.tuple #[tK l,.bool true])/\Below w.heap.size w w':=
 (nX L cl x t w hL hl).mono λe w' ⟨he,hb⟩=>⟨by rw[he,h];rfl,hb⟩
def Ps(o:Option (zR×Int)):Value:=match o with
 |some (l,to)=>.tuple #[tK l,.int .i64 to,.bool true]
 |none=>.tuple #[tK ⟨0,0,0,0⟩,.int .i64 0,.bool false]
theorem nx(A A' L:Option Addr)(c c' cl:Nat)(g:zf)(x:zA)(t:Int)(w:World)(hG:zv w A c A' c' g)(hV:zx g)(hx:xW g x)
  (hL:zU yY 4 w L x.legs) (hl:x.legs.length<=maxLen) (ht:zM t) :
  Calls Tryz.prog 98 #[gV A c A' c' g,qj L cl x,.int .i64 t] w λe w'=>e=.returned (Ps (zF g x t))/\Below w.heap.size w w':=by
 obtain⟨i0,j0⟩:=ht
 cases h:yC t x.legs with
 |none=>
  have H:=zc h;have HR:=zc (bU (g:=g) h);clear h
  go_enter Tryz.func98,Tryz.ntmps98
  go_wp2_with (go_at_call 131;refine(XE _ (hL.ext yY.stable (by go_grown)) hl H.out).mono ?_;rintro e K ⟨rfl,C⟩;obtain⟨b1,n,j⟩:=(zj.ext (g:=w.heap.size+1+1) (t:=100) (cs:=#[.int .i64 0,.int .i64 0,.int .i64 0,.int .i64 0]) (zj.new_ (by simp)) C).facts);have D:Below w.heap.size w K:=za (by go_grown) C;refine bodyPost_ret (v:=.tuple #[tK ⟨0,0,0,0⟩,.int .i64 0,.bool false]) (by simp[results,Tryz.results98,go_sem,b1,j,tK]) rfl ⟨by rw[HR.out];rfl,?_⟩
  go_grown
 |some l=>
  have hm:=rn h;have f0:=hx.legs l hm.1;have k:=hx.a0;have m:=hx.a1;have I0:=hx.b0;have o:=hx.b1;have hh:=hV.h1;have H:=zc h;have HR:=zc (bV (g:=g) h);clear h
  by_cases hA:zn g x.a t=true
  case neg=>
   have X0:zn g x.a t=false:=by simpa using hA
   clear hA;have HA:=zc X0
   go_enter Tryz.func98,Tryz.ntmps98
   go_wp2_with fail;refine(pF _ (hL.ext yY.stable (by go_grown)) hl H.out).mono ?_;rintro e K ⟨rfl,C⟩;obtain⟨Q,b1,n,j⟩:=zj.go (g:=w.heap.size+1+1) (t:=100) (cs:=#[.int .i64 0,.int .i64 0,.int .i64 0,.int .i64 0]) (zj.new_ (by simp)) C;obtain⟨M,q,r,s⟩:=zj.go (g:=w.heap.size) (t:=68) (cs:=gC A c A' c' g) (((zj.new _ _ _).alloc _).alloc _) C;obtain⟨O,u,y,z⟩:=zj.go (g:=w.heap.size+1) (t:=97) (cs:=#[.int .i64 x.a,.int .i64 x.b,.slice L x.legs.length cl]) ((zj.new_ (by simp)).alloc _) C
   have D:Below w.heap.size w K:=za (by go_grown) C;clear C;go_wp2_with fail;refine(xM _ _ _ _ g x.a t _ (hG.ext (ze D _)) k m).mono ?_;rintro e w2 ⟨rfl,B⟩;obtain⟨F,I,R,S⟩:=(Q.alloc _).go B;obtain⟨N,T,U,V⟩:=(M.alloc _).go B;obtain⟨P,W,X,Y⟩:=(O.alloc _).go B;obtain⟨G,Z,d,i⟩:=(zj.new K 100 #[.int .i64 l.f,.int .i64 l.t,.int .i64 l.time,.int .i64 l.cost]).go B
   have J:Below w.heap.size w w2:=za (ze D _) B;clear B b1 n j q r s u y z M O Q;go_wp2_with fail;refine bodyPost_ret (v:=.tuple #[tK ⟨0,0,0,0⟩,.int .i64 0,.bool false]) (by simp[results,Tryz.results98,go_sem,I]) rfl ⟨by rw[HR.out,if_neg (by simp[HA.out])];rfl,?_⟩
   go_grown
  have HA:=zc hA
  by_cases hH:t+l.time<g.h
  case neg=>
   have HH:=zc hH
   go_enter Tryz.func98,Tryz.ntmps98
   go_wp2_with fail;refine(pF _ (hL.ext yY.stable (by go_grown)) hl H.out).mono ?_;rintro e K ⟨rfl,C⟩;obtain⟨Q,b1,n,j⟩:=zj.go (g:=w.heap.size+1+1) (t:=100) (cs:=#[.int .i64 0,.int .i64 0,.int .i64 0,.int .i64 0]) (zj.new_ (by simp)) C;obtain⟨M,q,r,s⟩:=zj.go (g:=w.heap.size) (t:=68) (cs:=gC A c A' c' g) (((zj.new _ _ _).alloc _).alloc _) C;obtain⟨O,u,y,z⟩:=zj.go (g:=w.heap.size+1) (t:=97) (cs:=#[.int .i64 x.a,.int .i64 x.b,.slice L x.legs.length cl]) ((zj.new_ (by simp)).alloc _) C
   have D:Below w.heap.size w K:=za (by go_grown) C;clear C;go_wp2_with fail;refine(xM _ _ _ _ g x.a t _ (hG.ext (ze D _)) k m).mono ?_;rintro e w2 ⟨rfl,B⟩;obtain⟨F,I,R,S⟩:=(Q.alloc _).go B;obtain⟨N,T,U,V⟩:=(M.alloc _).go B;obtain⟨P,W,X,Y⟩:=(O.alloc _).go B;obtain⟨G,Z,d,i⟩:=(zj.new K 100 #[.int .i64 l.f,.int .i64 l.t,.int .i64 l.time,.int .i64 l.cost]).go B
   have J:Below w.heap.size w w2:=za (ze D _) B;clear B b1 n j q r s u y z M O Q;go_wp2_with fail;refine bodyPost_ret (v:=.tuple #[tK ⟨0,0,0,0⟩,.int .i64 0,.bool false]) (by simp[results,Tryz.results98,go_sem,I]) rfl ⟨by rw[HR.out,if_neg (by exact λhh=>by have:=HH.out;omega)];rfl,?_⟩
   go_grown
  have HH:=zc hH
  cases hB:zn g x.b (t+l.time)
  case false=>
   have HB:=zc hB
   go_enter Tryz.func98,Tryz.ntmps98
   go_wp2_with fail;refine(pF _ (hL.ext yY.stable (by go_grown)) hl H.out).mono ?_;rintro e K ⟨rfl,C⟩;obtain⟨Q,b1,n,j⟩:=zj.go (g:=w.heap.size+1+1) (t:=100) (cs:=#[.int .i64 0,.int .i64 0,.int .i64 0,.int .i64 0]) (zj.new_ (by simp)) C;obtain⟨M,q,r,s⟩:=zj.go (g:=w.heap.size) (t:=68) (cs:=gC A c A' c' g) (((zj.new _ _ _).alloc _).alloc _) C;obtain⟨O,u,y,z⟩:=zj.go (g:=w.heap.size+1) (t:=97) (cs:=#[.int .i64 x.a,.int .i64 x.b,.slice L x.legs.length cl]) ((zj.new_ (by simp)).alloc _) C
   have D:Below w.heap.size w K:=za (by go_grown) C;clear C;go_wp2_with fail;refine(xM _ _ _ _ g x.a t _ (hG.ext (ze D _)) k m).mono ?_;rintro e w2 ⟨rfl,B⟩;obtain⟨F,I,R,S⟩:=(Q.alloc _).go B;obtain⟨N,T,U,V⟩:=(M.alloc _).go B;obtain⟨P,W,X,Y⟩:=(O.alloc _).go B;obtain⟨G,Z,d,i⟩:=(zj.new K 100 #[.int .i64 l.f,.int .i64 l.t,.int .i64 l.time,.int .i64 l.cost]).go B
   have J:Below w.heap.size w w2:=za (ze D _) B;clear B b1 n j q r s u y z M O Q;go_wp2_with fail;refine(xM _ _ _ _ g x.b (t+l.time) _ (hG.ext J) I0 o).mono ?_;rintro e w3 ⟨rfl,E⟩;obtain⟨M0,p,R0,S0⟩:=F.go E;obtain⟨N0,T0,U0,V0⟩:=G.go E;have Y0:Below w.heap.size w w3:=za J E;clear E F I R S N T U V P W X Y G Z d i
   go_wp2_with fail;refine bodyPost_ret (v:=.tuple #[tK ⟨0,0,0,0⟩,.int .i64 0,.bool false]) (by simp[results,Tryz.results98,go_sem,p]) rfl ⟨by rw[HR.out,if_neg (by exact λhh=>by rw[HB.out]at hh;exact absurd hh.2.2 (by simp))];rfl,?_⟩
   go_grown
  case true=>
   have HB:=zc hB
   go_enter Tryz.func98,Tryz.ntmps98
   go_wp2_with fail;refine(pF _ (hL.ext yY.stable (by go_grown)) hl H.out).mono ?_;rintro e K ⟨rfl,C⟩;obtain⟨Q,b1,n,j⟩:=zj.go (g:=w.heap.size+1+1) (t:=100) (cs:=#[.int .i64 0,.int .i64 0,.int .i64 0,.int .i64 0]) (zj.new_ (by simp)) C;obtain⟨M,q,r,s⟩:=zj.go (g:=w.heap.size) (t:=68) (cs:=gC A c A' c' g) (((zj.new _ _ _).alloc _).alloc _) C;obtain⟨O,u,y,z⟩:=zj.go (g:=w.heap.size+1) (t:=97) (cs:=#[.int .i64 x.a,.int .i64 x.b,.slice L x.legs.length cl]) ((zj.new_ (by simp)).alloc _) C
   have D:Below w.heap.size w K:=za (by go_grown) C;clear C;go_wp2_with fail;refine(xM _ _ _ _ g x.a t _ (hG.ext (ze D _)) k m).mono ?_;rintro e w2 ⟨rfl,B⟩;obtain⟨F,I,R,S⟩:=(Q.alloc _).go B;obtain⟨N,T,U,V⟩:=(M.alloc _).go B;obtain⟨P,W,X,Y⟩:=(O.alloc _).go B;obtain⟨G,Z,d,i⟩:=(zj.new K 100 #[.int .i64 l.f,.int .i64 l.t,.int .i64 l.time,.int .i64 l.cost]).go B
   have J:Below w.heap.size w w2:=za (ze D _) B;clear B b1 n j q r s u y z M O Q;go_wp2_with fail;refine(xM _ _ _ _ g x.b (t+l.time) _ (hG.ext J) I0 o).mono ?_;rintro e w3 ⟨rfl,E⟩;obtain⟨M0,p,R0,S0⟩:=F.go E;obtain⟨N0,T0,U0,V0⟩:=G.go E;have Y0:Below w.heap.size w w3:=za J E;clear E F I R S N T U V P W X Y G Z d i
   go_wp2_with fail;refine bodyPost_ret (v:=.tuple #[tK l,.int .i64 (t+l.time),.bool true]) (by simp[results,Tryz.results98,go_sem,p]) rfl ⟨by rw[HR.out,if_pos ⟨HA.out,HH.out,HB.out⟩];rfl,?_⟩
   go_grown
end Go.Proofs.YtjcimdpldlamfaaGreatDoor
