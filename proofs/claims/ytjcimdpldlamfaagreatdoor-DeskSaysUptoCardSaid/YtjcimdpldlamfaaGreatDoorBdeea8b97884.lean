import Derived.Test.YtjcimdpldlamfaaGreatDoorBd969651ee3b
namespace Go.Proofs.YtjcimdpldlamfaaGreatDoor
set_option maxRecDepth 100000
set_option maxHeartbeats 4000000
open Go.RowKit
def WI(w:World)(b o:Nat)(x:List UInt8):Prop:=zJ w b o (.string (bs x))
theorem WI.stable:rT WI:=λ_ _ _ _ _ hb hlt h=>zJ.ext hb hlt h
def yp(x:List UInt8):List Value:=[.string (bs x)]
theorem ud(x:List UInt8):(yp x).length=1:=rfl
structure zS(w:World)(A:Option Addr)(c:Nat)(l:List (List UInt8)):Prop where
 lc:l.length<=c
 cm:c<=maxLen
 sl:zU WI 1 w A l
section
variable {w w':World}{A:Option Addr}{c k base:Nat}{l:List (List UInt8)}{v:Value}
theorem zS.ext(h:zS w A c l)(hb:Below w.heap.size w w'):zS w' A c l:=⟨h.lc,h.cm,h.sl.ext WI.stable hb⟩
theorem zS.len(h:zS w A c l):l.length<=9223372036854775807:=Nat.le_trans h.lc h.cm
theorem zS.get(h:zS w A c l){x:List UInt8}(G:l[k]?=some x):∃b B,A=some ⟨b,B,none⟩/\b<w.heap.size/\w.cell? ⟨b,B+k,none⟩=some (.string (bs x)):=by
 obtain⟨b,B,F⟩:=h.sl;obtain⟨D,E,C⟩:=F k x G;rw[Nat.mul_one]at C;exact⟨b,B,D,E,C⟩
theorem vG(h:Own yp 1 w base 9 v l):∃A c,v=.slice A l.length c/\zS w A c l:=by
 obtain⟨A,c,D,B⟩:=Own.slAt (R:=WI) (enc:=yp) (λ_=>rfl) (λx _ b o C=>by have:=C 0 _ rfl;simpa[WI]using this) h;subst D;exact⟨A,c,rfl,h.room.1,h.room.2,B⟩
theorem zS.tail{x:List UInt8}{b off:Nat}(h:zS w (some ⟨b,off,none⟩) c (x::l)):zS w (some ⟨b,off+1,none⟩) (c-1) l:=by
 have D:=h.lc;have H:=h.cm;simp only[List.length_cons]at D;refine⟨by omega,by omega,b,off+1,λi y F=>?_⟩;obtain⟨C,A,E⟩:=h.sl;obtain⟨e,G,B⟩:=E (i+1) y (by simpa using F);obtain⟨rfl,rfl⟩:b=C/\off=A:=by simpa using e
 refine⟨rfl,G,?_⟩;have:off+(i+1)*1=off+1+i*1:=by omega
 rw[this]at B;exact B
theorem pM{g:Nat}{cs:Array Value}(h:zj w g 9 cs)(A:cs=(l.map λx=>Value.string (bs x)).toArray)(B:l.length<=maxLen):zS w (some ⟨g,0,none⟩) l.length l:=by
 refine⟨Nat.le_refl _,B,g,0,λi x C=>⟨rfl,h.lt,?_⟩⟩;unfold WI zJ;rw[h.cell,A];simp[C]
end
theorem tV(l:List UInt8):(bs l).data.toList=l:=by simp
theorem bs_of(s:ByteArray):bs s.data.toList=s:=by cases s;simp[bs]
theorem iK(c:UInt8)(l:List UInt8):(Lib.splitB (bs [c]) 0 (Lib.countB (bs l) (bs [c])) (bs l)).map Value.string=(zk c l).map λx=>Value.string (bs x):=by
 have h:=Lib.splitB_data (bs [c]) 0 (Lib.countB (bs l) (bs [c])) (bs l);have e:Lib.countB (bs l) (bs [c])=Lib.count l [c]:=by unfold Lib.countB;rw[tV,tV]
 rw[tV,tV,e,kI c _ l (Nat.le_refl _)]at h;rw[e,<-h,List.map_map];refine List.map_congr_left λs _=>?_;simp only[Function.comp]
theorem ll(c:UInt8)(l:List UInt8):Lib.countB (bs l) (bs [c])+1=(zk c l).length:=by
 have h:=Lib.splitB_all (bs [c]) (by simp[ByteArray.size]) 0 _ (bs l) rfl;have A:=congrArg List.length (iK c l);rw[List.length_map,List.length_map]at A;rw[<-h,A]
def mE(w:World):Prop:=∃m:Int,w.cell? ⟨0,0,none⟩=some (.int .i64 m)
theorem mE.ext{w B:World}(h:mE w)(C:Below w.heap.size w B):mE B:=by
 obtain⟨m,A⟩:=h;exact⟨m,(C.cell (p:=⟨_,0,none⟩) (World.block_lt_of_cell? w _ A)).trans A⟩
theorem gJ(c:UInt8)(l:List UInt8)(w:World)(D:l.length<=70000)(A:mE w) :
  Calls Tryz.prog 13 #[.string (bs l),.string ⟨#[c]⟩] w λe B=>e=.returned (.slice (some ⟨w.heap.size,0,none⟩) (zk c l).length (zk c l).length)/\zS B (some ⟨w.heap.size,0,none⟩) (zk c l).length (zk c l)/\Below w.heap.size w B:=by
 obtain⟨m,A⟩:=A;have e:(⟨#[c]⟩:ByteArray)=bs [c]:=rfl;rw[e];refine(Txt.strings_Split (bs l) (bs [c]) m w (by rw[xT];omega) A (by simp[ByteArray.size])).mono λx B ⟨h1,h2⟩=>?_;rw[iK c l]at h2;rw[ll]at h1;subst h2;have C:(zk c l).length<=l.length+1:=by
  have h:=Lib.countB_le (bs [c]) (by simp[ByteArray.size]) _ (bs l) (Nat.le_refl _);rw[<-ll c l];rw[xT]at h;omega
 exact⟨h1,pM (zj.new w _ _) rfl (by unfold maxLen;omega),ze (Below.refl _ w) _⟩
theorem UO(c:UInt8)(l:List UInt8)(w:World)(C:l.length<=70000)(A:mE w) :
  Calls Tryz.prog 95 #[.string (bs l),.string ⟨#[c]⟩] w λe B=>e=.returned (.tuple #[.string (bs (Lib.cut l [c]).1),.string (bs (Lib.cut l [c]).2.1),.bool (Lib.cut l [c]).2.2])/\∃n,B=w.drewN n:=by
 obtain⟨m,A⟩:=A;refine(Txt.strings_Cut (bs l) (bs [c]) m w (by rw[xT];omega) A).mono λx B ⟨h1,h2⟩=>?_;rw[tV,tV]at h1;exact⟨h1,h2⟩
def ss(w:List (List UInt8))(many:Int):List Int×Bool:=if (w.length:Int)=many then (match yn w with|some n=>(n,true)|none=>([],false)) else ([],false)
def xy(w:List (List UInt8)):List Int×Bool:=match yn w with|some n=>(n,true)|none=>([],false)
def lB(r:List Int×Bool)(w:World)(e:Ending)(w':World):Prop:=∃A c,e=.returned (.tuple #[.slice A r.1.length c,.bool r.2])/\(Own yK 1 w' w.heap.size 3 (.slice A r.1.length c) r.1/\∀x,x∈r.1->zM x)/\Below w.heap.size w w'
theorem jY(w:World)(base:Nat):Own yK 1 w base 3 (.slice none 0 0) []/\∀x:Int,x∈[]->zM x:=⟨Own.nil,λx h=>by simp at h⟩
theorem oA{w:World}{base n c:Nat}{A:Option Addr}{l:List Int}(h:Own yK 1 w base 3 (.slice A n c) l)(h0:0<l.length):∃g C,A=some ⟨g,0,none⟩/\base<=g/\zj w g 3 C/\∀(k:Nat) (x:Int),l[k]?=some x->C[k]?=some (Value.int .i64 x):=by
 rcases h.2 with⟨J,K⟩|⟨g,E,F,D,_⟩
 ·omega
 simp only[Value.slice.injEq]at D;obtain⟨rfl,rfl,rfl⟩:=D;obtain⟨_,H,_,_,C,G,_,B⟩:=h.cells nK;refine⟨g,C,rfl,H,G,λk x I=>?_⟩;have:=B k x I 0 (by decide);simpa[yK]using this
theorem nw{l:List (List UInt8)}{k:Nat}{x:List UInt8}(B:l[k]?=some x)(h:(l.take k).all (λs=>decide (0<=yL s))=true)(A:0<=yL x):(l.take (k+1)).all (λs=>decide (0<=yL s))=true:=by
 rw[List.take_add_one,B,List.all_append,h];simp[A]
theorem mG{l:List (List UInt8)}{k:Nat}{x:List UInt8}(B:l[k]?=some x)(A:¬0<=yL x):l.all (λs=>decide (0<=yL s))=false:=by
 rw[List.all_eq_false];exact⟨x,List.mem_of_getElem? B,by simpa using A⟩
theorem dH{l:List (List UInt8)}{k:Nat}{x:List UInt8}(A:l[k]?=some x):(l.take k).map yL++[yL x]=(l.take (k+1)).map yL:=by
 rw[List.take_add_one,A];simp
theorem tk(A:Option Addr)(c:Nat)(l:List (List UInt8))(B:Int)(w:World)(U:zS w A c l)(hl:l.length<=100000)(r:∀x,x∈l->x.length<=100000) :
  Calls Tryz.prog 143 #[.slice A l.length c,.int .i64 B] w (lB (ss l B) w):=by
 have z:=zc U;have HS:=zc r;have m1:=U.len;clear U r
 by_cases I:(l.length:Int)=B
 case neg=>
  have hd:((l.length:Int) != B)=true:=by simpa using I
  have S:Hid (ss l B=([],false)):=zc (by unfold ss;rw[if_neg I]);clear I;rw[S.out]
  go_enter Tryz.func143,Tryz.ntmps143
  go_wp2_with fail;go_ret2;exact⟨none,0,rfl,jY _ _,Below.refl _ _⟩
 have hd:((l.length:Int) != B)=false:=by simpa using I
 have S:Hid (ss l B=xy l):=zc (by unfold ss;rw[if_pos I];rfl);clear I;obtain⟨i0,hi,g,h,i⟩:=qA;rw[S.out]
 go_enter Tryz.func143,Tryz.ntmps143
 go_wp2_with fail
 go_loopw [6,16] (λu v wr=>∃k:Nat,k<=l.length/\v=.int .i64 k/\Hid ((l.take k).all (λs=>decide (0<=yL s))=true)/\Own yK 1 wr w.heap.size 3 u ((l.take k).map yL)/\Below w.heap.size w wr) (λ_ v _=>l.length-(intOf v).toNat)
 case atStart=>exact⟨0,Nat.zero_le _,rfl,zc rfl,Own.nil,Below.refl _ _⟩
 obtain⟨k,hk,rfl,M,J,K⟩:=hrel;have j:=K.size;have L:((l.take k).map yL).length+1<=1000000:=by rw[List.length_map,List.length_take];omega
 obtain⟨out,d⟩:∃out,(l.take k).map yL=out:=⟨_,rfl⟩;have Q:=zc d;rw[d]at J L;clear d
 by_cases a:k<l.length
 case neg=>
  obtain rfl:k=l.length:=by omega
  have R:Hid (xy l=(out,true)):=zc (by
   have p:=M.out;have N:=Q.out;rw[List.take_length]at p N;unfold xy;rw[jg p,N])
  have V:∀x,x∈out->zM x:=λx H=>by
   have N:=Q.out;rw[<-N]at H;obtain⟨y,_,rfl⟩:=List.mem_map.1 H;exact dL y
  obtain⟨t,co,rfl⟩:=J.form;clear M;go_wp2_with fail;go_ret2;rw[R.out];exact⟨t,co,rfl,⟨J,V⟩,K⟩
 obtain⟨x,H⟩:=zl a;obtain⟨b,I0,rfl,X,x0⟩:=z.out.get H;rw[<-K.cell (by exact X)]at x0;have C:=fQ x wr (by have:=HS.out x (List.mem_of_getElem? H);omega);have q:=nQ x;have T:=zc H;clear H
 by_cases O:0<=yL x
 case neg=>
  have F:decide (yL x<0)=true:=by simp;omega
  have R:Hid (xy l=([],false)):=zc (by unfold xy;rw[jf (mG T.out O)]);obtain⟨n,E⟩:∃n,yL x=n:=⟨_,rfl⟩;rw[E]at C F;clear O q E;go_wp2_with fail;refine C.mono ?_;rintro e m ⟨rfl,D⟩;go_wp2_with fail;go_ret2;rw[R.out];exact⟨none,0,rfl,jY _ _,za K D⟩
 have F:decide (yL x<0)=false:=by simp;omega
 have P:=zc (nw T.out M.out O);have o:Hid (out++[yL x]=(l.take (k+1)).map yL):=zc (by rw[<-Q.out];exact dH T.out);obtain⟨n,E⟩:∃n,yL x=n:=⟨_,rfl⟩;rw[E]at C F q o;clear O E M;go_wp2_with fail;refine C.mono ?_;rintro e m ⟨rfl,D⟩;have W:=J.ext D;have Y:=za K D;have f:w.heap.size<=m.heap.size:=Nat.le_trans j D.size;clear C D J
 go_wp2_with (at_builtin;refine zr (enc:=yK) rfl (.tmp 24) (.tmp 26) 55 rfl w.heap.size 3 i0 _ 1 8 Tryz.underlying55 hi g h i rfl (by decide) _ out n rfl W _ rfl m.heap.size rfl rfl rfl jV L (by decide) f ?_;intro gn B0 w6 G Z G0 E0);go_roundw
 case rel=>exact⟨k+1,by omega,by go_num,P,by rw[<-o.out];exact G,Y.trans Z⟩
 case measure=>simp[intOf];omega
theorem wR(A:Option Addr)(c:Nat)(l:List (List UInt8))(w:World)(X:zS w A c l)(hl:l.length<=100000)(hs:∀x,x∈l->x.length<=100000) :
  Calls Tryz.prog 38 #[.slice A l.length c] w (lB (xy l) w):=by
 have HA:=zc X;have HS:=zc hs;have m1:=X.len;clear X hs;obtain⟨i0,hi,h,i,j⟩:=qA
 go_enter Tryz.func38,Tryz.ntmps38
 go_wp2_with fail
 go_loopw [4,5] (λu v wr=>∃k:Nat,k<=l.length/\v=.int .i64 k/\Hid ((l.take k).all (λs=>decide (0<=yL s))=true)/\Own yK 1 wr w.heap.size 3 u ((l.take k).map yL)/\Below w.heap.size w wr) (λ_ v _=>l.length-(intOf v).toNat)
 case atStart=>exact⟨0,Nat.zero_le _,rfl,zc rfl,Own.nil,Below.refl _ _⟩
 obtain⟨k,hk,rfl,P,G,L⟩:=hrel;have K0:=L.size;have O:((l.take k).map yL).length+1<=1000000:=by rw[List.length_map,List.length_take];omega
 obtain⟨out,f⟩:∃out,(l.take k).map yL=out:=⟨_,rfl⟩;have T:=zc f;rw[f]at G O;clear f
 by_cases d:k<l.length
 case neg=>
  obtain rfl:k=l.length:=by omega
  have U:Hid (xy l=(out,true)):=zc (by
   have t:=P.out;have Q:=T.out;rw[List.take_length]at t Q;unfold xy;rw[jg t,Q])
  have Y:∀x,x∈out->zM x:=λx K=>by
   have Q:=T.out;rw[<-Q]at K;obtain⟨y,_,rfl⟩:=List.mem_map.1 K;exact dL y
  obtain⟨Ao,co,rfl⟩:=G.form;clear P;go_wp2_with fail;go_ret2;rw[U.out];exact⟨Ao,co,rfl,⟨G,Y⟩,L⟩
 obtain⟨x,K⟩:=zl d;obtain⟨b,m,rfl,M,q⟩:=HA.out.get K;have X0:=zc q;rw[<-L.cell (by exact M)]at q;have B:=λW=>Va x W (by have:=HS.out x (List.mem_of_getElem? K);omega);have z:=nQ x;have V:=zc K;clear K
 by_cases R:0<=yL x
 case neg=>
  have I:decide (yL x<0)=true:=by simp;omega
  have U:Hid (xy l=([],false)):=zc (by unfold xy;rw[jf (mG V.out R)]);obtain⟨n,C⟩:∃n,yL x=n:=⟨_,rfl⟩;rw[C]at I;simp only[C]at B;have D:=zc B;clear R z C B;go_wp2_with fail;refine(D.out _).mono ?_;rintro e o ⟨rfl,E⟩;go_wp2_with fail;go_ret2;rw[U.out];exact⟨none,0,rfl,jY _ _,za L E⟩
 have I:decide (yL x<0)=false:=by simp;omega
 have S:=zc (nw V.out P.out R);have r:Hid (out++[yL x]=(l.take (k+1)).map yL):=zc (by rw[<-T.out];exact dH V.out);obtain⟨n,C⟩:∃n,yL x=n:=⟨_,rfl⟩;rw[C]at I z r;simp only[C]at B;have D:=zc B;clear R C P B;go_wp2_with fail;refine(D.out _).mono ?_;rintro e w4 ⟨rfl,H⟩;have F:=za L H;have q:=(F.cell (p:=⟨b,m+k,none⟩) M).trans X0.out
 have G:=G.ext H;clear H;go_wp2_with fail;refine(D.out _).mono ?_;rintro e o ⟨rfl,E⟩;have Z:=G.ext E;have N:=za F E;have g:w.heap.size<=o.heap.size:=N.size;clear E G;go_wp2_with (at_builtin;refine zr (enc:=yK) rfl (.tmp 18) (.tmp 24) 55 rfl w.heap.size 3 i0 _ 1 8 Tryz.underlying55 hi h i j rfl (by decide) _ out n rfl Z _ rfl o.heap.size rfl rfl rfl jV O (by decide) g ?_;intro gn F0 w6 J a J0 H0)
 go_roundw
 case rel=>exact⟨k+1,by omega,by go_num,S,by rw[<-r.out];exact J,N.trans a⟩
 case measure=>simp[intOf];omega
theorem ie(A:Option Addr)(c:Nat)(l:List (List UInt8))(B:UInt8)(w:World)(D:zS w A c l)(Q:(zO B l).length<=1000000000) :
  Calls Tryz.prog 44 #[.slice A l.length c,.string ⟨#[B]⟩] w λe K=>e=.returned (.string (bs (zO B l)))/\Below w.heap.size w K:=by
 cases l with
 |nil=>
  refine(Dsk.strings_Join_none A c ⟨#[B]⟩ w).mono λe K ⟨G,h2⟩=>⟨G,?_⟩;rw[h2];exact Below.refl _ _
 |cons x r=>
  obtain⟨b,E,rfl,M,_⟩:=D.get (k:=0) (x:=x) rfl;have C:((x::r).map bs).length=(x::r).length:=List.length_map ..;have F:Lib.join (((x::r).map bs).map (·.data.toList)) (⟨#[B]⟩:ByteArray).data.toList=zO B (x::r):=by
   rw[List.map_map];have L:((λs:ByteArray=>s.data.toList) ∘ bs)=id:=funext λl=>by simp
   rw[L,List.map_id];exact Xw B (x::r)
  have h:=Dsk.strings_Join b E c ((x::r).map bs) ⟨#[B]⟩ w (λj y I=>by
   rw[List.getElem?_map]at I;obtain⟨z,O,rfl⟩:=Option.map_eq_some_iff.1 I;obtain⟨P,J,H,_,N⟩:=D.get O;simp only[Option.some.injEq,Addr.mk.injEq,and_true]at H;obtain⟨rfl,rfl⟩:=H;exact N) M (by
    rw[C];have G:(x::r).length<=(zO B (x::r)).length+1:=dq B _;omega) (by rw[C];exact D.lc) (by rw[F];omega)
  rw[C,F]at h;exact h
theorem xg(e:Int)(C:zM e)(w:World)(G:ITab w) :
  Calls Tryz.prog 31 #[.int .i64 e] w λD H=>D=.returned (.string (bs (yO e)))/\Below w.heap.size w H:=by
 have F:=Lib.itoa_length_le e C.1 C.2;have uF:=wO e C w G;obtain⟨t,A⟩:∃t,Lib.itoa e=t:=⟨_,rfl⟩;have E:Hid (yO e=Ym++t):=zc (by unfold yO;rw[A]);rw[A]at F uF;clear A
 go_enter Tryz.func31,Tryz.ntmps31
 go_wp2_with fail;refine uF.mono ?_;rintro D I ⟨rfl,B⟩;clear uF;go_wp2_with fail;go_ret;refine⟨?_,B⟩;rw[E.out];rfl
theorem nR(A:Option Addr)(c:Nat)(l:List (List UInt8))(w:World)(T:zS w A c l)(hl:l.length<=100000)(p:∀x,x∈l->x.length<=100000) :
  Calls Tryz.prog 33 #[.slice A l.length c] w (lB (xy l) w):=by
 have r:=zc T;have t:=zc p;have m1:=T.len;clear T p;obtain⟨i0,hi,f,g,h⟩:=qA
 go_enter Tryz.func33,Tryz.ntmps33
 go_wp2_with fail
 go_loopw [4,10] (λu v wr=>∃k:Nat,k<=l.length/\v=.int .i64 k/\Hid ((l.take k).all (λs=>decide (0<=yL s))=true)/\Own yK 1 wr w.heap.size 3 u ((l.take k).map yL)/\Below w.heap.size w wr) (λ_ v _=>l.length-(intOf v).toNat)
 case atStart=>exact⟨0,Nat.zero_le _,rfl,zc rfl,Own.nil,Below.refl _ _⟩
 obtain⟨k,hk,rfl,M,I,J⟩:=hrel;have E0:=J.size;have L:((l.take k).map yL).length+1<=1000000:=by rw[List.length_map,List.length_take];omega
 obtain⟨out,a⟩:∃out,(l.take k).map yL=out:=⟨_,rfl⟩;have Q:=zc a;rw[a]at I L;clear a
 by_cases Z:k<l.length
 case neg=>
  obtain rfl:k=l.length:=by omega
  have R:Hid (xy l=(out,true)):=zc (by
   have m:=M.out;have N:=Q.out;rw[List.take_length]at m N;unfold xy;rw[jg m,N])
  have U:∀x,x∈out->zM x:=λx H=>by
   have N:=Q.out;rw[<-N]at H;obtain⟨y,_,rfl⟩:=List.mem_map.1 H;exact dL y
  obtain⟨q,co,rfl⟩:=I.form;clear M;go_wp2_with fail;go_ret2;rw[R.out];exact⟨q,co,rfl,⟨I,U⟩,J⟩
 obtain⟨x,H⟩:=zl Z;obtain⟨b,G0,rfl,X,x0⟩:=r.out.get H;rw[<-J.cell (by exact X)]at x0;have B:=λW=>fQ x W (by have:=t.out x (List.mem_of_getElem? H);omega);have o:=nQ x;have S:=zc H;clear H
 by_cases O:0<=yL x
 case neg=>
  have F:decide (yL x<0)=true:=by simp;omega
  have R:Hid (xy l=([],false)):=zc (by unfold xy;rw[jf (mG S.out O)]);obtain⟨n,C⟩:∃n,yL x=n:=⟨_,rfl⟩;rw[C]at F;simp only[C]at B;have D:=zc B;clear O o C B;go_wp2_with fail;refine(D.out _).mono ?_;rintro e i ⟨rfl,E⟩;go_wp2_with fail;go_ret2;rw[R.out];exact⟨none,0,rfl,jY _ _,za J E⟩
 have F:decide (yL x<0)=false:=by simp;omega
 have P:=zc (nw S.out M.out O);have j:Hid (out++[yL x]=(l.take (k+1)).map yL):=zc (by rw[<-Q.out];exact dH S.out);obtain⟨n,C⟩:∃n,yL x=n:=⟨_,rfl⟩;rw[C]at F o j;simp only[C]at B;have D:=zc B;clear O C M B;go_wp2_with fail;refine(D.out _).mono ?_;rintro e i ⟨rfl,E⟩;have V:=I.ext E;have K:=za J E;have d:w.heap.size<=i.heap.size:=K.size
 clear E I;go_wp2_with (at_builtin;refine zr (enc:=yK) rfl (.tmp 18) (.tmp 20) 55 rfl w.heap.size 3 i0 _ 1 8 Tryz.underlying55 hi f g h rfl (by decide) _ out n rfl V _ rfl i.heap.size rfl rfl rfl jV L (by decide) d ?_;intro gn z w6 G Y D0 B0);go_roundw
 case rel=>exact⟨k+1,by omega,by go_num,P,by rw[<-j.out];exact G,K.trans Y⟩
 case measure=>simp[intOf];omega
def rC(x:Bool):List Value:=[.bool x]
def mH(x:xz):List Value:=[.int .i64 x.a,.int .i64 x.b,.int .i64 x.cost]
theorem Sc:(Tryz.prog.info? 4).map (λi=>(i.zero,i.size,i.bytes))=some (some (.bool false),1,1):=by kernel_rfl
theorem dj:∃i,Tryz.prog.info? 4=some i/\i.zero=some (.bool false)/\i.size=1/\i.bytes=1:=by
 obtain⟨C,B,A⟩:=Option.map_eq_some_iff.1 Sc;simp only[Prod.mk.injEq]at A;exact⟨C,B,A.1,A.2.1,A.2.2⟩
theorem Qo:(Tryz.prog.info? 134).map (λi=>(i.zero,i.size,i.bytes))=some (some (.agg #[.int .i64 0,.int .i64 0,.int .i64 0]),3,24):=by kernel_rfl
theorem av:∃i,Tryz.prog.info? 134=some i/\i.zero=some (.agg #[.int .i64 0,.int .i64 0,.int .i64 0])/\i.size=3/\i.bytes=24:=by
 obtain⟨C,B,A⟩:=Option.map_eq_some_iff.1 Qo;simp only[Prod.mk.injEq]at A;exact⟨C,B,A.1,A.2.1,A.2.2⟩
theorem XI{x:Bool}:∀u∈(#[.bool x]:Array Value).toList,u.oneCell'=true:=by simp[Value.oneCell']
theorem UF{a b c:Int}:∀u∈(#[.int .i64 a,.int .i64 b,.int .i64 c]:Array Value).toList,u.oneCell'=true:=by simp[Value.oneCell']
theorem lY{w:World}{base:Nat}{v:Value}{l:List Bool}(h:Own rC 1 w base 4 v l):∃A c,v=.slice A l.length c/\zU oH 1 w A l:=
 Own.slAt (R:=oH) (enc:=rC) (λ_=>rfl) (λx _ b o hc=>by have:=hc 0 _ rfl;simpa[oH]using this) h
theorem XU{w:World}{base:Nat}{v:Value}{l:List xz}(h:Own mH 3 w base 134 v l)(hi:∀x,x∈l->zM x.a/\zM x.b/\zM x.cost):∃A c,v=.slice A l.length c/\zU Th 3 w A l:=
 Own.slAt (R:=Th) (enc:=mH) (λ_=>rfl) (λx hx b o hc=>by
  have h0:=hc 0 _ rfl;have h1:=hc 1 _ rfl;have h2:=hc 2 _ rfl;exact⟨⟨by simpa using h0,h1,h2⟩,hi x hx⟩) h
def rx(base:Nat)(w:World)(A:Option Addr)(c:Nat)(A':Option Addr)(c':Nat)(s:zH):Prop:=
 wY w A c A' c' s/\Own rC 1 w base 4 (.slice A s.alive.length c) s.alive/\Own mH 3 w base 134 (.slice A' s.arcs.length c') s.arcs
theorem rx.ext{base:Nat}{w w':World}{A A':Option Addr}{c c':Nat}{s:zH}(h:rx base w A c A' c' s)(hb:Below w.heap.size w w'):rx base w' A c A' c' s:=
 ⟨h.1.ext hb,h.2.1.ext hb,h.2.2.ext hb⟩
theorem aU(base:Nat)(w:World):rx base w none 0 none 0 ⟨[],[]⟩:=⟨⟨Nat.le_refl _,Nat.zero_le _,Nat.le_refl _,Nat.zero_le _,zU.nil,zU.nil⟩,Own.nil,Own.nil⟩
theorem zx.arcs{g:zf}(hV:zx g)(t:Int):∀y,y∈wX g t g.edges->zM y.a/\zM y.b/\zM y.cost:=λy hy=>by
 obtain⟨x,lg,hx,_,hm,_,_,rfl⟩:=oK hy;have h:=hV.edges x hx;have h1:=h.a0;have h2:=h.a1;have h3:=h.b0;have h4:=h.b1;have h5:=hV.nl;have h6:=h.legs lg hm;unfold zM;refine⟨⟨by simp only;omega,by simp only;omega⟩,⟨by simp only;omega,by simp only;omega⟩,by simp only;omega,by simp only;omega⟩
theorem Wr{base:Nat}{w:World}{g:zf}{t:Int}{A G:Option Addr}{c H:Nat}(I:zx g)(h1:Own rC 1 w base 4 (.slice A (wn g t).length c) (wn g t))(C:Own mH 3 w base 134 (.slice G (wX g t g.edges).length H) (wX g t g.edges)) :
  rx base w A c G H (xR g t):=by
 refine⟨⟨h1.room.1,h1.room.2,C.room.1,C.room.2,?_,?_⟩,h1,C⟩
 ·obtain⟨B,d,F,E⟩:=lY h1
  injection F with D;subst D;exact E
 obtain⟨B,d,F,E⟩:=XU C (I.arcs t);injection F with D;subst D;exact E
set_option maxHeartbeats 2000000
def Zn(g:zf)(t:Int)(w:World)(e:Ending)(w':World):Prop:=∃A c A' c',e=.returned (.tuple #[sx A c A' c' (pu g t),.int .i64 (wF g t)])/\rx w.heap.size w' A c A' c' (pu g t)/\Below w.heap.size w w'
theorem On(A A':Option Addr)(c c':Nat)(g:zf)(t:Int)(w:World)(hG:zv w A c A' c' g) :
  Calls Tryz.prog 101 #[gV A c A' c' g,.int .i64 t] w (Zn g t w):=by
 have m1:g.lives.length<=9223372036854775807:=Nat.le_trans hG.lc hG.cm;have m2:g.edges.length<=9223372036854775807:=Nat.le_trans hG.lc' hG.cm'
 by_cases h0:zz g=0
 case neg=>
  have HE:Hid (wF g t=zz g):=zc (by unfold wF;rw[if_neg h0]);have HO:Hid (pu g t=⟨[],[]⟩):=zc (RK (by rw[HE.out];exact h0));have hn:(zz g != 0)=true:=by simp[h0]
  clear h0
  go_enter Tryz.func101,Tryz.ntmps101
  go_wp2_with fail;refine(ym _ _ _ _ g _ (hG.ext (by go_grown))).mono ?_;rintro e p ⟨rfl,I⟩;have B:Below w.heap.size w p:=za (by go_grown) I;obtain⟨J,s1,s2,s3⟩:=zj.go (g:=w.heap.size+1) (t:=86) (cs:=#[.slice none 0 0,.slice none 0 0]) (zj.new_ (by simp)) I;go_wp2_with fail;unfold Zn;rw[HE.out,HO.out];refine bodyPost_ret (v:=.tuple #[sx none 0 none 0 ⟨[],[]⟩,.int .i64 (zz g)]) (by simp[results,Tryz.results101,go_sem,s1]) rfl ?_
  exact⟨none,0,none,0,rfl,aU _ _,(B.setCell (by simp) _).setCell (by simp) _⟩
 have hV:=uX h0;have H0:=zc h0;have u2:=hV.h0;have v2:=hV.h1;have M2:=hV.nl;have S0:=hV.ne;clear h0
 by_cases hr:0<=t/\t<=g.h-1
 case neg=>
  have HE:Hid (wF g t=1):=zc (by unfold wF;rw[if_pos H0.out,if_neg hr]);have HO:Hid (pu g t=⟨[],[]⟩):=zc (RK (by rw[HE.out];decide))
  go_enter Tryz.func101,Tryz.ntmps101
  go_wp2_with fail;refine(ym _ _ _ _ g _ (hG.ext (by go_grown))).mono ?_;rw[H0.out];rintro e p ⟨rfl,I⟩;have B:Below w.heap.size w p:=za (by go_grown) I;obtain⟨J,s1,s2,s3⟩:=zj.go (g:=w.heap.size+1) (t:=86) (cs:=#[.slice none 0 0,.slice none 0 0]) (zj.new_ (by simp)) I;obtain⟨H,c1,c2,c3⟩:=zj.go (g:=w.heap.size) (t:=68) (cs:=gC A c A' c' g) ((zj.new _ _ _).alloc _) I;go_wp2_with fail
  refine(nd t 0 (g.h-1) _ (by omega)).mono ?_;rintro e w2 ⟨rfl,rfl⟩;go_wp2_with fail;unfold Zn;rw[HE.out,HO.out];refine bodyPost_ret (v:=.tuple #[sx none 0 none 0 ⟨[],[]⟩,.int .i64 1]) (by simp[results,Tryz.results101,go_sem,s1]) rfl ?_;exact⟨none,0,none,0,rfl,aU _ _,(B.setCell (by simp) _).setCell (by simp) _⟩
 have HE:Hid (wF g t=0):=zc (by unfold wF;rw[if_pos H0.out,if_pos hr]);have HO:Hid (pu g t=xR g t):=zc (OJ HE.out);obtain⟨i0,hi,z1,A2,B2⟩:=dj;obtain⟨j0,g1,t1,u1,v1⟩:=av
 go_enter Tryz.func101,Tryz.ntmps101
 go_wp2_with fail;refine(ym _ _ _ _ g _ (hG.ext (by go_grown))).mono ?_;rw[H0.out];rintro e p ⟨rfl,I⟩;have B:Below w.heap.size w p:=za (by go_grown) I;obtain⟨J,s1,s2,s3⟩:=zj.go (g:=w.heap.size+1) (t:=86) (cs:=#[.slice none 0 0,.slice none 0 0]) (zj.new_ (by simp)) I;obtain⟨H,c1,c2,c3⟩:=zj.go (g:=w.heap.size) (t:=68) (cs:=gC A c A' c' g) ((zj.new _ _ _).alloc _) I;clear I
 go_wp2_with fail;refine(ug t 0 (g.h-1) _ hr).mono ?_;rintro e w2 ⟨rfl,rfl⟩;clear hr;go_wp2_with fail;have M:=zj.new p 86 #[.slice none 0 0,.slice none 0 0];have J:=J.alloc (Obj.cells #[.slice none 0 0,.slice none 0 0] 86);have H:=H.alloc (Obj.cells #[.slice none 0 0,.slice none 0 0] 86);have B:=ze B (Obj.cells #[.slice none 0 0,.slice none 0 0] 86);have V:p.heap.size+1<=(p.alloc (Obj.cells #[.slice none 0 0,.slice none 0 0] 86)).heap.size:=by simp
 have o1:w.heap.size+1<p.heap.size:=s3;clear s1 s2 s3 c1 c2 c3;obtain⟨Q,m0⟩:∃Q,Q=p.heap.size:=⟨_,rfl⟩;rw[<-m0]at M V o1⊢;obtain⟨w3,s0⟩:∃w3:World,w3=p.alloc (Obj.cells #[.slice none 0 0,.slice none 0 0] 86):=⟨_,rfl⟩;rw[<-s0]at M J H B V⊢;clear m0 s0
 go_loopw [29] (λx wr=>∃(k:Nat) (vb:Value) (q:List Bool),k<=g.lives.length/\x=.int .i64 k/\Hid (q=(wn g t).take k)/\q.length<=k/\Own rC 1 wr (Q+1) 4 vb q/\zj wr Q 86 #[vb,.slice none 0 0] /\
  zj wr (w.heap.size+1) 86 #[.slice none 0 0,.slice none 0 0]/\zj wr w.heap.size 68 (gC A c A' c' g)/\Below w.heap.size w wr/\Q+1<=wr.heap.size) (λx _=>g.lives.length-(intOf x).toNat)
 case atStart=>exact⟨0,_,[],Nat.zero_le _,rfl,zc (by simp),by simp,Own.nil,M,J,H,B,V⟩
 clear M J H B V;obtain⟨k,vb,q,hk,rfl,HB,q2,C,M,J,H,B,V⟩:=hrel;obtain⟨f1,f2,f3⟩:=M.facts;obtain⟨c1,c2,c3⟩:=H.facts
 by_cases k1:k<g.lives.length
 case pos=>
   have N1:=zc k1;obtain⟨Ab,cb,rfl⟩:=C.form;go_wp2_with fail;obtain⟨S,R⟩:∃S:World->Prop,Hid (S=λw'=>w'.cell? ⟨Q,0,none⟩=some (.slice Ab q.length cb)/\w'.cell? ⟨w.heap.size,0,none⟩=some (.int .i64 g.h)/\w'.cell? ⟨w.heap.size,1,none⟩=some (.slice A g.lives.length c)/\w'.cell? ⟨w.heap.size,2,none⟩=some (.slice A' g.edges.length c')):=⟨_,zc rfl⟩;have P0:∀wz,Below wr.heap.size wr wz->S wz:=λwz hb=>by
    rw[R.out];exact⟨zD hb (by rw[M.cell];rfl),zD hb (by rw[H.cell];rfl),zD hb (by rw[H.cell];rfl),zD hb (by rw[H.cell];rfl)⟩
   have o2:S wr.drew:=P0 _ (zi (Below.refl _ _));have c0:=zc P0;clear P0;refine zV.begin (S:=S) 9 (by kernel_rfl) ?_;refine tN 0 ?_ ?_ ?_;rotate_left
   ·intro w E;rw[R.out]at E;obtain⟨l,m,n,o⟩:=E;go_simp;try with_reducible rfl
   simp only[pS];refine tN 1 ?_ ?_ ?_;rotate_left
   ·intro w E;rw[R.out]at E;obtain⟨l,m,n,o⟩:=E;go_simp;try with_reducible rfl
   simp only[pS];refine tN 2 ?_ ?_ ?_;rotate_left
   ·intro w E;rw[R.out]at E;obtain⟨l,m,n,o⟩:=E;go_simp;try with_reducible rfl
   simp only[pS];refine tN 3 ?_ ?_ ?_;rotate_left
   ·intro w E;rw[R.out]at E;obtain⟨l,m,n,o⟩:=E;go_simp;try with_reducible rfl
   simp only[pS];refine tN 4 ?_ ?_ ?_;rotate_left
   ·intro w E;rw[R.out]at E;obtain⟨l,m,n,o⟩:=E;go_simp;try with_reducible rfl
   simp only[pS];refine zV.one (i:=5) rfl (by kernel_rfl) λK Z=>?_;go_wp2_with fail;refine(xM A A' c c' g k t _ (hG.ext (za B (by go_grown))) (by omega) (by omega)).mono ?_;rintro e w5 ⟨rfl,W1⟩;have G:Below wr.heap.size wr w5:=za (by go_grown) W1;go_wp2_with fail;have R1:S w5:=c0.out _ G;refine Z.out _ _ ⟨λ_=>R1,?_⟩;clear Z K
   try simp only[pS]
   refine zV.one (i:=6) rfl (by kernel_rfl) λK Z=>?_;go_wp2_with fail;have X1:Below wr.heap.size wr (w5.alloc (Obj.cells #[.bool (zn g k t)] 4)):=ze G _;have S1:=c0.out _ X1;refine Z.out _ _ ⟨λ_=>S1,?_⟩;clear Z K
   try simp only[pS]
   refine zV.one (i:=7) rfl (by kernel_rfl) λK Z=>?_;have O:=C.ext G;have t0:Q+1<=w5.heap.size:=Nat.le_trans V G.size;refine yR (enc:=rC) (.tmp 33) (.tmp 38) 83 rfl (Q+1) 4 i0 _ 1 1 Tryz.underlying83 hi z1 A2 B2 rfl (by decide) _ q (zn g k t) rfl O _ rfl w5.heap.size rfl rfl rfl XI (by omega) (by decide) t0 ?_;intro gn Q1 w6 P f0 T t2;have N:=T _ _ _ (zj.go M G).1 (O.other (zj.go M G).1 (by decide))
   have W:=T _ _ _ (zj.go H G).1 (O.other (zj.go H G).1 (by decide));have J0:=T _ _ _ (zj.go J G).1 (O.other (zj.go J G).1 (by decide));have T1:S w6:=by rw[R.out];exact⟨by rw[N.cell];rfl,by rw[W.cell];rfl,by rw[W.cell];rfl,by rw[W.cell];rfl⟩
   refine Z.out _ _ ⟨λ_=>T1,?_⟩;clear Z K
   try simp only[pS]
   refine tN 8 ?_ ?_ ?_;rotate_left
   ·intro w E;rw[R.out]at E;obtain⟨l,m,n,o⟩:=E;go_simp;try with_reducible rfl
   simp only[pS];refine zV.one (i:=9) rfl (by kernel_rfl) λK Z=>?_;obtain⟨r1,r2,r3⟩:=N.facts;go_wp2_with fail;refine Z.out _ _ ⟨λh=>by omega,?_⟩;clear Z K;refine zV.done (by kernel_rfl) ?_ _;have u:Hid (q++[zn g k t]=(wn g t).take (k+1)):=zc (by rw[cD N1.out,HB.out]);have k0:Below w.heap.size w w6:=(za B G).trans (f0.mono (by omega));have D2:Q+1<=w6.heap.size:=Nat.le_trans t0 f0.size
   go_wp2_with fail;go_roundw
   case rel=>
    refine⟨k+1,_,q++[zn g k t],by omega,by go_num,u,by simp;omega,P.keep (zG N (by decide) 0 _),by simpa using N.set_ 0 (.slice (some ⟨gn,0,none⟩) (q.length+1) Q1),J0.far (by simp;omega) _,W.far (by simp;omega) _,k0.setCell (by simp;omega) _,by simpa using D2⟩
   case measure=>simp[intOf];omega
 have HL:Hid (q=wn g t):=zc (by rw[HB.out,aT (by omega)]);obtain rfl:=HL.out;obtain⟨Ab,cb,rfl⟩:=C.form;have j1:(wn g t).length<=12:=by rw[wu];omega
 have r0:∀v:Int,v<g.lives.length->v<((wn g t).length:Int):=λv h=>by rw[wu];exact h
 have d0:=zc r0;clear r0 HB;go_wp2_with fail
 go_loopw [45] (λx wr=>∃(j:Nat) (va:Value) (U:List xz),j<=g.edges.length/\x=.int .i64 j/\Hid (U=wX g t (g.edges.take j))/\U.length<=j/\Own rC 1 wr (Q+1) 4 (.slice Ab (wn g t).length cb) (wn g t)/\Own mH 3 wr (Q+1) 134 va U /\
  zj wr Q 86 #[.slice Ab (wn g t).length cb,va] /\
  zj wr (w.heap.size+1) 86 #[.slice none 0 0,.slice none 0 0]/\zj wr w.heap.size 68 (gC A c A' c' g)/\Below w.heap.size w wr/\Q+1<=wr.heap.size) (λx _=>g.edges.length-(intOf x).toNat)
 case atStart=>exact⟨0,_,[],Nat.zero_le _,rfl,zc (by simp[wX]),by simp,C,Own.nil,M,J,H,B,V⟩
 clear C M J H B V f1 f2 f3 c1 c2 c3;obtain⟨j,va,U,hj,rfl,HA,V1,C,F,M,J,H,B,V⟩:=hrel;obtain⟨f1,f2,f3⟩:=M.facts;obtain⟨c1,c2,c3⟩:=H.facts;obtain⟨Aa,ca,rfl⟩:=F.form
 by_cases o0:j<g.edges.length
 case neg=>
  have M1:Hid (U=wX g t g.edges):=zc (by rw[HA.out,List.take_of_length_le (by omega)]);clear HA;obtain rfl:=M1.out;obtain⟨s1,s2,s3⟩:=J.facts;have HV:=zc hV;clear V1 j1 hV;go_wp2_with fail;have K:∀(t':TypeId) b cs,t'≠86->zj wr b t' cs->zj ((wr.setCell ⟨w.heap.size+1,0,none⟩ (.slice Ab (wn g t).length cb)).setCell ⟨w.heap.size+1,1,none⟩ (.slice Aa (wX g t g.edges).length ca)) b t' cs:=λt' b cs ht h=>by
   have S0:=wv h J ht;exact(h.far S0 _).far S0 _
  unfold Zn;rw[HE.out,HO.out];refine bodyPost_ret (v:=.tuple #[sx Ab cb Aa ca (xR g t),.int .i64 0]) (by simp[results,Tryz.results101,go_sem,s1,xR]) rfl ?_;exact⟨Ab,cb,Aa,ca,rfl,Wr HV.out ((C.keep (λb cs h=>K _ b cs (by decide) h)).since (by omega)) ((F.keep (λb cs h=>K _ b cs (by decide) h)).since (by omega)),(B.setCell (by simp) _).setCell (by simp) _⟩
 obtain⟨be,oe,hE⟩:=hG.edges;obtain⟨y,hy⟩:=zl o0;obtain⟨rfl,p2,⟨⟨x0,x1,L,cl,x2,C3,D3,hL⟩,_⟩⟩:=hE j y hy;have y0:=x0.now B;have y1:=x1.now B;have y2:=x2.now B;have d:=hV.edges y (List.mem_of_getElem? hy);have U1:=d.a0;have e0:=d.a1;have Z1:=d.b0;have l0:=d.b1;have E3:=d.six;have X:=zc (eB g t hy);have n0:y.legs.length<=maxLen:=by unfold maxLen;omega
 clear hE hy x0 x1 x2
 cases hq:yC t y.legs with
 |none=>
  have HQ:=zc hq;have u:Hid (U=wX g t (g.edges.take (j+1))):=zc (by rw[X.out,YC hq,List.append_nil,HA.out]);clear hq X;go_wp2_with fail;refine(nN L cl y t _ (hL.ext yY.stable (za B (by go_grown))) n0).mono ?_;rw[HQ.out];simp only[aC];rintro e w2 ⟨rfl,Y⟩;have D:Below wr.heap.size wr w2:=za (by go_grown) Y;obtain⟨M,d1,d2,d3⟩:=M.go D;obtain⟨H,e1,e2,e3⟩:=H.go D
  obtain⟨BY,i1,i2,i3⟩:=(zj.new wr 97 #[.int .i64 y.a,.int .i64 y.b,.slice L y.legs.length cl]).go Y;clear f1 f2 f3 c1 c2 c3 y0 y1 y2;go_wp2_with fail;go_roundw
  case rel=>exact⟨j+1,_,U,by omega,by go_num,u,by omega,(C.ext D).alloc _,(F.ext D).alloc _,M.alloc _,(J.go D).1.alloc _,H.alloc _,ze (za B D) _,Nat.le_trans V (Nat.le_trans D.size (by simp))⟩
  case measure=>simp[intOf];omega
 |some lg=>
  have HQ:=zc hq;obtain⟨Am,dm,U0,bm,om,Q0⟩:=lY C;injection U0 with U0;subst U0;obtain⟨rfl,Y1,p0⟩:=Q0 _ _ (lj (t:=t) U1 e0);obtain⟨_,_,p1⟩:=Q0 _ _ (lj (t:=t) Z1 l0);unfold oH at p0 p1;have A3:=d0.out _ e0;have B3:=d0.out _ l0;have r:Hid (zn g y.a t=false->U=wX g t (g.edges.take (j+1))):=zc (λh=>by rw[X.out,UD h,List.append_nil,HA.out]);have s:Hid (zn g y.b t=false->U=wX g t (g.edges.take (j+1))):=zc (λh=>by rw[X.out,UE h,List.append_nil,HA.out])
  have z:Hid (zn g y.a t=true->zn g y.b t=true->U++[⟨y.a,y.b,lg.cost⟩]=wX g t (g.edges.take (j+1))):=zc (λh h'=>by rw[X.out,iW hq h h',HA.out]);clear hq X HA Q0;go_wp2_with fail;refine(nN L cl y t _ (hL.ext yY.stable (za B (by go_grown))) n0).mono ?_;rw[HQ.out];simp only[aC];rintro e w2 ⟨rfl,Y⟩;have D:Below wr.heap.size wr w2:=za (by go_grown) Y
  obtain⟨M,d1,d2,d3⟩:=M.go D;obtain⟨H,e1,e2,e3⟩:=H.go D;obtain⟨BY,i1,i2,i3⟩:=(zj.new wr 97 #[.int .i64 y.a,.int .i64 y.b,.slice L y.legs.length cl]).go Y;have q0:=p0.now D;have q1:=p1.now D;simp only[Nat.mul_one]at q0 q1;have L2:bm<w2.heap.size:=Nat.lt_of_lt_of_le Y1 D.size;have C:=C.ext D;have F:=F.ext D;have J:=(J.go D).1;have B:=za B D;have V:Q+1<=w2.heap.size:=Nat.le_trans V D.size
  clear f1 f2 f3 c1 c2 c3 y0 y1 y2 p0 p1 Y D
  generalize l1:zn g y.a t=pa at *
  generalize n1:zn g y.b t=pb at *
  clear l1 n1
  cases pa
  case false=>
   have u:=zc (r.out rfl);clear r s z;go_wp2_with fail;go_roundw
   case rel=>exact⟨j+1,_,U,by omega,by go_num,u,by omega,C.alloc _,F.alloc _,M.alloc _,J.alloc _,H.alloc _,ze B _,Nat.le_trans V (by simp)⟩
   case measure=>simp[intOf];omega
  case true=>
   cases pb
   case false=>
    have u:=zc (s.out rfl);clear r s z;go_wp2_with fail;go_roundw
    case rel=>exact⟨j+1,_,U,by omega,by go_num,u,by omega,C.alloc _,F.alloc _,M.alloc _,J.alloc _,H.alloc _,ze B _,Nat.le_trans V (by simp)⟩
    case measure=>simp[intOf];omega
   case true=>
    have u:=zc (z.out rfl rfl);clear r s z;have K1:=M.alloc (Obj.cells #[.int .i64 lg.f,.int .i64 lg.t,.int .i64 lg.time,.int .i64 lg.cost] 100);have u0:Q+1<=(w2.alloc (Obj.cells #[.int .i64 lg.f,.int .i64 lg.t,.int .i64 lg.time,.int .i64 lg.cost] 100)).heap.size:=Nat.le_trans V (by simp);go_wp2_with (at_builtin;refine yf (enc:=mH) rfl (.tmp 73) (.tmp 81) 84 rfl (Q+1) 134 j0 _ 3 24 Tryz.underlying84 g1 t1 u1 v1 rfl (by decide) _ U [⟨y.a,y.b,lg.cost⟩] 1 rfl rfl (F.alloc _) _ rfl (w2.heap.size+1) (by simp) rfl rfl UF (by omega) (by decide) u0 ?_;intro v' w6 P G T;obtain⟨Aw,dw,rfl⟩:=P.form;have N:=T _ _ _ K1 (by decide);obtain⟨r1,r2,r3⟩:=N.facts)
    have J0:=T _ _ _ (J.alloc (Obj.cells #[.int .i64 lg.f,.int .i64 lg.t,.int .i64 lg.time,.int .i64 lg.cost] 100)) (by decide);have W:=T _ _ _ (H.alloc (Obj.cells #[.int .i64 lg.f,.int .i64 lg.t,.int .i64 lg.time,.int .i64 lg.cost] 100)) (by decide);have T0:=(C.alloc (Obj.cells #[.int .i64 lg.f,.int .i64 lg.t,.int .i64 lg.time,.int .i64 lg.cost] 100)).keep (λb cs h=>T _ _ _ h (by decide))
    have g0:Below w.heap.size w w6:=(ze B _).trans (G.mono (by omega));have C2:Q+1<=w6.heap.size:=Nat.le_trans u0 G.size;go_roundw
    case rel=>
     refine⟨j+1,_,U++[(⟨y.a,y.b,lg.cost⟩:xz)],by omega,by go_num,u,by simp;omega,T0.keep (zG N (by decide) 1 _),P.keep (zG N (by decide) 1 _),by simpa using N.set_ 1 (.slice Aw (U++[(⟨y.a,y.b,lg.cost⟩:xz)]).length dw),J0.far (by simp;omega) _,W.far (by simp;omega) _,g0.setCell (by simp;omega) _,by simpa using C2⟩
    case measure=>simp[intOf];omega
open Go.RowKit Go.WideShapes Go.Deep Go.Joins Go.ChangeShapes
def WG(w:World)(items:List wk):Prop:=∀it,it∈items->(zU yY 4 w it.2.1 it.1.legs/\it.1.legs.length<=it.2.2/\it.2.2<=maxLen)/\zM it.1.a/\zM it.1.b
section
variable {w w':World}{A:Option Addr}{l:List zA}{items:List wk}{base:Nat}{v:Value}
theorem WG.ext(h:WG w items)(hb:Below w.heap.size w w'):WG w' items:=λit hi=>⟨⟨(h it hi).1.1.ext yY.stable hb,(h it hi).1.2⟩,(h it hi).2⟩
end
theorem rD{P:Program}{o:Oper}{a:Act}{K:Act->World->Prop}{Q:Exit->Act->World->Prop}{w:World}{α:Type}{enc:α->List Value}(s x:Operand)(t:TypeId)
  (X:o.op=.call { callee:=.builtin .append,args:=#[s,x],argTypes:=#[t,t]})
  (base:Nat) (e:TypeId) (i:TypeInfo) (z:Value) (size bytes:Nat) (Z:P.underlying t=some (.slice e)) (hi:P.info? e=some i) (d:i.zero=some z)
  (D:i.size=size) (I:i.bytes=bytes) (R:z.cells.size=size) (N:0<size)
  (v:Value) (l:List α) (y:α) (Y:a.eval s=v) (B:Own enc size w base e v l) (cs:Array Value) (L:cs.toList=enc y) (k:Nat) (M:zj w k e cs) (c:a.eval x=.slice (some ⟨k,0,none⟩) 1 1) (J:cs.size=size)
  (h1:∀u∈cs.toList,u.oneCell'=true) (G:l.length+1<=maxLen) (H:(l.length+1)*bytes<=140737488355328) (A:base<=w.heap.size)
  (h:∀U E,Own enc size E base e U (l++[y])->Below base w E->(∀b F C,zj w b F C->F≠e->zj E b F C)->K (a.put o.dst U) E):Oper.wp P o a w K Q:=by
 refine wp_append_lies w s x t X base e i z size bytes Z hi d D I R N v l.length (l.flatMap enc) Y B ⟨k,0,none⟩ 1 1 cs.toList c (by simp[J])
  (World.news_of_block M) h1 (by omega) G H A _ rfl ?_
 intro g V E W S f _;refine h _ E ?_ ((Below.refl base w).grown S A λk M=>(World.ownsRow.lt B k M).1) λb F C T O=>T.grown S (B.other T O);show E.ownsRow base e size _ (l++[y]).length ((l++[y]).flatMap enc);rw[List.flatMap_append,List.length_append];simpa[L]using W
section
variable {H:Type}{enc:TypeId×Value->H}{W:World}{spare:Nat->Bool}{held:Bool}
end
end Go.Proofs.YtjcimdpldlamfaaGreatDoor
