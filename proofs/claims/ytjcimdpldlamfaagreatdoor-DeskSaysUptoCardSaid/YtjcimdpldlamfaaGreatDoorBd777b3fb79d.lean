import Derived.Test.YtjcimdpldlamfaaGreatDoorBdbff85d689c
import Derived.Test.YtjcimdpldlamfaaGreatDoorBdc1e3e061f2
namespace Go.Proofs.YtjcimdpldlamfaaGreatDoor
set_option maxRecDepth 100000
set_option maxHeartbeats 2000000
open Go.RowKit
def Ol(fs:Nat)(F:Yo)(many:Nat):Prop:=∀(A A' An:Option Addr) (c c' cn:Nat) (g:zf) (n:List Int) (w:World),zv w A c A' c' g->zx g->zI w An cn n->n.length=many->ITab w ->
 Calls Tryz.prog fs #[gV A c A' c' g,.slice An n.length cn] w λe w'=>e=.returned (.string (bs (F g n)))/\(F g n).length<=100000/\Below w.heap.size w w'
theorem SV(A D M:Option Addr)(c E N:Nat)(g:zf)(n:List Int)(w:World)(K:zv w A c D E g)(H:zx g)(L:ITab w) :
  Calls Tryz.prog 49 #[gV A c D E g,.slice M n.length N] w λe P=>e=.returned (.string (bs (sH g n)))/\(sH g n).length<=100000/\Below w.heap.size w P:=by
 have B:=ze (Ae w.heap.size w) (Obj.cells (gC A c D E g) 68);have F:=SL A D c E g _ (K.ext B) (L.ext B);rw[xK H,Aq rfl]at F;have O:=eZ H;have G:Hid (sH g n=sN g++Uw):=zc (by unfold sH;rw[Aq (xK H)]);obtain⟨t,C⟩:∃t,sN g=t:=⟨_,rfl⟩;rw[C]at F O G;clear C K L
 go_enter Tryz.func49,Tryz.ntmps49
 go_wp2_with fail;refine F.mono ?_;rintro e Q ⟨rfl,I⟩;have J:=za B I;clear F;go_wp2_with fail;go_ret;exact⟨by rw[G.out];rfl,by rw[G.out,Ag];have:Uw.length=2:=rfl;omega,J⟩
def tP(verb:List UInt8):Prop:=(∃(many:Nat) (F:Yo) (fs:Nat),xS verb=some (many,F)/\many<=2/\Ol fs F many/\Enters Tryz.prog fs/\∀w,Calls Tryz.prog 32 #[.string (bs verb)] w λe w'=>e=.returned (.tuple #[.int .i64 many,.func (.func fs) #[] #[]])/\Below w.heap.size w w') ∨
 (xS verb=none/\∀w,Calls Tryz.prog 32 #[.string (bs verb)] w λe w'=>e=.returned (.tuple #[.int .i64 0,Value.nilFunc])/\Below w.heap.size w w')
theorem eM:Enters Tryz.prog 49:=enters_of Tryz.func49 (by kernel_rfl) rfl
theorem RI:tP xr:=.inl ⟨0,sH,49,by unfold xS;simp[xr],by decide,λA A' An c c' cn g n w hG hV _ _ ht=>SV A A' An c c' cn g n w hG hV ht,eM,λw=>by
 show Calls Tryz.prog 32 #[.string ⟨#[115,104,111,119]⟩] w _
 go_enter Tryz.func32,Tryz.ntmps32
 go_wp2_with fail;go_ret2;exact⟨rfl,by go_grown⟩⟩
theorem eK:Enters Tryz.prog 51:=enters_of Tryz.func51 (by kernel_rfl) rfl
theorem RG:tP xo:=.inl ⟨2,tT,51,by unfold xS;simp[xr,xo],by decide,λA A' An c c' cn g n w hG hV hN hn ht=>TS A A' An c c' cn g n w hG hV hN hn ht,eK,λw=>by
 show Calls Tryz.prog 32 #[.string ⟨#[104,111,112,115]⟩] w _
 go_enter Tryz.func32,Tryz.ntmps32
 go_wp2_with fail;go_ret2;exact⟨rfl,by go_grown⟩⟩
theorem fW:Enters Tryz.prog 55:=enters_of Tryz.func55 (by kernel_rfl) rfl
theorem To:tP yr:=.inl ⟨2,uj,55,by unfold xS;simp[xr,xo,yr],by decide,λA A' An c c' cn g n w hG hV hN hn ht=>XV A A' An c c' cn g n w hG hV hN hn ht,fW,λw=>by
 show Calls Tryz.prog 32 #[.string ⟨#[99,111,115,116,115]⟩] w _
 go_enter Tryz.func32,Tryz.ntmps32
 go_wp2_with fail;go_ret2;exact⟨rfl,by go_grown⟩⟩
theorem hY:Enters Tryz.prog 58:=enters_of Tryz.func58 (by kernel_rfl) rfl
theorem WR:tP zX:=.inl ⟨1,vA,58,by unfold xS;simp[xr,xo,yr,zX],by decide,λA A' An c c' cn g n w hG hV hN hn ht=>Xz A A' An c c' cn g n w hG hV hN hn ht,hY,λw=>by
 show Calls Tryz.prog 32 #[.string ⟨#[108,97,98,101,108,115]⟩] w _
 go_enter Tryz.func32,Tryz.ntmps32
 go_wp2_with fail;go_ret2;exact⟨rfl,by go_grown⟩⟩
theorem bj:Enters Tryz.prog 60:=enters_of Tryz.func60 (by kernel_rfl) rfl
theorem Pt:tP vJ:=.inl ⟨2,rb,60,by unfold xS;simp[xr,xo,yr,zX,vJ],by decide,λA A' An c c' cn g n w hG hV hN hn ht=>RD A A' An c c' cn g n w hG hV hN hn ht,bj,λw=>by
 show Calls Tryz.prog 32 #[.string ⟨#[97,108,108]⟩] w _
 go_enter Tryz.func32,Tryz.ntmps32
 go_wp2_with fail;go_ret2;exact⟨rfl,by go_grown⟩⟩
theorem fX:Enters Tryz.prog 61:=enters_of Tryz.func61 (by kernel_rfl) rfl
theorem Tp:tP yt:=.inl ⟨2,tG,61,by unfold xS;simp[xr,xo,yr,zX,vJ,yt],by decide,λA A' An c c' cn g n w hG hV hN hn ht=>Vc A A' An c c' cn g n w hG hV hN hn ht,fX,λw=>by
 show Calls Tryz.prog 32 #[.string ⟨#[101,97,114,108,121]⟩] w _
 go_enter Tryz.func32,Tryz.ntmps32
 go_wp2_with fail;go_ret2;exact⟨rfl,by go_grown⟩⟩
theorem eL:Enters Tryz.prog 63:=enters_of Tryz.func63 (by kernel_rfl) rfl
theorem RH:tP xp:=.inl ⟨2,ry,63,by unfold xS;simp[xr,xo,yr,zX,vJ,yt,xp],by decide,λA A' An c c' cn g n w hG hV hN hn ht=>Sn A A' An c c' cn g n w hG hV hN hn ht,eL,λw=>by
 show Calls Tryz.prog 32 #[.string ⟨#[108,97,116,101]⟩] w _
 go_enter Tryz.func32,Tryz.ntmps32
 go_wp2_with fail;go_ret2;exact⟨rfl,by go_grown⟩⟩
theorem fV:Enters Tryz.prog 65:=enters_of Tryz.func65 (by kernel_rfl) rfl
theorem Tn:tP yq:=.inl ⟨2,tF,65,by unfold xS;simp[xr,xo,yr,zX,vJ,yt,xp,yq],by decide,λA A' An c c' cn g n w hG hV hN hn ht=>WW A A' An c c' cn g n w hG hV hN hn ht,fV,λw=>by
 show Calls Tryz.prog 32 #[.string ⟨#[99,104,101,97,112]⟩] w _
 go_enter Tryz.func32,Tryz.ntmps32
 go_wp2_with fail;go_ret2;exact⟨rfl,by go_grown⟩⟩
theorem bn:Enters Tryz.prog 67:=enters_of Tryz.func67 (by kernel_rfl) rfl
theorem Pu:tP vK:=.inl ⟨2,od,67,by unfold xS;simp[xr,xo,yr,zX,vJ,yt,xp,yq,vK],by decide,λA A' An c c' cn g n w hG hV hN hn ht=>RY A A' An c c' cn g n w hG hV hN hn ht,bn,λw=>by
 show Calls Tryz.prog 32 #[.string ⟨#[102,101,119]⟩] w _
 go_enter Tryz.func32,Tryz.ntmps32
 go_wp2_with fail;go_ret2;exact⟨rfl,by go_grown⟩⟩
theorem eJ:Enters Tryz.prog 69:=enters_of Tryz.func69 (by kernel_rfl) rfl
theorem RF:tP xn:=.inl ⟨2,sG,69,by unfold xS;simp[xr,xo,yr,zX,vJ,yt,xp,yq,vK,xn],by decide,λA A' An c c' cn g n w hG hV hN hn ht=>TH A A' An c c' cn g n w hG hV hN hn ht,eJ,λw=>by
 show Calls Tryz.prog 32 #[.string ⟨#[102,97,115,116]⟩] w _
 go_enter Tryz.func32,Tryz.ntmps32
 go_wp2_with fail;go_ret2;exact⟨rfl,by go_grown⟩⟩
theorem RJ(verb:List UInt8)(h0:verb≠xr)(h1:verb≠xo)(h2:verb≠yr)(h3:verb≠zX)(h4:verb≠vJ)(h5:verb≠yt)(h6:verb≠xp)(h7:verb≠yq)(h8:verb≠vK)(h9:verb≠xn):tP verb:=.inr ⟨by unfold xS;simp only[h0,h1,h2,h3,h4,h5,h6,h7,h8,h9,if_false],λw=>by
 have k0:(verb== ([115,104,111,119]:List UInt8))=false:=AH.2 h0;have k1:(verb== ([104,111,112,115]:List UInt8))=false:=AH.2 h1;have k2:(verb== ([99,111,115,116,115]:List UInt8))=false:=AH.2 h2;have k3:(verb== ([108,97,98,101,108,115]:List UInt8))=false:=AH.2 h3;have k4:(verb== ([97,108,108]:List UInt8))=false:=AH.2 h4
 have k5:(verb== ([101,97,114,108,121]:List UInt8))=false:=AH.2 h5;have k6:(verb== ([108,97,116,101]:List UInt8))=false:=AH.2 h6;have k7:(verb== ([99,104,101,97,112]:List UInt8))=false:=AH.2 h7;have k8:(verb== ([102,101,119]:List UInt8))=false:=AH.2 h8;have k9:(verb== ([102,97,115,116]:List UInt8))=false:=AH.2 h9
 clear h0 h1 h2 h3 h4 h5 h6 h7 h8 h9
 go_enter Tryz.func32,Tryz.ntmps32
 go_wp2_with fail;go_ret2;exact⟨rfl,by go_grown⟩⟩
theorem Tq(verb:List UInt8):tP verb:=by
 by_cases A:verb=xr
 ·rw[A];exact RI
 by_cases B:verb=xo
 ·rw[B];exact RG
 by_cases C:verb=yr
 ·rw[C];exact To
 by_cases D:verb=zX
 ·rw[D];exact WR
 by_cases E:verb=vJ
 ·rw[E];exact Pt
 by_cases F:verb=yt
 ·rw[F];exact Tp
 by_cases G:verb=xp
 ·rw[G];exact RH
 by_cases H:verb=yq
 ·rw[H];exact Tn
 by_cases I:verb=vK
 ·rw[I];exact Pu
 by_cases J:verb=xn
 ·rw[J];exact RF
 exact RJ verb A B C D E F G H I J
set_option maxHeartbeats 8000000
def Rs(l:List (List UInt8))(w:World)(e:Ending)(w':World):Prop:=∃(A:Option Addr) (c:Nat) (r:List yy) (ok:Bool),e=.returned (.tuple #[.slice A r.length c,.bool ok])/\(match vu l with|some q=>ok=true/\r=q|none=>ok=false)/\(r.length<=c/\c<=maxLen/\zU mt 2 w' A r)/\Below w.heap.size w w'
theorem Xj{a b:Int}:∀u∈(#[.int .i64 a,.int .i64 b]:Array Value).toList,u.oneCell'=true:=by simp[Value.oneCell']
theorem TR(A:Option Addr)(c:Nat)(l:List (List UInt8))(w:World)(hA:zS w A c l)(hl:l.length<=100000)(hs:∀x,x∈l->x.length<=70000)(hm:mE w) :
  Calls Tryz.prog 45 #[.slice A l.length c] w (Rs l w):=by
 have HA:=zc hA;have HS:=zc hs;have HM:=zc hm;have m1:=hA.len;clear hA hs hm;obtain⟨i0,hi,f0,g0,h0⟩:=info_parts jU
 go_enter Tryz.func45,Tryz.ntmps45
 go_wp2_with fail
 go_loopw [4,14] (λu v wr=>∃(k:Nat) (r:List yy),k<=l.length/\v=.int .i64 k/\Hid (vu (l.take k)=some r)/\r.length<=k/\Hid (∀x,x∈r->zM x.edge/\zM x.depart)/\Own sc 2 wr w.heap.size 64 u r/\Below w.heap.size w wr) (λ_ v _=>l.length-(intOf v).toNat)
 case atStart=>exact⟨0,[],AA _,rfl,zc rfl,by simp,zc (λx d=>by simp at d),Own.nil,Ae _ _⟩
 obtain⟨k,r,hk,rfl,HD,J1,HI,q,hb⟩:=hrel;have K1:=hb.size
 by_cases d0:k<l.length
 case neg=>
  obtain rfl:k=l.length:=by omega
  have HQ:Hid (vu l=some r):=zc (by have h1:=HD.out;rwa[AL]at h1);obtain⟨Ao,co,rfl⟩:=q.form;clear HD;go_wp2_with fail;go_ret2;have M0:=q.room;obtain⟨A9,c9,e0,b0⟩:=iw q HI.out;injection e0 with e1 e2 e3;subst e1 e3;refine⟨Ao,co,r,true,rfl,?_,⟨M0.1,M0.2,b0⟩,hb⟩;rw[HQ.out];exact⟨rfl,rfl⟩
 obtain⟨x,d⟩:=zl d0;obtain⟨b,M1,rfl,c0,x0⟩:=HA.out.get d;rw[<-hb.cell (by exact c0)]at x0;have O0:=HS.out x (Ad d);have hcut:=UO 64 x wr O0 (HM.out.ext hb);have HX:=zc d;have J0:=RS x 64;obtain⟨H,O⟩:∃t,(Lib.cut x [64]).1=t:=⟨_,rfl⟩;obtain⟨I,P⟩:∃t,(Lib.cut x [64]).2.1=t:=⟨_,rfl⟩;obtain⟨t3,N0⟩:∃t,(Lib.cut x [64]).2.2=t:=⟨_,rfl⟩;rw[O,P]at J0
 rw[O,P,N0]at hcut;have HC:Hid ((Lib.cut x [64]).1=H/\(Lib.cut x [64]).2.1=I):=zc ⟨O,P⟩;clear d O P N0;go_wp2_with fail;refine hcut.mono ?_;rintro e w5 ⟨rfl,f,rfl⟩;have W:Below wr.heap.size wr (wr.drewN f):=zo (Ae _ _) f;have s:Own sc 2 (wr.drewN f) w.heap.size 64 _ r:=q.ext W;have H0:=za hb W;have BS:=zj.new (wr.drewN f) 9 #[.string (bs H),.string (bs I)]
 have E0:=pM (l:=[H,I]) BS rfl (by unfold maxLen;simp);have L0:=nR (some ⟨(wr.drewN f).heap.size,0,none⟩) 2 [H,I] ((wr.drewN f).alloc (Obj.cells #[.string (bs H),.string (bs I)] 9)) E0 (by simp) (λz hz=>by simp at hz;rcases hz with rfl|rfl <;> omega);have V:=ze H0 (Obj.cells #[.string (bs H),.string (bs I)] 9);have A0:=s.alloc (Obj.cells #[.string (bs H),.string (bs I)] 9)
 have S:=zc L0;clear hcut q s W H0 BS E0 x0 L0 J0 O0
 cases N:oR x with
 |none=>
  have HQ:Hid (vu l=none):=zc (nH N (Ad HX.out));have T:Hid (xy [H,I]=([],false)):=zc (by
   unfold oR at N;rw[HC.out.1,HC.out.2]at N;unfold xy
   cases h9:yn [H,I]with
   |none=>rfl
   |some n=>rw[h9]at N;simp at N)
  clear N;go_wp2_with fail;refine S.out.mono ?_;rw[T.out];rintro e B ⟨An,cn,rfl,_,F⟩;go_wp2_with fail;go_ret2;refine⟨none,0,[],false,rfl,?_,⟨by simp,by simp[maxLen],zU.nil⟩,za V F⟩;rw[HQ.out]
 |some h=>
  have T:Hid (xy [H,I]=([h.edge,h.depart],true)):=zc (by
   have h9:=Qk N;rw[HC.out.1,HC.out.2]at h9;unfold xy;rw[h9])
  have V0:=zc (Vu HX.out N HD.out);clear N;go_wp2_with fail;refine S.out.mono ?_;rw[T.out];rintro e B ⟨An,cn,rfl,⟨C0,U⟩,F⟩;have U0:Hid (∀y,y∈r++[h]->zM y.edge/\zM y.depart):=zc λy hy=>by
   rcases AK.1 hy with hy|hy
   ·exact HI.out y hy
   obtain rfl:y=h:=by simpa using hy
   exact⟨U y.edge (by simp),U y.depart (by simp)⟩
  obtain⟨J,cs,rfl,_,C,G⟩:=oA C0 (by simp);have y0:B.cell? ⟨J,0,none⟩=some (.int .i64 h.edge):=(C.cell 0).trans (G 0 _ rfl);have y1:B.cell? ⟨J,1,none⟩=some (.int .i64 h.depart):=(C.cell 1).trans (G 1 _ rfl);have K0:=C.lt;have E:=za V F;have B0:=A0.ext F;have Q0:=E.size;have HY:Hid (B.cell? ⟨J,0,none⟩=some (.int .i64 h.edge)/\B.cell? ⟨J,1,none⟩=some (.int .i64 h.depart)):=zc ⟨y0,y1⟩
  have R:Hid (zj B J 3 cs/\cs[0]?=some (.int .i64 h.edge)/\cs[1]?=some (.int .i64 h.depart)):=zc ⟨C,G 0 _ rfl,G 1 _ rfl⟩;clear C0 U C G A0 V F y0 y1 S;simp only[Ap,AC];obtain⟨a,L⟩:∃a:World->Prop,Hid (a=λg=>g.cell? ⟨J,0,none⟩=some (.int .i64 h.edge)/\g.cell? ⟨J,1,none⟩=some (.int .i64 h.depart)):=⟨_,zc rfl⟩;have m:Hid (∀g,Below B.heap.size B g->a g):=zc λg h=>by
   rw[L.out];exact⟨(h.cell (p:=⟨J,0,none⟩) K0).trans HY.out.1,(h.cell (p:=⟨J,1,none⟩) K0).trans HY.out.2⟩
  have X:=zi (Ae B.heap.size B);have a0:a B.drew:=m.out _ X;have W0:=zc B0;have j:=zc E;clear B0 E;go_upto_region 9 with fail;refine zB a (by kernel_rfl) ?_;refine tH 0 ?_ ?_<|tH 1 ?_ ?_<|tH 2 ?_ ?_<|tH 3 ?_ ?_<|tH 4 ?_ ?_<|tH 5 ?_ ?_<|tH 6 ?_ ?_<|tH 7 ?_ ?_ ?_
  iterate 8
   rotate_left;intro w D;rw[L.out]at D;obtain⟨j0,k0⟩:=D;(try simp only[pS]);go_simp;try with_reducible rfl
  try simp only[pS]
  refine zu (i:=8) rfl (by kernel_rfl) λK o=>?_;go_wp2_with fail;have M:=ze X (Obj.cells #[.int .i64 h.edge,.int .i64 h.depart] 64);have D0:=m.out _ M;refine o.out _ _ ⟨D0,?_⟩;clear o K a0
  try simp only[pS]
  refine zu (i:=9) rfl (by kernel_rfl) λK o=>?_;refine rD (enc:=sc) (.tmp 33) (.tmp 41) 62 rfl w.heap.size 64 i0 _ 2 16 Tryz.underlying62 hi f0 g0 h0 rfl (by decide) _ r h rfl ((W0.out.ext X).alloc _) #[.int .i64 h.edge,.int .i64 h.depart] rfl B.heap.size (zj.new _ _ _) rfl rfl Xj (by unfold maxLen;omega) (by omega) (Ai Q0 M.size) ?_;intro v9 w9 Z I0 Y
  have G0:Below w.heap.size w w9:=j.out.trans ((M.mono Q0).trans I0);have Q:a w9:=by
   have hB:=Y _ _ _ (R.out.1.ext M) (by decide);rw[L.out];exact⟨(hB.cell 0).trans R.out.2.1,(hB.cell 1).trans R.out.2.2⟩
  refine o.out _ _ ⟨Q,?_⟩;clear o K D0
  try simp only[pS]
  refine tH 10 ?_ ?_ ?_;rotate_left
  ·intro w D;rw[L.out]at D;obtain⟨j0,k0⟩:=D;(try simp only[pS]);go_simp;try with_reducible rfl
  try simp only[pS]
  refine wpAnyH_done (by kernel_rfl) ?_ _
  try simp only[pS]
  clear Q;go_wp2_with fail;go_roundw
  case rel=>exact⟨k+1,r++[h],by omega,by go_num,V0,by simp;omega,U0,Z,G0⟩
  case measure=>simp[intOf];omega
set_option maxHeartbeats 4000000
theorem je(b Q P:Nat)(N:Option Addr)(text:List UInt8)(n:List Int)(m:Array Value)(F:Yo)(w:World)(R:zj w b 31 #[.string (bs text)])(f:zI w N P n)(A0:text.length<=8192)(l:ITab w)(j:mE w)(v:Enters Tryz.prog Q)
  (k:∀(W:World) (A A':Option Addr) (c c':Nat) (g:zf),Below w.heap.size w W->zv W A c A' c' g->zx g->Calls Tryz.prog Q (#[gV A c A' c' g,.slice N n.length P]++m) W λe Z=>e=.returned (.string (bs (F g n)))/\(F g n).length<=100000/\Below W.heap.size W Z) :
  Calls Tryz.prog 34 #[.pointer (some ⟨b,0,none⟩),.slice N n.length P,.func (.func Q) #[] m] w λe Z=>e=.returned (.string (bs (qc text F n)))/\(qc text F n).length<=100000/\Below w.heap.size w Z:=by
 unfold Enters at v;have m1:n.length<=9223372036854775807:=f.len;have c0:w.cell? ⟨b,0,none⟩=some (.string (bs text)):=R.cell 0;have y:=R.lt;have X:=SJ text w (by omega) j;obtain⟨r,Y⟩:∃r,zY text=r:=⟨_,rfl⟩;have I:=nT text;rw[Y]at X I;have M:=zc Y;have a:=zc l;have u:=zc k;have B:=zc I;clear R f l j k Y I
 go_enter Tryz.func34,Tryz.ntmps34
 go_wp2_with fail;refine X.mono ?_;rintro e w1 ⟨A,c,A',c',rfl,d,S⟩;have q:=zc d;clear X d;have D:=ze S (Obj.cells (gC A c A' c' r.1) 68)
 by_cases G:r.2.2=0
 case neg=>
  have z:(r.2.2 != 0)=true:=by simp[G]
  have K:Hid (qc text F n=yO r.2.2++[32]++Lib.itoa r.2.1):=zc (by unfold qc;rw[M.out,Au G]);have l1:=oN B.out.2;have l2:=Lib.itoa_length_le r.2.1 B.out.1.1 B.out.1.2;have U:=xg r.2.2 B.out.2 _ (a.out.ext D);have uF:=λW (h:Below w.heap.size w W)=>wO r.2.1 B.out.1 W (a.out.ext h);obtain⟨t1,L⟩:∃t,yO r.2.2=t:=⟨_,rfl⟩;obtain⟨t2,J⟩:∃t,Lib.itoa r.2.1=t:=⟨_,rfl⟩
  rw[L]at U K l1;rw[J]at K l2;simp only[J]at uF;have O:=zc uF;have p:=zc U;clear G L J uF U;go_wp2_with fail;refine p.out.mono ?_;rintro e w3 ⟨rfl,H⟩;have E:=za D H;go_wp2_with fail;refine(O.out _ E).mono ?_;rintro e w4 ⟨rfl,T⟩;go_wp2_with fail;go_ret;rw[K.out];exact⟨rfl,by simp only[Ag,Ap,AC];omega,za E T⟩
 have K:Hid (qc text F n=F r.1 n):=zc (by unfold qc;rw[M.out,Aq G]);have i:zx r.1:=by
  have x:=nU (s:=text) (by rw[M.out];exact G)
  rwa[M.out]at x
 have C:=u.out _ A A' c c' r.1 D (q.out.ext (ze (Ae _ _) _)) i;rw[G];have o:=zc C;clear G i C;go_wp2_with fail;refine o.out.mono ?_;rintro e w3 ⟨rfl,V,H⟩;go_wp2_with fail;go_ret;exact⟨by rw[K.out];rfl,by rw[K.out];exact V,za D H⟩
def js(b:Nat)(r:List UInt8×List UInt8)(text:List UInt8)(w:World)(e:Ending)(w':World):Prop:=∃w1,(r.1.length<=8192/\r.2.length<=100000)/\Below w.heap.size w w1/\e=.returned (.string (bs r.2))/\((w'=w1/\r.1=text)∨w'=w1.setCell ⟨b,0,none⟩ (.string (bs r.1)))
theorem QI(b c:Nat)(A:Option Addr)(text:List UInt8)(l:List (List UInt8))(w:World)(Q:zj w b 31 #[.string (bs text)])(K:zS w A c l)(V:(zO 32 l).length<=100000)(F:text.length<=8192)(R:ITab w) :
  Calls Tryz.prog 29 #[.pointer (some ⟨b,0,none⟩),.slice A l.length c] w (js b (mm text l) text w):=by
 have W:=K.len;have P:=zc R;have O:=zc Q;have S:=zc K;clear Q R K
 cases l with
 |nil=>
  have D:Hid (mm text []=(text,yO 3)):=zc rfl;have J:=zc (xg 3 (zt (by decide) (by decide)) w P.out)
  go_enter Tryz.func29,Tryz.ntmps29
  go_wp2_with fail;refine J.out.mono ?_;rintro e C ⟨rfl,B⟩;go_wp2_with fail;go_ret;rw[D.out];exact⟨C,⟨F,wJ (zt (by decide) (by decide))⟩,B,rfl,.inl ⟨rfl,rfl⟩⟩
 |cons x l=>
  have H:=zc (ie A c (x::l) 32 w S.out (by omega));obtain⟨s,E⟩:∃s,zO 32 (x::l)=s:=⟨_,rfl⟩;have N:(((x::l).length:Int)== 0)=false:=AH.2 (by simp only[Ap];omega);obtain⟨k,M⟩:∃k,(x::l).length=k:=⟨_,rfl⟩;rw[E]at V H;rw[M]at W N H⊢
  by_cases I:8192<text.length+(s++[10]).length
  ·have D:Hid (mm text (x::l)=(text,yO 2)):=zc (by unfold mm;rw[Au (by simp),E,Aq I])
   rw[Ag,List.length_singleton]at I;have U:decide (((text.length:Int)+((s.length:Int)+1))>8192)=true:=by simp;omega
   clear E M
   go_enter Tryz.func29,Tryz.ntmps29
   go_wp2_with fail;refine H.out.mono ?_;rintro e C ⟨rfl,B⟩;have T:C.cell? ⟨b,0,none⟩=some (.string (bs text)):=(O.out.ext B).cell 0;have J:=zc (xg 2 (zt (by decide) (by decide)) C (P.out.ext B));go_wp2_with fail;refine J.out.mono ?_;rintro e X ⟨rfl,L⟩;go_wp2_with fail;go_ret;rw[D.out];exact⟨X,⟨F,wJ (zt (by decide) (by decide))⟩,za B L,rfl,.inl ⟨rfl,rfl⟩⟩
  have D:Hid (mm text (x::l)=(text++(s++[10]),Uw)):=zc (by unfold mm;rw[Au (by simp),E,Au I]);rw[Ag,List.length_singleton]at I;have U:decide (((text.length:Int)+((s.length:Int)+1))>8192)=false:=by simp;omega
  clear E M
  go_enter Tryz.func29,Tryz.ntmps29
  go_wp2_with fail;refine H.out.mono ?_;rintro e C ⟨rfl,B⟩;have G:=O.out.ext B;have T:C.cell? ⟨b,0,none⟩=some (.string (bs text)):=G.cell 0;have Y:=G.frozen 0;have Z:=G.lt;clear G;go_wp2_with fail;go_ret;rw[D.out];exact⟨C,⟨by simp only[Ag,Ap,AC];omega,by show Uw.length<=100000;decide⟩,B,rfl,.inr rfl⟩
theorem SD{l:List (List UInt8)}{n:List Int}(h:yn l=some n):n=l.map yL:=by
 unfold yn at h
 split at h
 ·exact(AB h).symm
 simp at h
theorem qX{l:List (List UInt8)}{n:List Int}(h:yn l=some n):xy l=(n,true):=by unfold xy;rw[h]
theorem nS{l:List (List UInt8)}(h:yn l=none):xy l=([],false):=by unfold xy;rw[h]
theorem zS.take{w:World}{A:Option Addr}{c:Nat}{l:List (List UInt8)}(h:zS w A c l)(k:Nat):zS w A c (l.take k):=⟨by have:=h.lc;rw[AE];omega,h.cm,h.sl.take k⟩
theorem zS.drop2{w:World}{b off c:Nat}{l:List (List UInt8)}(h:zS w (some ⟨b,off,none⟩) c l)(A:2<=l.length):zS w (some ⟨b,off+2,none⟩) (c-2) (l.drop 2):=by
 match l,A,h with
 |x::y::r,_,h=>exact h.tail.tail
theorem iL{w:World}{A:Option Addr}{c:Nat}(hc:c<=maxLen):zS w A c []:=⟨by simp,hc,zU.nil⟩
theorem eN:Enters Tryz.prog 46:=enters_of Tryz.func46 (by kernel_rfl) rfl
theorem Xy(b c:Nat)(A:Option Addr)(text:List UInt8)(l:List (List UInt8))(w:World)(o:zj w b 31 #[.string (bs text)])(hA:zS w A c l)(hl:l.length<=100000)(hx:∀x,x∈l->x.length<=70000)(G0:text.length<=8192)(ht:ITab w)(hm:mE w) :
  Calls Tryz.prog 30 #[.pointer (some ⟨b,0,none⟩),.slice A l.length c] w λe w'=>e=.returned (.string (bs (Xg text l)))/\(Xg text l).length<=100000/\Below w.heap.size w w':=by
 have hmf:∀(fn:Fn) (first cap:Array Value) (w:World),(Instr.makeFunc fn first cap).run Tryz.prog w=.ok (.func fn first cap) w:=λ_ _ _ _=>rfl;have m1:=hA.len;have m2:=hA.lc;have m3:c<=9223372036854775807:=hA.cm;have i:=zc ht;have HB:=zc o;have HA:=zc hA;have HX:=zc hx;have HM:=zc hm;clear o ht hA hx hm;have L:Hid (zM 3):=zc (zt (by decide) (by decide))
 by_cases h2:l.length<2
 ·have N:Hid (Xg text l=yO 3):=zc (by unfold Xg;rw[Aq h2])
  have d:=zc (xg 3 L.out w i.out);have hd:decide ((l.length:Int)<2)=true:=by simp;omega
  clear h2
  go_enter Tryz.func30,Tryz.ntmps30
  go_wp2_with fail;refine d.out.mono ?_;rintro e w3 ⟨rfl,C⟩;go_wp2_with fail;go_ret;exact⟨by rw[N.out];rfl,by rw[N.out];exact wJ L.out,C⟩
 have hd:decide ((l.length:Int)<2)=false:=by simp;omega
 have z:(l.take 2).length=2:=by rw[AE];omega
 have y:=nR A c (l.take 2) w (HA.out.take 2) (by omega) (λx h=>by have:=HX.out x (List.mem_of_mem_take h);omega);rw[z]at y;have M:=zc y;obtain⟨x0,H0⟩:=zl (show 0<l.length by omega);obtain⟨ba,oa,rfl,f0,_⟩:=HA.out.get H0;have E0:(l.drop 2).length=l.length-2:=List.length_drop;have f:Hid (∀W:World,Below w.heap.size w W->∀(m:Option Addr) (c2:Nat),zS W m c2 (l.drop 2)->Calls Tryz.prog 45 #[.slice m (l.length-2) c2] W (Rs (l.drop 2) W)):=zc λW h m c2 hS=>by
  have h1:=TR m c2 (l.drop 2) W hS (by omega) (λx h=>HX.out x (List.mem_of_mem_drop h)) (HM.out.ext h)
  rwa[E0]at h1
 have U:Hid (Xg text l=match yn (l.take 2),vu (l.drop 2)with|some n,some q=>qc text (qi q) n|_,_=>yO 3):=zc (by unfold Xg;rw[Au h2];cases yn (l.take 2) <;> cases vu (l.drop 2) <;> rfl);have C0:Hid (∀n,yn (l.take 2)=some n->n.length=2):=zc λn h=>by rw[SD h,Az,z]
 have p:Hid (∀W:World,Below w.heap.size w W->zS W (some ⟨ba,oa+2,none⟩) (c-2) (l.drop 2)):=zc λW h=>(HA.out.ext h).drop2 (by omega);have F0:2<=l.length:=by omega
 have c0:=zc F0;clear y H0 z E0 h2
 by_cases hc:2<c
 case neg=>
  have V0:c=2:=by omega
  have v:l.length=2:=by omega
  have Y:Hid (∀W:World,Below w.heap.size w W->∀(m:Option Addr),Calls Tryz.prog 45 #[.slice m 0 0] W (Rs (l.drop 2) W)):=zc λW h m=>by
   have h1:=f.out W h m 0 (by rw[List.drop_of_length_le (by omega)];exact iL (by simp));rw[v]at h1;exact h1
  subst V0;rw[v];clear v hc F0 m1 m2
  cases Q:yn (l.take 2)with
  |none=>
   rw[nS Q]at M;have N:Hid (Xg text l=yO 3):=zc (by rw[U.out,Q]);clear Q
   go_enter Tryz.func30,Tryz.ntmps30
   go_wp2_with fail;refine M.out.mono ?_;rintro e w3 ⟨a,j,rfl,⟨H,G⟩,C⟩;go_wp2_with fail;refine(Y.out _ C _).mono ?_;rintro e X ⟨O,P,r,ok,rfl,D,F,I⟩;have E:=za C I;have B:=ze E (Obj.cells #[.slice O r.length P] 62);simp only[];have d:=zc (xg 3 L.out _ (i.out.ext B));clear H G D F;go_wp2_with fail;refine d.out.mono ?_
   rintro e w6 ⟨rfl,K⟩;go_wp2_with fail;go_ret;exact⟨by rw[N.out];rfl,by rw[N.out];exact wJ L.out,za B K⟩
  |some n=>
   have T:=C0.out n Q;rw[qX Q]at M
   cases V:vu (l.drop 2)with
   |none=>
    have N:Hid (Xg text l=yO 3):=zc (by rw[U.out,Q,V]);have S:=zc V;clear Q V T
    go_enter Tryz.func30,Tryz.ntmps30
    go_wp2_with fail;refine M.out.mono ?_;rintro e w3 ⟨a,j,rfl,⟨H,G⟩,C⟩;go_wp2_with fail;refine(Y.out _ C _).mono ?_;rintro e X ⟨O,P,r,ok,rfl,D,F,I⟩;have E:=za C I;have B:=ze E (Obj.cells #[.slice O r.length P] 62);rw[S.out]at D;simp only at D;subst D;have d:=zc (xg 3 L.out _ (i.out.ext B));clear H G F;go_wp2_with fail
    refine d.out.mono ?_;rintro e w6 ⟨rfl,K⟩;go_wp2_with fail;go_ret;exact⟨by rw[N.out];rfl,by rw[N.out];exact wJ L.out,za B K⟩
   |some q=>
    have N:Hid (Xg text l=qc text (qi q) n):=zc (by rw[U.out,Q,V]);have S:=zc V;clear Q V;have s:=zc T;clear T
    go_enter Tryz.func30,Tryz.ntmps30
    go_wp2_with fail;refine M.out.mono ?_;rintro e w3 ⟨a,j,rfl,⟨H,G⟩,C⟩;go_wp2_with fail;refine(Y.out _ C _).mono ?_;rintro e X ⟨O,P,r,ok,rfl,D,F,I⟩;have E:=za C I;have B:=ze E (Obj.cells #[.slice O r.length P] 62);rw[S.out]at D;simp only at D;obtain⟨rfl,rfl⟩:=D;have BL:=zj.new X 62 #[.slice O r.length P];obtain⟨N0,R0,hv,Z⟩:=rM H G
    injection hv with e1 e2 e3;subst e1 e3;have J:=Z.ext (ze I (Obj.cells #[.slice O r.length P] 62));have R:=je b 46 j a text n #[.pointer (some ⟨X.heap.size,0,none⟩)] (qi r) (X.alloc (Obj.cells #[.slice O r.length P] 62)) (HB.out.ext B) J G0 (i.out.ext B) (HM.out.ext B) eN (λW A A' c c' g k hG hV=>by
     have o:=BL.ext k;exact UQ A A' a c c' j g n O P X.heap.size r W hG ⟨o.lt,o.cell 0⟩ ⟨F.1,F.2.1,F.2.2.ext mt.stable (za (ze (Ae _ _) _) k)⟩ hV (J.ext k) s.out (i.out.ext (za B k)))
    have t:=zc R;clear H G F BL Z J R;go_wp2_with fail;refine t.out.mono ?_;rintro e w6 ⟨rfl,u,K⟩;go_wp2_with fail;go_ret;exact⟨by rw[N.out];rfl,by rw[N.out];exact u,za B K⟩
 cases Q:yn (l.take 2)with
 |none=>
  rw[nS Q]at M;have N:Hid (Xg text l=yO 3):=zc (by rw[U.out,Q]);clear Q
  go_enter Tryz.func30,Tryz.ntmps30
  go_wp2_with fail;refine M.out.mono ?_;rintro e w3 ⟨a,j,rfl,⟨H,G⟩,C⟩;go_wp2_with fail;refine(f.out _ C _ _ (p.out _ C)).mono ?_;rintro e X ⟨O,P,r,ok,rfl,D,F,I⟩;have E:=za C I;have B:=ze E (Obj.cells #[.slice O r.length P] 62);simp only[];have d:=zc (xg 3 L.out _ (i.out.ext B));clear H G D F;go_wp2_with fail
  refine d.out.mono ?_;rintro e w6 ⟨rfl,K⟩;go_wp2_with fail;go_ret;exact⟨by rw[N.out];rfl,by rw[N.out];exact wJ L.out,za B K⟩
 |some n=>
  have T:=C0.out n Q;rw[qX Q]at M
  cases V:vu (l.drop 2)with
  |none=>
   have N:Hid (Xg text l=yO 3):=zc (by rw[U.out,Q,V]);have S:=zc V;clear Q V T
   go_enter Tryz.func30,Tryz.ntmps30
   go_wp2_with fail;refine M.out.mono ?_;rintro e w3 ⟨a,j,rfl,⟨H,G⟩,C⟩;go_wp2_with fail;refine(f.out _ C _ _ (p.out _ C)).mono ?_;rintro e X ⟨O,P,r,ok,rfl,D,F,I⟩;have E:=za C I;have B:=ze E (Obj.cells #[.slice O r.length P] 62);rw[S.out]at D;simp only at D;subst D;have d:=zc (xg 3 L.out _ (i.out.ext B));clear H G F
   go_wp2_with fail;refine d.out.mono ?_;rintro e w6 ⟨rfl,K⟩;go_wp2_with fail;go_ret;exact⟨by rw[N.out];rfl,by rw[N.out];exact wJ L.out,za B K⟩
  |some q=>
   have N:Hid (Xg text l=qc text (qi q) n):=zc (by rw[U.out,Q,V]);have S:=zc V;clear Q V;have s:=zc T;clear T
   go_enter Tryz.func30,Tryz.ntmps30
   go_wp2_with fail;refine M.out.mono ?_;rintro e w3 ⟨a,j,rfl,⟨H,G⟩,C⟩;go_wp2_with fail;refine(f.out _ C _ _ (p.out _ C)).mono ?_;rintro e X ⟨O,P,r,ok,rfl,D,F,I⟩;have E:=za C I;have B:=ze E (Obj.cells #[.slice O r.length P] 62);rw[S.out]at D;simp only at D;obtain⟨rfl,rfl⟩:=D;have BL:=zj.new X 62 #[.slice O r.length P];obtain⟨N0,R0,hv,Z⟩:=rM H G
   injection hv with e1 e2 e3;subst e1 e3;have J:=Z.ext (ze I (Obj.cells #[.slice O r.length P] 62));have R:=je b 46 j a text n #[.pointer (some ⟨X.heap.size,0,none⟩)] (qi r) (X.alloc (Obj.cells #[.slice O r.length P] 62)) (HB.out.ext B) J G0 (i.out.ext B) (HM.out.ext B) eN (λW A A' c c' g k hG hV=>by
    have o:=BL.ext k;exact UQ A A' a c c' j g n O P X.heap.size r W hG ⟨o.lt,o.cell 0⟩ ⟨F.1,F.2.1,F.2.2.ext mt.stable (za (ze (Ae _ _) _) k)⟩ hV (J.ext k) s.out (i.out.ext (za B k)))
   have t:=zc R;clear H G F BL Z J R;go_wp2_with fail;refine t.out.mono ?_;rintro e w6 ⟨rfl,u,K⟩;go_wp2_with fail;go_ret;exact⟨by rw[N.out];rfl,by rw[N.out];exact u,za B K⟩
theorem fH{c:UInt8}:∀{s:List UInt8},c∉s->zk c s=[s]
 |[],_=>rfl
 |_::_,h=>yc (λe=>h (by simp[e])) (fH λe=>h (List.mem_cons_of_mem _ e))
theorem SB{s:List UInt8}(h:0<=yL s):(64:UInt8)∉s:=λhm=>by
 unfold yL at h
 split at h
 ·next h1=>
  have h2:=List.all_eq_true.1 h1.2 _ hm;simp[vC]at h2
 omega
theorem sq{l:List (List UInt8)}{n:List Int}(h:yn l=some n):n=l.map yL/\∀s,s∈l->0<=yL s:=by
 unfold yn at h
 split at h
 ·next h1=>exact⟨(AB h).symm,λs A=>by have:=List.all_eq_true.1 h1 s A;simpa using this⟩
 simp at h
theorem XO{l:List (List UInt8)}{n:List Int}(h:yn l=some n):∀x,x∈n->0<=x:=λx hx=>by
 obtain⟨rfl,h2⟩:=sq h;obtain⟨s,hs,rfl⟩:=AD.1 hx;exact h2 s hs
theorem PC{s:List UInt8}(h:∀n,yn [(Lib.cut s [64]).1,(Lib.cut s [64]).2.1]≠some n):oR s=none:=by
 unfold oR
 cases A:yn [(Lib.cut s [64]).1,(Lib.cut s [64]).2.1]with
 |none=>rfl
 |some n=>exact absurd A (h n)
theorem Xl{s p q:List UInt8}(h:zk 64 s=[p,q]):oR s=match yn [p,q]with|some n=>some ⟨rG n 0,rG n 1⟩|none=>none:=by
 obtain⟨r,A,B,_⟩:=eF h;obtain rfl:=oB B;unfold oR;rw[A];rfl
theorem Xk{s:List UInt8}(h:(zk 64 s).length≠2):oR s=none:=by
 refine PC λn D=>?_;have A:=(sq D).2
 match hp:zk 64 s with
 |[]=>exact su _ _ hp
 |[p]=>
  obtain rfl:=oB hp;rw[YP hp]at A;have:=A [] (by simp)
  revert this
  decide
 |[p,q]=>rw[hp]at h;exact h rfl
 |p::q::r::ps=>
  obtain⟨t,B,C,_⟩:=eF hp;rw[B]at A;have:=fH (SB (A t (by simp)));rw[C]at this;simp at this
theorem Qj{s:List UInt8}(h:yn (zk 64 s)=none):oR s=none:=by
 by_cases A:(zk 64 s).length=2
 ·match hp:zk 64 s,A with
  |[p,q],_=>
   rw[Xl hp];rw[hp]at h;rw[h]
 exact Xk A
theorem TQ{s:List UInt8}{n:List Int}(h:yn (zk 64 s)=some n)(A:(zk 64 s).length=2):∃a b,n=[a,b]/\oR s=some ⟨a,b⟩:=by
 match hp:zk 64 s,A with
 |[p,q],_=>
  rw[hp]at h;have B:=(sq h).1;subst B;rw[Xl hp,h];exact⟨_,_,rfl,rfl⟩
theorem Xn{l:List (List UInt8)}{k:Nat}{s:List UInt8}{h:yy}{r:List yy}(A:l[k]?=some s)(D:2<=k)(B:oR s=some h)(C:vu ((l.take k).drop 2)=some r):vu ((l.take (k+1)).drop 2)=some (r++[h]):=by
 have E:=zy A;rw[AO,A,List.drop_append_of_le_length (by rw[AE];omega)];exact kZ B C
def xd:List (List UInt8):=[xr,zX,xo,yr,vJ,yt,yq,vK,xp,xn]
theorem UM{a b:List UInt8}(h:bs a=bs b):a=b:=by
 have A:=congrArg (λx:ByteArray=>x.data.toList) h;simpa[bs]using A
theorem gR(j:Nat)(A:j<10):(xd.map bs).getD j ByteArray.empty=bs (xd.getD j []):=by
 match j,A with
 |0,_|1,_|2,_|3,_|4,_|5,_|6,_|7,_|8,_|9,_=>rfl
theorem Pg(k:Nat)(hk:k<10)(hne:∀j,j<k->xd.getD j []≠xd.getD k []):Lib.idxOfS ((xd.map bs).take 10) (bs (xd.getD k []))=k:=
 Lib.idxOfS_hit _ 10 k _ hk (by decide) (gR k hk) λj hj e=>by
  rw[gR j (by omega)]at e;exact hne j hj (UM e)
theorem Rj{v:List UInt8}(h:∀j,j<10->xd.getD j []≠v):Lib.idxOfS ((xd.map bs).take 10) (bs v)=-1:=
 Lib.idxOfS_miss _ 10 _ λj hj e=>by
  rw[gR j hj]at e;exact h j hj (UM e)
theorem cT(v:List UInt8):(∃i:Nat,Lib.idxOfS ((xd.map bs).take 10) (bs v)=i/\i<10/\∃F,xS v=some (min i 2,F))∨(Lib.idxOfS ((xd.map bs).take 10) (bs v)=-1/\xS v=none):=by
 have C:∀k,k<10->∀j,j<k->xd.getD j []≠xd.getD k []:=by decide
 by_cases B:∃j,j<10/\xd.getD j []=v
 ·obtain⟨j,A,rfl⟩:=B
  refine .inl ⟨j,Pg j A (C j A),A,?_⟩
  match j,A with
  |0,_=>exact⟨sH,by unfold xS;simp[xd,xr,xo,yr,zX,vJ,yt,xp,yq,vK,xn]⟩
  |1,_=>exact⟨vA,by unfold xS;simp[xd,xr,xo,yr,zX,vJ,yt,xp,yq,vK,xn]⟩
  |2,_=>exact⟨tT,by unfold xS;simp[xd,xr,xo,yr,zX,vJ,yt,xp,yq,vK,xn]⟩
  |3,_=>exact⟨uj,by unfold xS;simp[xd,xr,xo,yr,zX,vJ,yt,xp,yq,vK,xn]⟩
  |4,_=>exact⟨rb,by unfold xS;simp[xd,xr,xo,yr,zX,vJ,yt,xp,yq,vK,xn]⟩
  |5,_=>exact⟨tG,by unfold xS;simp[xd,xr,xo,yr,zX,vJ,yt,xp,yq,vK,xn]⟩
  |6,_=>exact⟨tF,by unfold xS;simp[xd,xr,xo,yr,zX,vJ,yt,xp,yq,vK,xn]⟩
  |7,_=>exact⟨od,by unfold xS;simp[xd,xr,xo,yr,zX,vJ,yt,xp,yq,vK,xn]⟩
  |8,_=>exact⟨ry,by unfold xS;simp[xd,xr,xo,yr,zX,vJ,yt,xp,yq,vK,xn]⟩
  |9,_=>exact⟨sG,by unfold xS;simp[xd,xr,xo,yr,zX,vJ,yt,xp,yq,vK,xn]⟩
 have h:∀j,j<10->xd.getD j []≠v:=λj A e=>B ⟨j,A,e⟩;refine .inr ⟨Rj h,?_⟩;have k:∀j,j<10->¬v=xd.getD j []:=λj A e=>h j A e.symm;unfold xS;rw[Au (show ¬v=xr from k 0 (by decide)),Au (show ¬v=xo from k 2 (by decide)),Au (show ¬v=yr from k 3 (by decide)),Au (show ¬v=zX from k 1 (by decide)),Au (show ¬v=vJ from k 4 (by decide)),Au (show ¬v=yt from k 5 (by decide)),Au (show ¬v=xp from k 8 (by decide)),Au (show ¬v=yq from k 6 (by decide)),Au (show ¬v=vK from k 7 (by decide)),Au (show ¬v=xn from k 9 (by decide))]
noncomputable def pv(text verb:List UInt8)(w:List (List UInt8)):List UInt8:=if verb=bI then Xg text w else ur text verb w
theorem kR{text verb:List UInt8}{w:List (List UInt8)}(h:xS verb=none):ur text verb w=yO 3:=by
 unfold ur;rw[h]
theorem WS{text verb:List UInt8}{w:List (List UInt8)}{k:Nat}{F:Yo}(h:xS verb=some (k,F)):(w.length≠k->ur text verb w=yO 3)/\(yn w=none->ur text verb w=yO 3)/\∀n,yn w=some n->w.length=k->ur text verb w=qc text F n/\n.length=k:=by
 unfold ur;rw[h];refine⟨λB=>?_,λA=>?_,λn A B=>?_⟩
 ·cases A:yn w with
  |none=>rfl
  |some n=>
   have:=congrArg List.length (sq A).1;rw[Az]at this;simp only;rw[Au (by omega)]
 ·rw[A]
 have:=congrArg List.length (sq A).1;rw[Az]at this;rw[A];simp only;rw[Aq (by omega)];exact⟨rfl,by omega⟩
theorem Py(text verb:List UInt8)(w:List (List UInt8))(h1:¬(verb=pj/\w≠[]))(E:¬(verb=qe/\w=[])):kq text verb w=(text,pv text verb w):=by
 unfold kq pv
 by_cases D:verb=pj
 ·subst D
  have B:w=[]:=Classical.byContradiction λh=>h1 ⟨rfl,h⟩;subst B;rw[Aq rfl,Au (by decide),kR (by unfold xS;simp[pj,xr,xo,yr,zX,vJ,yt,xp,yq,vK,xn])];rfl
 rw[Au D]
 by_cases A:verb=bI
 ·rw[Aq A,Aq A]
 rw[Au A,Au A]
 by_cases C:verb=qe
 ·subst C
  have B:¬w=[]:=λh=>E ⟨rfl,h⟩;rw[Aq rfl,Au B,kR (by unfold xS;simp[qe,xr,xo,yr,zX,vJ,yt,xp,yq,vK,xn])]
 rw[Au C]
theorem Tz{text:List UInt8}{w:List (List UInt8)}:kq text pj w=mm text w:=by unfold kq;rw[Aq rfl]
theorem Ty{text:List UInt8}:kq text qe []=([],Uw):=by unfold kq;rw[Au (by decide),Au (by decide),Aq rfl,Aq rfl]
