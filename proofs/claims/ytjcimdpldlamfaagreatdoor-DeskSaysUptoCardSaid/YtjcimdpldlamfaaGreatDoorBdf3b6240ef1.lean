import Derived.Test.YtjcimdpldlamfaaGreatDoorBd04501c2b0a
import Derived.Test.YtjcimdpldlamfaaGreatDoorBd5f7c5402a5
import Derived.Test.YtjcimdpldlamfaaGreatDoorBd3ff6d773aa
namespace Go.Proofs.YtjcimdpldlamfaaGreatDoor
set_option maxRecDepth 100000
set_option maxHeartbeats 8000000
open Go.RowKit
theorem Ue{verb:List UInt8}{f:Nat×Yo}(B:xS verb=some f)(A D E:Option Addr)(c F G:Nat)(g:zf)(n:List Int)(H:Value)(w:World)(I:zv w A c D F g)(J:zx g)(L:zI w E G n)(M:n.length=f.1)(C:∀x,x∈n->0<=x)(K:ITab w) :
  Calls Tryz.prog 40 #[gV A c D F g,.string (bs verb),.slice E n.length G,H] w λe X=>e=.returned (.string (bs (f.2 g n)))/\Below w.heap.size w X:=by
 by_cases N:verb=xr
 ·subst N
  have e:xS xr=some (0,sH):=by unfold xS;simp[xr]
  rw[e]at B;obtain rfl:=AB B;exact Wg A D E c F G g n H w I J K
 by_cases O:verb=xo
 ·subst O
  have e:xS xo=some (2,tT):=by unfold xS;simp[xr,xo]
  rw[e]at B;obtain rfl:=AB B;exact We A D E c F G g n H w I J L M C K
 by_cases P:verb=yr
 ·subst P
  have e:xS yr=some (2,uj):=by unfold xS;simp[xr,xo,yr]
  rw[e]at B;obtain rfl:=AB B;exact ZW A D E c F G g n H w I J L M C K
 by_cases Q:verb=zX
 ·subst Q
  have e:xS zX=some (1,vA):=by unfold xS;simp[xr,xo,yr,zX]
  rw[e]at B;obtain rfl:=AB B;exact bE A D E c F G g n H w I J L M C K
 by_cases R:verb=vJ
 ·subst R
  have e:xS vJ=some (2,rb):=by unfold xS;simp[xr,xo,yr,zX,vJ]
  rw[e]at B;obtain rfl:=AB B;exact Ud A D E c F G g n H w I J L M C K
 by_cases S:verb=yt
 ·subst S
  have e:xS yt=some (2,tG):=by unfold xS;simp[xr,xo,yr,zX,vJ,yt]
  rw[e]at B;obtain rfl:=AB B;exact ZX A D E c F G g n H w I J L M C K
 by_cases T:verb=xp
 ·subst T
  have e:xS xp=some (2,ry):=by unfold xS;simp[xr,xo,yr,zX,vJ,yt,xp]
  rw[e]at B;obtain rfl:=AB B;exact Wf A D E c F G g n H w I J L M C K
 by_cases U:verb=yq
 ·subst U
  have e:xS yq=some (2,tF):=by unfold xS;simp[xr,xo,yr,zX,vJ,yt,xp,yq]
  rw[e]at B;obtain rfl:=AB B;exact ZV A D E c F G g n H w I J L M C K
 by_cases V:verb=vK
 ·subst V
  have e:xS vK=some (2,od):=by unfold xS;simp[xr,xo,yr,zX,vJ,yt,xp,yq,vK]
  rw[e]at B;obtain rfl:=AB B;exact Uf A D E c F G g n H w I J L M C K
 by_cases W:verb=xn
 ·subst W
  have e:xS xn=some (2,sG):=by unfold xS;simp[xr,xo,yr,zX,vJ,yt,xp,yq,vK,xn]
  rw[e]at B;obtain rfl:=AB B;exact Wd A D E c F G g n H w I J L M C K
 unfold xS at B;rw[Au N,Au O,Au P,Au Q,Au R,Au S,Au T,Au U,Au V,Au W]at B;simp at B
theorem Qn:Lib.idxOfS ((xd.map bs).take 10) (bs bI)=-1:=by
 rcases cT bI with⟨i,_,_,F,h⟩|⟨h,_⟩
 ·unfold xS at h
  simp[bI,xr,xo,yr,zX,vJ,yt,xp,yq,vK,xn]at h
 exact h
theorem iO(w:World)(j:Nat)(A:j<(xd.map bs).length):(w.alloc (Obj.cells #[.string ⟨#[115,104,111,119]⟩,.string ⟨#[108,97,98,101,108,115]⟩,.string ⟨#[104,111,112,115]⟩,.string ⟨#[99,111,115,116,115]⟩,.string ⟨#[97,108,108]⟩,.string ⟨#[101,97,114,108,121]⟩,.string ⟨#[99,104,101,97,112]⟩,.string ⟨#[102,101,119]⟩,.string ⟨#[108,97,116,101]⟩,.string ⟨#[102,97,115,116]⟩] 9)).cell? ⟨w.heap.size,0+j,none⟩=some (.string ((xd.map bs).getD j ByteArray.empty)):=by
 have B:=zj.new w 9 #[.string ⟨#[115,104,111,119]⟩,.string ⟨#[108,97,98,101,108,115]⟩,.string ⟨#[104,111,112,115]⟩,.string ⟨#[99,111,115,116,115]⟩,.string ⟨#[97,108,108]⟩,.string ⟨#[101,97,114,108,121]⟩,.string ⟨#[99,104,101,97,112]⟩,.string ⟨#[102,101,119]⟩,.string ⟨#[108,97,116,101]⟩,.string ⟨#[102,97,115,116]⟩];rw[Nat.zero_add,B.cell];have A:j<10:=A
 match j,A with
 |0,_|1,_|2,_|3,_|4,_|5,_|6,_|7,_|8,_|9,_=>rfl
theorem QD(A:Option Addr)(c:Nat)(text:List UInt8)(l:List (List UInt8))(w:World)(E:zS w A c l)(f:l.length<=70000)(O:∀x,x∈l->x.length<=70000)(_W:text.length<=8192)(N:ITab w)(M:l.length<2) :
  Calls Tryz.prog 25 #[.string (bs text),.string ⟨#[103,111]⟩,.slice A l.length c] w λe Z=>e=.returned (.string (bs (pv text bI l)))/\Below w.heap.size w Z:=by
 have g:=E.len;have i:=E.lc;have j:c<=9223372036854775807:=E.cm;have U:=zc N;have Q:=zc E;have V:=zc O;have G:Hid (zM 3):=zc (zt (by decide) (by decide));clear N E O;have F:=ze (Ae w.heap.size w) (Obj.cells #[.string ⟨#[115,104,111,119]⟩,.string ⟨#[108,97,98,101,108,115]⟩,.string ⟨#[104,111,112,115]⟩,.string ⟨#[99,111,115,116,115]⟩,.string ⟨#[97,108,108]⟩,.string ⟨#[101,97,114,108,121]⟩,.string ⟨#[99,104,101,97,112]⟩,.string ⟨#[102,101,119]⟩,.string ⟨#[108,97,116,101]⟩,.string ⟨#[102,97,115,116]⟩] 9)
 have T:Hid (pv text bI l=yO 3):=zc (by unfold pv Xg;rw[Aq rfl,Aq M]);have d:decide ((l.length:Int) ≥ 2)=false:=by simp;omega
 have C:=Dsk.slices_Index_string w.heap.size 0 10 10 (xd.map bs) (bs bI) (w.alloc (Obj.cells #[.string ⟨#[115,104,111,119]⟩,.string ⟨#[108,97,98,101,108,115]⟩,.string ⟨#[104,111,112,115]⟩,.string ⟨#[99,111,115,116,115]⟩,.string ⟨#[97,108,108]⟩,.string ⟨#[101,97,114,108,121]⟩,.string ⟨#[99,104,101,97,112]⟩,.string ⟨#[102,101,119]⟩,.string ⟨#[108,97,116,101]⟩,.string ⟨#[102,97,115,116]⟩] 9)) (by decide) (by decide) (iO w)
 rw[Qn]at C;have D:=wR A c l (w.alloc (Obj.cells #[.string ⟨#[115,104,111,119]⟩,.string ⟨#[108,97,98,101,108,115]⟩,.string ⟨#[104,111,112,115]⟩,.string ⟨#[99,111,115,116,115]⟩,.string ⟨#[97,108,108]⟩,.string ⟨#[101,97,114,108,121]⟩,.string ⟨#[99,104,101,97,112]⟩,.string ⟨#[102,101,119]⟩,.string ⟨#[108,97,116,101]⟩,.string ⟨#[102,97,115,116]⟩] 9)) (Q.out.ext F) (by omega) (λx h=>by have:=V.out x h;omega)
 obtain⟨n,Y,L⟩:∃n X,xy l=(n,X):=⟨_,_,rfl⟩;rw[L]at D;have H:=zc C;have I:=zc D;have S:=zc L;clear C D L;clear M
 go_enter Tryz.func25,Tryz.ntmps25
 go_wp2_with fail;refine H.out.mono ?_;rintro e P ⟨rfl,rfl⟩;go_wp2_with fail;refine I.out.mono ?_;rintro e P ⟨a,b,rfl,_,J⟩;have B:=za F J;have R:=zc (zP 3 G.out P (U.out.ext (B)));go_wp2_with fail;refine R.out.mono ?_;rintro e k ⟨rfl,K⟩;go_wp2_with fail;go_ret;exact⟨by rw[T.out];rfl,za (B) K⟩
theorem QC(A:Option Addr)(c:Nat)(text verb:List UInt8)(l:List (List UInt8))(w:World)(y:zS w A c l)(hl:l.length<=70000)(hx:∀x,x∈l->x.length<=70000)(q0:text.length<=8192)(ht:ITab w)(O:¬verb=bI) :
  Calls Tryz.prog 25 #[.string (bs text),.string (bs verb),.slice A l.length c] w λe w'=>e=.returned (.string (bs (pv text verb l)))/\Below w.heap.size w w':=by
 have m1:=y.len;have m2:=y.lc;have m3:c<=9223372036854775807:=y.cm;have o:=zc ht;have HA:=zc y;have HX:=zc hx;have Z:Hid (zM 3):=zc (zt (by decide) (by decide));clear ht y hx;have H:=ze (Ae w.heap.size w) (Obj.cells #[.string ⟨#[115,104,111,119]⟩,.string ⟨#[108,97,98,101,108,115]⟩,.string ⟨#[104,111,112,115]⟩,.string ⟨#[99,111,115,116,115]⟩,.string ⟨#[97,108,108]⟩,.string ⟨#[101,97,114,108,121]⟩,.string ⟨#[99,104,101,97,112]⟩,.string ⟨#[102,101,119]⟩,.string ⟨#[108,97,116,101]⟩,.string ⟨#[102,97,115,116]⟩] 9)
 have m0:(verb== [103,111])=false:=by simpa[bI]using O
 rcases cT verb with⟨i,C,a0,F,p⟩|⟨C,p⟩
 case inr=>
  have V:Hid (pv text verb l=yO 3):=zc (by unfold pv;rw[Au O,kR p]);have E:=Dsk.slices_Index_string w.heap.size 0 10 10 (xd.map bs) (bs verb) (w.alloc (Obj.cells #[.string ⟨#[115,104,111,119]⟩,.string ⟨#[108,97,98,101,108,115]⟩,.string ⟨#[104,111,112,115]⟩,.string ⟨#[99,111,115,116,115]⟩,.string ⟨#[97,108,108]⟩,.string ⟨#[101,97,114,108,121]⟩,.string ⟨#[99,104,101,97,112]⟩,.string ⟨#[102,101,119]⟩,.string ⟨#[108,97,116,101]⟩,.string ⟨#[102,97,115,116]⟩] 9)) (by decide) (by decide) (iO w)
  rw[C]at E;have G:=wR A c l (w.alloc (Obj.cells #[.string ⟨#[115,104,111,119]⟩,.string ⟨#[108,97,98,101,108,115]⟩,.string ⟨#[104,111,112,115]⟩,.string ⟨#[99,111,115,116,115]⟩,.string ⟨#[97,108,108]⟩,.string ⟨#[101,97,114,108,121]⟩,.string ⟨#[99,104,101,97,112]⟩,.string ⟨#[102,101,119]⟩,.string ⟨#[108,97,116,101]⟩,.string ⟨#[102,97,115,116]⟩] 9)) (HA.out.ext H) (by omega) (λx h=>by have:=HX.out x h;omega)
  obtain⟨n,H0,g⟩:∃n ok,xy l=(n,ok):=⟨_,_,rfl⟩;rw[g]at G;have J:=zc E;have K:=zc G;have b:=zc g;clear E G g;clear O p C
  go_enter Tryz.func25,Tryz.ntmps25
  go_wp2_with fail;refine J.out.mono ?_;rintro e P ⟨rfl,rfl⟩;go_wp2_with fail;refine K.out.mono ?_;rintro e P ⟨An,cn,rfl,_,D⟩;have B:=za H D;have a:=zc (zP 3 Z.out P (o.out.ext (B)));go_wp2_with fail;refine a.out.mono ?_;rintro e w9 ⟨rfl,N⟩;go_wp2_with fail;go_ret;exact⟨by rw[V.out];rfl,za (B) N⟩
 have n0:decide ((i:Int)<0)=false:=by simp
 have E:=Dsk.slices_Index_string w.heap.size 0 10 10 (xd.map bs) (bs verb) (w.alloc (Obj.cells #[.string ⟨#[115,104,111,119]⟩,.string ⟨#[108,97,98,101,108,115]⟩,.string ⟨#[104,111,112,115]⟩,.string ⟨#[99,111,115,116,115]⟩,.string ⟨#[97,108,108]⟩,.string ⟨#[101,97,114,108,121]⟩,.string ⟨#[99,104,101,97,112]⟩,.string ⟨#[102,101,119]⟩,.string ⟨#[108,97,116,101]⟩,.string ⟨#[102,97,115,116]⟩] 9)) (by decide) (by decide) (iO w)
 rw[C]at E;have G:=wR A c l (w.alloc (Obj.cells #[.string ⟨#[115,104,111,119]⟩,.string ⟨#[108,97,98,101,108,115]⟩,.string ⟨#[104,111,112,115]⟩,.string ⟨#[99,111,115,116,115]⟩,.string ⟨#[97,108,108]⟩,.string ⟨#[101,97,114,108,121]⟩,.string ⟨#[99,104,101,97,112]⟩,.string ⟨#[102,101,119]⟩,.string ⟨#[108,97,116,101]⟩,.string ⟨#[102,97,115,116]⟩] 9)) (HA.out.ext H) (by omega) (λx h=>by have:=HX.out x h;omega)
 obtain⟨n,H0,g⟩:∃n ok,xy l=(n,ok):=⟨_,_,rfl⟩;rw[g]at G;have J:=zc E;have K:=zc G;have b:=zc g;clear E G g;have R:=zc (@WS text verb l (min i 2) F p);have Y:Hid (pv text verb l=ur text verb l):=zc (by unfold pv;rw[Au O]);have q:=zc p;clear O p C;obtain⟨k,hk⟩:∃k,min i 2=k:=⟨_,rfl⟩;rw[hk]at R q;have o0:(if (2:Int)<(i:Int) then (2:Int) else (i:Int))=(k:Int):=by split <;> omega
 have p0:min (i:Int) 2=(k:Int):=by omega
 clear hk
 by_cases U:l.length=k
 case neg=>
  have F0:((l.length:Int) != (k:Int))=true:=by simp;omega
  have V:Hid (pv text verb l=yO 3):=zc (by rw[Y.out];exact R.out.1 U);clear U
  go_enter Tryz.func25,Tryz.ntmps25
  go_wp2_with fail;refine J.out.mono ?_;rintro e P ⟨rfl,rfl⟩;go_wp2_with fail;refine K.out.mono ?_;rintro e P ⟨An,cn,rfl,_,D⟩;have B:=za H D;have a:=zc (zP 3 Z.out P (o.out.ext (B)));go_wp2_with fail;refine a.out.mono ?_;rintro e w9 ⟨rfl,N⟩;go_wp2_with fail;go_ret;exact⟨by rw[V.out];rfl,za (B) N⟩
 have F0:((l.length:Int) != (k:Int))=false:=by simp;omega
 have Q0:=zc U;clear U
 cases H0 with
 |false=>
  have V:Hid (pv text verb l=yO 3):=zc (by
   rw[Y.out];refine R.out.2.1 ?_;have I:=b.out;unfold xy at I
   cases hn:yn l with
   |none=>rfl
   |some n=>rw[hn]at I;simp at I)
  go_enter Tryz.func25,Tryz.ntmps25
  go_wp2_with fail;refine J.out.mono ?_;rintro e P ⟨rfl,rfl⟩;go_wp2_with fail;refine K.out.mono ?_;rintro e P ⟨An,cn,rfl,_,D⟩;have B:=za H D;have a:=zc (zP 3 Z.out P (o.out.ext (B)));go_wp2_with fail;refine a.out.mono ?_;rintro e w9 ⟨rfl,N⟩;go_wp2_with fail;go_ret;exact⟨by rw[V.out];rfl,za (B) N⟩
 |true=>
  have u:Hid (yn l=some n):=zc (by
   have I:=b.out;unfold xy at I
   cases hn:yn l with
   |none=>rw[hn]at I;simp at I
   |some n'=>rw[hn]at I;simp only[Prod.mk.injEq,and_true]at I;rw[I])
  have v:=zc (R.out.2.2 n u.out Q0.out);have V:Hid (pv text verb l=qc text F n):=zc (by rw[Y.out];exact v.out.1)
  go_enter Tryz.func25,Tryz.ntmps25
  go_wp2_with fail;refine J.out.mono ?_;rintro e P ⟨rfl,rfl⟩;go_wp2_with fail;refine K.out.mono ?_;rintro e P ⟨An,cn,rfl,⟨C0,B0⟩,D⟩;have B:=za H D;obtain⟨f0,k0,hv,A0⟩:=rM C0 B0;injection hv with e1 e2 e3;subst e1 e3;have O0:=zc A0;clear C0 B0 A0 e2;have hp:=fK text P (by omega);obtain⟨r,hr⟩:∃r,zY text=r:=⟨_,rfl⟩;have j:=nT text;rw[hr]at hp j
  have HR:=zc hr;have M:=zc j;have HP:=zc hp;clear hp hr j;go_wp2_with fail;refine HP.out.mono ?_;rintro e w5 ⟨A1,c1,Q,S,rfl,hG,D0⟩;have HG:=zc hG;clear hG;have T:=ze (za (B) D0) (Obj.cells (gC A1 c1 Q S r.1) 68);have E0:=ze D0 (Obj.cells (gC A1 c1 Q S r.1) 68)
  by_cases d:r.2.2=0
  case neg=>
   have F0:(r.2.2 != 0)=true:=by simp[d]
   have L:Hid (qc text F n=yO r.2.2++[32]++Lib.itoa r.2.1):=zc (by unfold qc;rw[HR.out,Au d]);have l1:=oN M.out.2;have l2:=Lib.itoa_length_le r.2.1 M.out.1.1 M.out.1.2;have hf:=zP r.2.2 M.out.2 _ (o.out.ext T);have uF:=λW (h:Below w.heap.size w W)=>wO r.2.1 M.out.1 W (o.out.ext h);obtain⟨t1,G0⟩:∃t,yO r.2.2=t:=⟨_,rfl⟩;obtain⟨t2,m⟩:∃t,Lib.itoa r.2.1=t:=⟨_,rfl⟩
   rw[G0]at hf L l1;rw[m]at L l2;simp only[m]at uF;have P0:=zc uF;have a:=zc hf;clear d G0 m uF hf;go_wp2_with fail;refine a.out.mono ?_;rintro e w7 ⟨rfl,f⟩;have X:=za T f;go_wp2_with fail;refine(P0.out _ X).mono ?_;rintro e w8 ⟨rfl,R0⟩;go_wp2_with fail;go_ret;rw[V.out,L.out];exact⟨rfl,za X R0⟩
  have L:Hid (qc text F n=F r.1 n):=zc (by unfold qc;rw[HR.out,Aq d]);have hV:zx r.1:=by
   have I:=nU (s:=text) (by rw[HR.out];exact d)
   rwa[HR.out]at I
  have z:=HG.out.ext (ze (Ae _ _) (Obj.cells (gC A1 c1 Q S r.1) 68));have HC:=zc (Ue q.out A1 Q An c1 S cn r.1 n (.slice none 0 0) _ z hV (O0.out.ext E0) v.out.2 (XO u.out) (o.out.ext T));rw[d];clear d hV z;go_wp2_with fail;refine HC.out.mono ?_;rintro e w7 ⟨rfl,f⟩;go_wp2_with fail;go_ret;exact⟨by rw[V.out,L.out];rfl,za T f⟩
theorem PK(A:Option Addr)(c:Nat)(text:List UInt8)(l:List (List UInt8))(w:World)(hA:zS w A c l)(hl:l.length<=70000)(hx:∀x,x∈l->x.length<=70000)(D3:text.length<=8192)(ht:ITab w)(h2:2<=l.length) :
  Calls Tryz.prog 25 #[.string (bs text),.string ⟨#[103,111]⟩,.slice A l.length c] w λe w'=>e=.returned (.string (bs (pv text bI l)))/\Below w.heap.size w w':=by
 have m1:=hA.len;have m2:=hA.lc;have m3:c<=9223372036854775807:=hA.cm;have HT:=zc ht;have HA:=zc hA;have HX:=zc hx;have K0:Hid (zM 3):=zc (zt (by decide) (by decide));clear ht hA hx;have R0:=ze (Ae w.heap.size w) (Obj.cells #[.string ⟨#[115,104,111,119]⟩,.string ⟨#[108,97,98,101,108,115]⟩,.string ⟨#[104,111,112,115]⟩,.string ⟨#[99,111,115,116,115]⟩,.string ⟨#[97,108,108]⟩,.string ⟨#[101,97,114,108,121]⟩,.string ⟨#[99,104,101,97,112]⟩,.string ⟨#[102,101,119]⟩,.string ⟨#[108,97,116,101]⟩,.string ⟨#[102,97,115,116]⟩] 9)
 have A3:decide ((l.length:Int) ≥ 2)=true:=by simp;omega
 have c0:(l.take 2).length=2:=by rw[AE];omega
 obtain⟨x0,Q1⟩:=zl (show 0<l.length by omega);obtain⟨ba,oa,rfl,z2,_⟩:=HA.out.get Q1;obtain⟨n,ok,Z0⟩:∃n ok,xy (l.take 2)=(n,ok):=⟨_,_,rfl⟩;have C0:=zc Z0;have r0:Hid (∀W:World,Below w.heap.size w W->Calls Tryz.prog 38 #[.slice (some ⟨ba,oa,none⟩) 2 c] W (lB (n,ok) W)):=zc λW h=>by
  have h1:=wR (some ⟨ba,oa,none⟩) c (l.take 2) W ((HA.out.ext h).take 2) (by omega) (λx h=>by have:=HX.out x (List.mem_of_mem_take h);omega);rw[c0,Z0]at h1;exact h1
 have b:Hid (pv text bI l=match yn (l.take 2),vu (l.drop 2)with|some n,some q=>qc text (qi q) n|_,_=>yO 3):=zc (by unfold pv Xg;rw[Aq rfl,Au (by omega)];cases yn (l.take 2) <;> cases vu (l.drop 2) <;> rfl);have u0:=zc c0;obtain⟨i0,hi,M2,N2,O2⟩:=info_parts jU;clear Q1 c0 Z0;have T0:=Dsk.slices_Index_string w.heap.size 0 10 10 (xd.map bs) (bs bI) (w.alloc (Obj.cells #[.string ⟨#[115,104,111,119]⟩,.string ⟨#[108,97,98,101,108,115]⟩,.string ⟨#[104,111,112,115]⟩,.string ⟨#[99,111,115,116,115]⟩,.string ⟨#[97,108,108]⟩,.string ⟨#[101,97,114,108,121]⟩,.string ⟨#[99,104,101,97,112]⟩,.string ⟨#[102,101,119]⟩,.string ⟨#[108,97,116,101]⟩,.string ⟨#[102,97,115,116]⟩] 9)) (by decide) (by decide) (iO w)
 rw[Qn]at T0;have U0:=wR (some ⟨ba,oa,none⟩) c l (w.alloc (Obj.cells #[.string ⟨#[115,104,111,119]⟩,.string ⟨#[108,97,98,101,108,115]⟩,.string ⟨#[104,111,112,115]⟩,.string ⟨#[99,111,115,116,115]⟩,.string ⟨#[97,108,108]⟩,.string ⟨#[101,97,114,108,121]⟩,.string ⟨#[99,104,101,97,112]⟩,.string ⟨#[102,101,119]⟩,.string ⟨#[108,97,116,101]⟩,.string ⟨#[102,97,115,116]⟩] 9)) (HA.out.ext R0) (by omega) (λx h=>by have:=HX.out x h;omega)
 obtain⟨nn,a2,hq⟩:∃n ok,xy l=(n,ok):=⟨_,_,rfl⟩;rw[hq]at U0;have q1:=zc T0;have s1:=zc U0;have p2:=zc hq;clear T0 U0 hq
 go_enter Tryz.func25,Tryz.ntmps25
 go_wp2_with fail;refine q1.out.mono ?_;rintro e w2 ⟨rfl,rfl⟩;go_wp2_with fail;refine s1.out.mono ?_;rintro e w2 ⟨j2,v2,rfl,_,I1⟩;have S:=za R0 I1;go_wp2_with fail;refine(r0.out _ S).mono ?_;rintro e w3 ⟨An,cn,rfl,⟨P,F⟩,J1⟩;obtain⟨i2,u2,hv,B1⟩:=rM P F;injection hv with e1 e2 e3;subst e1 e3;have k1:=zc B1;have f1:=zc (za S J1);clear P F B1 e2 R0 I1 S J1
 go_wp2_with fail
 go_loopw [10,11] (λu v wr=>∃(k:Nat) (q:List yy),2<=k/\k<=l.length/\v=.int .i64 k/\Hid (vu ((l.take k).drop 2)=some q)/\q.length<=k/\Hid (∀x,x∈q->zM x.edge/\zM x.depart)/\Own sc 2 wr w3.heap.size 64 u q/\Below w3.heap.size w3 wr) (λ_ v _=>l.length-(intOf v).toNat)
 case atStart=>exact⟨2,[],Ay _,by omega,rfl,zc (by rw[List.drop_of_length_le (by rw[u0.out];exact Ay _)];rfl),by simp,zc (λx hx=>by simp at hx),Own.nil,Ae _ _⟩
 obtain⟨k,q,E2,hk,rfl,HD,C3,HI,hO,hb⟩:=hrel;have G3:=hb.size;have H:=za f1.out hb
 by_cases F2:k<l.length
 case neg=>
  obtain rfl:k=l.length:=by omega
  have j1:Hid (vu (l.drop 2)=some q):=zc (by have h1:=HD.out;rwa[AL]at h1);obtain⟨Ao,co,rfl⟩:=hO.form;have O1:=hO.room;obtain⟨A9,c9,L2,G1⟩:=iw hO HI.out;injection L2 with e1 e2 e3;subst e1 e3;have x1:=zc G1;have t0:=zc O1;have HB:=zc hb;clear HD O1 G1 hO e2 hb
  cases ok with
  |false=>
   have HQ:Hid (pv text bI l=yO 3):=zc (by
    rw[b.out];have J:=C0.out;unfold xy at J
    cases I:yn (l.take 2)with
    |none=>rfl
    |some n=>rw[I]at J;simp at J)
   have HF:=zc (zP 3 K0.out wr (HT.out.ext (H)));go_wp2_with fail;refine HF.out.mono ?_;rintro e w9 ⟨rfl,V⟩;go_wp2_with fail;go_ret;exact⟨by rw[HQ.out];rfl,za (H) V⟩
  |true=>
   have M0:Hid (yn (l.take 2)=some n):=zc (by
    have J:=C0.out;unfold xy at J
    cases I:yn (l.take 2)with
    |none=>rw[I]at J;simp at J
    |some n'=>rw[I]at J;simp only[Prod.mk.injEq,and_true]at J;rw[J])
   have r1:Hid (n.length=2):=zc (by rw[(sq M0.out).1,Az,u0.out]);have HQ:Hid (pv text bI l=qc text (qi q) n):=zc (by rw[b.out,M0.out,j1.out]);have K1:Below w3.heap.size w3 wr:=HB.out;have hp:=fK text wr (by omega);obtain⟨r,hr⟩:∃r,zY text=r:=⟨_,rfl⟩;have a0:=nT text;rw[hr]at hp a0;have HR:=zc hr;have N:=zc a0;have HP:=zc hp;clear hp hr a0
   go_wp2_with fail;refine HP.out.mono ?_;rintro e w5 ⟨A1,c1,Z,f,rfl,hG,T⟩;have HG:=zc hG;clear hG;have o:=ze (za (H) T) (Obj.cells (gC A1 c1 Z f r.1) 68);have F0:=ze T (Obj.cells (gC A1 c1 Z f r.1) 68)
   by_cases h0:r.2.2=0
   case neg=>
    have N1:(r.2.2 != 0)=true:=by simp[h0]
    have M:Hid (qc text (qi q) n=yO r.2.2++[32]++Lib.itoa r.2.1):=zc (by unfold qc;rw[HR.out,Au h0]);have l1:=oN N.out.2;have l2:=Lib.itoa_length_le r.2.1 N.out.1.1 N.out.1.2;have hf:=zP r.2.2 N.out.2 _ (HT.out.ext o);have uF:=λW (h:Below w.heap.size w W)=>wO r.2.1 N.out.1 W (HT.out.ext h);obtain⟨t1,P1⟩:∃t,yO r.2.2=t:=⟨_,rfl⟩;obtain⟨t2,b0⟩:∃t,Lib.itoa r.2.1=t:=⟨_,rfl⟩
    rw[P1]at hf M l1;rw[b0]at M l2;simp only[b0]at uF;have p1:=zc uF;have HF:=zc hf;clear h0 P1 b0 uF hf;go_wp2_with fail;refine HF.out.mono ?_;rintro e E ⟨rfl,B⟩;have D:=za o B;go_wp2_with fail;refine(p1.out _ D).mono ?_;rintro e w8 ⟨rfl,G⟩;go_wp2_with fail;go_ret;rw[HQ.out,M.out];exact⟨rfl,za D G⟩
   have M:Hid (qc text (qi q) n=(qi q) r.1 n):=zc (by unfold qc;rw[HR.out,Aq h0]);have hV:zx r.1:=by
    have J:=nU (s:=text) (by rw[HR.out];exact h0)
    rwa[HR.out]at J
   have z0:=HG.out.ext (ze (Ae _ _) (Obj.cells (gC A1 c1 Z f r.1) 68));have HC:=zc (SP A1 Z An c1 f cn r.1 n Ao co q _ z0 hV (k1.out.ext (za K1 F0)) r1.out (XO M0.out) (HT.out.ext o) ⟨t0.out.1,t0.out.2,x1.out.ext mt.stable F0⟩);rw[h0];clear h0 hV z0;go_wp2_with fail;refine HC.out.mono ?_;rintro e E ⟨rfl,B⟩;go_wp2_with fail;go_ret;exact⟨by rw[HQ.out,M.out];rfl,za o B⟩
 obtain⟨x,hx⟩:=zl F2;obtain⟨b',o',j,Q0,x0⟩:=HA.out.get hx;have ee:b'=ba/\o'=oa:=by simp at j;exact⟨j.1.symm,j.2.symm⟩
 rw[ee.1,ee.2]at x0;rw[ee.1]at Q0;rw[<-H.cell (by exact Q0)]at x0;have F3:=HX.out x (Ad hx);have X0:Calls Tryz.prog 18 #[.string (bs x),.int .u8 64] wr (jw (zk 64 x) wr):=oC x 64 wr (by omega);have H2:=xU 64 x;have s0:Hid (∀y,y∈zk 64 x->y.length<=100000):=zc λy hy=>by have:=uQ 64 x y hy;omega
 have N0:=zc hx;obtain⟨ps,Y0⟩:∃ps,zk 64 x=ps:=⟨_,rfl⟩;rw[Y0]at X0 H2 s0;have d:=zc Y0;have w1:=zc X0;have HO:=zc hO;have a:=zc H;have HB:=zc hb;clear hx Y0 X0 hO hb H b' o' j Q0 ee;go_wp2_with fail;refine w1.out.mono ?_;rintro e w5 ⟨g1,c1,rfl,D1,T⟩;obtain⟨A2,c2,K2,P0⟩:=vG D1;injection K2 with e1 e2 e3;subst e3;have G0:=wR (some ⟨g1,0,none⟩) c1 ps w5 (by rw[e1];exact P0) (by omega) s0.out
 have m9:=P0.len;have C:=zc G0;have L:=zc T;clear G0 P0 e1 e2 D1 T x0
 cases I:yn ps with
 |none=>
  have HQ:Hid (pv text bI l=yO 3):=zc (by
   have h1:oR x=none:=Qj (by rw[d.out];exact I);have h2:vu (l.drop 2)=none:=nH h1 (Ad (i:=k-2) (by rw[List.getElem?_drop,show 2+(k-2)=k by omega];exact N0.out));rw[b.out,h2]
   cases yn (l.take 2) <;> rfl)
  rw[nS I]at C;clear I;go_wp2_with fail;refine C.out.mono ?_;rintro e E ⟨o0,v0,rfl,_,B⟩;have HF:=zc (zP 3 K0.out E (HT.out.ext (za (za a.out L.out) B)));go_wp2_with fail;refine HF.out.mono ?_;rintro e w9 ⟨rfl,V⟩;go_wp2_with fail;go_ret;exact⟨by rw[HQ.out];rfl,za (za (za a.out L.out) B) V⟩
 |some n1=>
  by_cases z:ps.length=2
  case neg=>
   have N1:((ps.length:Int) != 2)=true:=by simp;omega
   have HQ:Hid (pv text bI l=yO 3):=zc (by
    have h1:oR x=none:=Xk (by rw[d.out];exact z);have h2:vu (l.drop 2)=none:=nH h1 (Ad (i:=k-2) (by rw[List.getElem?_drop,show 2+(k-2)=k by omega];exact N0.out));rw[b.out,h2]
    cases yn (l.take 2) <;> rfl)
   rw[qX I]at C;clear I z;go_wp2_with fail;refine C.out.mono ?_;rintro e E ⟨o0,v0,rfl,_,B⟩;have HF:=zc (zP 3 K0.out E (HT.out.ext (za (za a.out L.out) B)));go_wp2_with fail;refine HF.out.mono ?_;rintro e w9 ⟨rfl,V⟩;go_wp2_with fail;go_ret;exact⟨by rw[HQ.out];rfl,za (za (za a.out L.out) B) V⟩
  have N1:((ps.length:Int) != 2)=false:=by simp;omega
  obtain⟨R,Y,rfl,hh⟩:=TQ (s:=x) (n:=n1) (by rw[d.out];exact I) (by rw[d.out];exact z);have u1:=zc (Xn N0.out E2 hh HD.out);rw[qX I]at C;clear I z hh;go_wp2_with fail;refine C.out.mono ?_;rintro e E ⟨o0,v0,rfl,⟨P,F⟩,B⟩;have o1:Hid (∀y,y∈q++[⟨R,Y⟩]->zM y.edge/\zM y.depart):=zc λy hy=>by
   rcases AK.1 hy with hy|hy
   ·exact HI.out y hy
   obtain rfl:y=⟨R,Y⟩:=by simpa using hy
   exact⟨F R (by simp),F Y (by simp)⟩
  obtain⟨g,cs,rfl,_,O,X⟩:=oA P (by simp);have y0:E.cell? ⟨g,0,none⟩=some (.int .i64 R):=(O.cell 0).trans (X 0 _ rfl);have y1:E.cell? ⟨g,1,none⟩=some (.int .i64 Y):=(O.cell 1).trans (X 1 _ rfl);have M1:=O.lt;have U:=za L.out B;have D:=za HB.out U;have E1:=HO.out.ext U;have R1:=D.size;have HY:Hid (E.cell? ⟨g,0,none⟩=some (.int .i64 R)/\E.cell? ⟨g,1,none⟩=some (.int .i64 Y)):=zc ⟨y0,y1⟩
  have J0:Hid (zj E g 3 cs/\cs[0]?=some (.int .i64 R)/\cs[1]?=some (.int .i64 Y)):=zc ⟨O,X 0 _ rfl,X 1 _ rfl⟩;clear P F O X B U y0 y1 C;simp only[Ap,AC];obtain⟨S1,m⟩:∃S1:World->Prop,Hid (S1=λw'=>w'.cell? ⟨g,0,none⟩=some (.int .i64 R)/\w'.cell? ⟨g,1,none⟩=some (.int .i64 Y)):=⟨_,zc rfl⟩;have q0:Hid (∀w',Below E.heap.size E w'->S1 w'):=zc λw' h=>by
   rw[m.out];exact⟨(h.cell (p:=⟨g,0,none⟩) M1).trans HY.out.1,(h.cell (p:=⟨g,1,none⟩) M1).trans HY.out.2⟩
  have S0:=zi (Ae E.heap.size E);have C2:S1 E.drew:=q0.out _ S0;have v1:=zc E1;have p0:=zc D;clear E1 D;go_upto_region 13 with fail;refine zB S1 (by kernel_rfl) ?_;refine tH 0 ?_ ?_<|tH 1 ?_ ?_<|tH 2 ?_ ?_<|tH 3 ?_ ?_<|tH 4 ?_ ?_<|tH 5 ?_ ?_<|tH 6 ?_ ?_<|tH 7 ?_ ?_ ?_
  iterate 8
   rotate_left;intro w Q;rw[m.out]at Q;obtain⟨P2,Q2⟩:=Q;(try simp only[pS]);go_simp;try with_reducible rfl
  try simp only[pS]
  refine zu (i:=8) rfl (by kernel_rfl) λK hK=>?_;go_wp2_with fail;have G:=ze S0 (Obj.cells #[.int .i64 R,.int .i64 Y] 64);have F1:=q0.out _ G;refine hK.out _ _ ⟨F1,?_⟩;clear hK K C2
  try simp only[pS]
  refine zu (i:=9) rfl (by kernel_rfl) λK hK=>?_;refine rD (enc:=sc) (.tmp 64) (.tmp 72) 62 rfl w3.heap.size 64 i0 _ 2 16 Tryz.underlying62 hi M2 N2 O2 rfl (by decide) _ q ⟨R,Y⟩ rfl ((v1.out.ext S0).alloc _) #[.int .i64 R,.int .i64 Y] rfl E.heap.size (zj.new _ _ _) rfl rfl Xj (by unfold maxLen;omega) (by omega) (Ai R1 G.size) ?_;intro v9 w9 W0 L1 V0
  have H1:Below w3.heap.size w3 w9:=p0.out.trans ((G.mono R1).trans L1);have E0:S1 w9:=by
   have hB:=V0 _ _ _ (J0.out.1.ext G) (by decide);rw[m.out];exact⟨(hB.cell 0).trans J0.out.2.1,(hB.cell 1).trans J0.out.2.2⟩
  refine hK.out _ _ ⟨E0,?_⟩;clear hK K F1
  try simp only[pS]
  refine tH 10 ?_ ?_ ?_;rotate_left
  ·intro w Q;rw[m.out]at Q;obtain⟨P2,Q2⟩:=Q;(try simp only[pS]);go_simp;try with_reducible rfl
  try simp only[pS]
  refine wpAnyH_done (by kernel_rfl) ?_ _
  try simp only[pS]
  clear E0;go_wp2_with fail;go_roundw
  case rel=>exact⟨k+1,q++[⟨R,Y⟩],by omega,by omega,by go_num,u1,by simp;omega,o1,W0,H1⟩
  case measure=>simp[intOf];omega
theorem Wk(A:Option Addr)(c:Nat)(text verb:List UInt8)(l:List (List UInt8))(w:World)(D:zS w A c l)(E:l.length<=70000)(G:∀x,x∈l->x.length<=70000)(B:text.length<=8192)(F:ITab w) :
  Calls Tryz.prog 25 #[.string (bs text),.string (bs verb),.slice A l.length c] w λe I=>e=.returned (.string (bs (pv text verb l)))/\Below w.heap.size w I:=by
 by_cases C:verb=bI
 ·subst C
  by_cases H:l.length<2
  ·exact QD A c text l w D E G B F H
  exact PK A c text l w D E G B F (by omega)
 exact QC A c text verb l w D E G B F C
set_option maxHeartbeats 4000000
theorem Vb(b c:Nat)(A:Option Addr)(text verb:List UInt8)(l:List (List UInt8))(w:World)(hB:zj w b 31 #[.string (bs text)])(hA:zS w A c l)(hl:l.length<=70000)(v:∀x,x∈l->x.length<=70000)(hj:(zO 32 l).length<=100000)(E:text.length<=8192)(ht:ITab w)(hm:mE w) :
  Calls Tryz.prog 16 #[.pointer (some ⟨b,0,none⟩),.string (bs verb),.slice A l.length c] w (js b (kq text verb l) text w):=by
 have m1:=hA.len;have Q:=zc ht;have d:=zc hB;have z:=zc hA;have HX:=zc v;have HM:=zc hm;have G:Hid (zM 3):=zc (zt (by decide) (by decide));clear hB ht hA v hm
 by_cases f:verb=pj
 ·subst f
  have I:Hid (kq text pj l=mm text l):=zc (by unfold kq;rw[Aq rfl]);have P:=zc (QI b c A text l w d.out z.out hj E Q.out);show Calls Tryz.prog 16 #[.pointer (some ⟨b,0,none⟩),.string ⟨#[103,114,97,112,104]⟩,.slice A l.length c] w _
  go_enter Tryz.func16,Tryz.ntmps16
  go_wp2_with fail;refine P.out.mono ?_;rintro e Z ⟨S,F0,C,rfl,hw⟩;go_wp2_with fail;go_ret;rw[I.out];exact⟨S,F0,C,rfl,hw⟩
 by_cases o:verb=bI
 ·subst o
  have I:Hid (kq text bI l=(text,Xg text l)):=zc (by unfold kq;rw[Au (by decide),Aq rfl]);have P:=zc (Xy b c A text l w d.out z.out (by omega) HX.out E Q.out HM.out);show Calls Tryz.prog 16 #[.pointer (some ⟨b,0,none⟩),.string ⟨#[103,111]⟩,.slice A l.length c] w _;clear f
  go_enter Tryz.func16,Tryz.ntmps16
  go_wp2_with fail;refine P.out.mono ?_;rintro e Z ⟨rfl,Y,C⟩;go_wp2_with fail;go_ret;rw[I.out];exact⟨Z,⟨E,Y⟩,C,rfl,.inl ⟨rfl,rfl⟩⟩
 by_cases u:verb=qe
 ·subst u
  show Calls Tryz.prog 16 #[.pointer (some ⟨b,0,none⟩),.string ⟨#[99,108,101,97,114]⟩,.slice A l.length c] w _;clear f o
  by_cases M:l=[]
  ·subst M
   have I:Hid (kq text qe []=([],Uw)):=zc (by unfold kq;rw[Au (by decide),Au (by decide),Aq rfl,Aq rfl]);have f0:=d.out.frozen 0;have l0:=d.out.lt;have c0:w.cell? ⟨b,0,none⟩=some (.string (bs text)):=d.out.cell 0
   go_enter Tryz.func16,Tryz.ntmps16
   go_wp2_with fail;go_ret;rw[I.out];exact⟨w,⟨by simp,by decide⟩,Ae _ _,rfl,.inr rfl⟩
  have I:Hid (kq text qe l=(text,yO 3)):=zc (by unfold kq;rw[Au (by decide),Au (by decide),Aq rfl,Au M]);have hp:0<l.length:=List.length_pos_iff.2 M;have hd:decide ((l.length:Int)>0)=true:=by simp;omega
  have T:=zc (xg 3 G.out w Q.out);clear M
  go_enter Tryz.func16,Tryz.ntmps16
  go_wp2_with fail;refine T.out.mono ?_;rintro e Z ⟨rfl,C⟩;go_wp2_with fail;go_ret;rw[I.out];exact⟨Z,⟨E,wJ G.out⟩,C,rfl,.inl ⟨rfl,rfl⟩⟩
 have N:Hid (kq text verb l=(text,ur text verb l)):=zc (by unfold kq;rw[Au f,Au o,Au u]);have k0:(verb== ([103,114,97,112,104]:List UInt8))=false:=AH.2 f;have k1:(verb== ([103,111]:List UInt8))=false:=AH.2 o;have k2:(verb== ([99,108,101,97,114]:List UInt8))=false:=AH.2 u;have L:Hid (∀W,Below w.heap.size w W->Calls Tryz.prog 33 #[.slice A l.length c] W (lB (xy l) W)):=zc λW h=>nR A c l W (z.out.ext h) (by omega) λx v=>by have:=HX.out x v;omega
 clear f o u;rcases Tq verb with⟨K,F,fs,U,X0,hT,hent,p⟩|⟨U,p⟩
 ·have P:=zc (p w)
  have B0:=zc hT;have A0:=zc hent;clear hT hent p;have E0:∀W:World,(binOp .eql 52 (.func (.func fs) #[] #[]) Value.nilFunc).run Tryz.prog W=.ok (.bool false) W:=λW=>by with_unfolding_all rfl
  cases M:yn l with
  |none=>
   have I:Hid (ur text verb l=yO 3):=zc (by unfold ur;rw[U,M]);rw[nS M]at L;clear M U
   go_enter Tryz.func16,Tryz.ntmps16
   go_wp2_with fail;refine P.out.mono ?_;rintro e Z ⟨rfl,H⟩;go_wp2_with fail;refine(L.out _ H).mono ?_;rintro e S ⟨s,t,rfl,_,C⟩;have B:=za H C;have T:=zc (xg 3 G.out S (Q.out.ext B));go_wp2_with fail;refine T.out.mono ?_;rintro e a ⟨rfl,J⟩;go_wp2_with fail;go_ret;rw[N.out,I.out];exact⟨a,⟨E,wJ G.out⟩,za B J,rfl,.inl ⟨rfl,rfl⟩⟩
  |some n=>
   have m:Hid (ur text verb l=if n.length=K then qc text F n else yO 3):=zc (by unfold ur;rw[U,M]);rw[qX M]at L;clear M U
   go_enter Tryz.func16,Tryz.ntmps16
   go_wp2_with fail;refine P.out.mono ?_;rintro e Z ⟨rfl,H⟩;go_wp2_with fail;refine(L.out _ H).mono ?_;rintro e S ⟨s,t,rfl,⟨X,V⟩,C⟩;have B:=za H C;obtain⟨P0,R0,hv,O⟩:=rM X V;injection hv with e1 e2 e3;subst e1 e3
   by_cases D:n.length=K
   ·have I:Hid (ur text verb l=qc text F n):=zc (by rw[m.out,Aq D])
    have R:=je b fs t s text n #[] F S (d.out.ext B) O E (Q.out.ext B) (HM.out.ext B) A0.out (λW A' y c' C0 g hW hG hV=>by
     have h9:=B0.out A' y s c' C0 t g n W hG hV (O.ext hW) D (Q.out.ext (za B hW));simpa using h9)
    have i:(((n.length:Int)) != (K:Int))=false:=by simp[D]
    have j:=zc R;obtain⟨k,r⟩:∃k,n.length=k:=⟨_,rfl⟩;rw[r]at i j⊢;clear X V O R D r;go_wp2_with fail;refine j.out.mono ?_;rintro e a ⟨rfl,Y,J⟩;go_wp2_with fail;go_ret;rw[N.out,I.out];exact⟨a,⟨E,Y⟩,za B J,rfl,.inl ⟨rfl,rfl⟩⟩
   have I:Hid (ur text verb l=yO 3):=zc (by rw[m.out,Au D]);have i:(((n.length:Int)) != (K:Int))=true:=by simp;omega
   have T:=zc (xg 3 G.out S (Q.out.ext B));obtain⟨k,r⟩:∃k,n.length=k:=⟨_,rfl⟩;rw[r]at i⊢;clear X V O D r;go_wp2_with fail;refine T.out.mono ?_;rintro e a ⟨rfl,J⟩;go_wp2_with fail;go_ret;rw[N.out,I.out];exact⟨a,⟨E,wJ G.out⟩,za B J,rfl,.inl ⟨rfl,rfl⟩⟩
 have P:=zc (p w);have I:Hid (ur text verb l=yO 3):=zc (by unfold ur;rw[U]);have E0:∀W:World,(binOp .eql 52 Value.nilFunc Value.nilFunc).run Tryz.prog W=.ok (.bool true) W:=λW=>by with_unfolding_all rfl
 clear U p;obtain⟨q,i⟩:∃q,xy l=q:=⟨_,rfl⟩;rw[i]at L;clear i
 go_enter Tryz.func16,Tryz.ntmps16
 go_wp2_with fail;refine P.out.mono ?_;rintro e Z ⟨rfl,H⟩;go_wp2_with fail;refine(L.out _ H).mono ?_;rintro e S ⟨s,t,rfl,_,C⟩;have B:=za H C;have T:=zc (xg 3 G.out S (Q.out.ext B));go_wp2_with fail;refine T.out.mono ?_;rintro e a ⟨rfl,J⟩;go_wp2_with fail;go_ret;rw[N.out,I.out];exact⟨a,⟨E,wJ G.out⟩,za B J,rfl,.inl ⟨rfl,rfl⟩⟩
