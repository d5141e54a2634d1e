import Derived.Test.YtjcimdpldlamfaaGreatDoorBd084d53fd89
import Derived.Test.YtjcimdpldlamfaaGreatDoorBd52a5eed018
namespace Go.Proofs.YtjcimdpldlamfaaGreatDoor
set_option maxHeartbeats 2000000
open Go.RowKit Go.Shelf
def Oa(fn:Nat)(lb:Array Value)(p:zg->Bool)(w:World):Prop:=
 ∀(W:World) (x:zg),Below w.heap.size w W->zM x.f/\zM x.t/\zM x.v->Calls Tryz.prog fn (#[dV x]++lb) W λe w'=>e=.returned (.bool (p x))/\Below W.heap.size W w'
def WF(p:zg->Bool)(l:List zg)(r:Int):Prop:=
 (r=-1/\∀x,x∈l->p x=false)∨∃(k:Nat) (x:zg),r=k/\l[k]?=some x/\p x=true/\∀y,y∈l.take k->p y=false
theorem WF.any{p:zg->Bool}{l:List zg}{r:Int}(h:WF p l r):decide (r ≥ 0)=l.any p:=by
 rw[Bool.eq_iff_iff,List.any_eq_true,decide_eq_true_iff];rcases h with⟨rfl,h⟩|⟨k,x,rfl,B,A,_⟩
 ·exact⟨λC=>by omega,λ⟨x,B,A⟩=>by rw[h x B]at A;simp at A⟩
 exact⟨λ_=>⟨x,Ad B,A⟩,λ_=>by omega⟩
theorem ZK(D:Nat)(R:Array Value)(p:zg->Bool)(X:∀B w,(callFunc D B).run Tryz.prog w=.ok (.enter D B) w)(A:Option Addr)(c:Nat)(l:List zg)(w:World)(K:PiecesAt w A c l)(Q:Oa D R p w) :
  Calls Tryz.prog 194 #[.slice A l.length c,.func (.func D) #[] R] w λe N=>(∃r,e=.returned (.int .i64 r)/\WF p l r)/\Below w.heap.size w N:=by
 have Z:=K.len;have O:=zc K;have S:=zc Q;clear K Q
 go_enter Tryz.func194,Tryz.ntmps194
 go_wp2_with fail
 go_loopw [5,8] (λ_ v wr=>∃k:Nat,k<=l.length/\v=.int .i64 k/\Hid (∀y,y∈l.take k->p y=false)/\Below w.heap.size w wr) (λ_ v _=>l.length-(intOf v).toNat)
 case atStart=>exact⟨0,AA _,rfl,zc (by simp),Ae _ _⟩
 obtain⟨k,Y,rfl,J,F⟩:=hrel
 by_cases M:k<l.length
 case neg=>
  obtain rfl:k=l.length:=by omega
  go_wp2_with fail;go_ret;exact⟨⟨-1,rfl,.inl ⟨rfl,by have:=J.out;rwa[AL]at this⟩⟩,F⟩
 obtain⟨x,I⟩:=zl M;obtain⟨b,T,rfl,L,U,V,W⟩:=O.out.get I;rw[<-F.cell (by exact L)]at U V W;have P:=zc I;have G:=S.out wr x F (O.out.i64 I);clear I
 cases H:p x
 case true=>
  rw[H]at G;go_wp2_with (go_at_fn D;refine G.mono ?_;rintro e N ⟨rfl,C⟩);go_ret;exact⟨⟨k,rfl,.inr ⟨k,x,rfl,P.out,H,J.out⟩⟩,za F C⟩
 case false=>
  rw[H]at G;go_wp2_with (go_at_fn D;refine G.mono ?_;rintro e N ⟨rfl,C⟩);go_roundw
  case rel=>
   refine⟨k+1,by omega,by go_num,zc λy E=>?_,za F C⟩;rw[ue P.out]at E;rcases AK.1 E with E|E
   ·exact J.out y E
   obtain rfl:y=x:=by simpa using E
   exact H
  case measure=>simp[intOf];omega
theorem fT(C:Nat)(D:Array Value)(p:zg->Bool)(J:∀B w,(callFunc C B).run Tryz.prog w=.ok (.enter C B) w)(A:Option Addr)(c:Nat)(l:List zg)(w:World)(E:PiecesAt w A c l)(F:Oa C D p w) :
  Calls Tryz.prog 176 #[.slice A l.length c,.func (.func C) #[] D] w λe G=>e=.returned (.bool (l.any p))/\Below w.heap.size w G:=by
 have H:=zc E;have I:=zc F;clear E F
 go_enter Tryz.func176,Tryz.ntmps176
 go_wp2_with (go_at_call 194;refine(ZK C D p J A c l _ H.out I.out).mono ?_;rintro e G ⟨⟨r,rfl,L⟩,K⟩);go_ret;exact⟨yW L.any,K⟩
def iY(x:zg):Bool:=vp x.f || vp x.t || vp x.v || decide (x.t<=x.f)
theorem UK{l:List zg}:l.any iY=false↔mF l:=by
 rw[List.any_eq_false];unfold mF iY vp
 constructor
 ·intro h x A
  have:=h x A;simp at this;exact⟨⟨this.1.1.1,this.1.1.2,this.1.2⟩,by omega⟩
 intro h x A;have:=h x A;simp[this.1.1,this.1.2.1,this.1.2.2];omega
theorem YY:Enters Tryz.prog 177:=enters_of Tryz.func177 (by kernel_rfl) rfl
theorem QJ(x:zg)(W:World):Calls Tryz.prog 177 #[dV x] W λe B=>e=.returned (.bool (iY x))/\Below W.heap.size W B:=by
 unfold iY;have A:decide (x.t<=x.f)=decide (x.t<=x.f):=rfl
 cases D:vp x.f
 case true=>
  have C:=λw=>uf D w;clear D A
  go_enter Tryz.func177,Tryz.ntmps177
  go_wp2_with (first|(go_at_call 178;refine(C _).mono ?_;rintro e B ⟨rfl,rfl⟩));go_ret;exact⟨by simp,by go_grown⟩
 case false=>
 have C:=λw=>uf D w
 cases G:vp x.t
 case true=>
  have H:=λw=>uf G w;have I:=zc D;have J:=zc G;clear A
  go_enter Tryz.func177,Tryz.ntmps177
  go_wp2_with (first|(go_at_call 178;refine(uf (by assumption) _).mono ?_;rintro e B ⟨rfl,rfl⟩));go_ret;exact⟨by simp,by go_grown⟩
 case false=>
 cases K:vp x.v
 case true=>
  clear A
  go_enter Tryz.func177,Tryz.ntmps177
  go_wp2_with (first|(go_at_call 178;refine(uf (by assumption) _).mono ?_;rintro e B ⟨rfl,rfl⟩));go_ret;exact⟨by simp,by go_grown⟩
 case false=>
  by_cases E:x.t<=x.f
  ·have F:decide (x.t<=x.f)=true:=by simpa using E
   rw[F];clear E A
   go_enter Tryz.func177,Tryz.ntmps177
   go_wp2_with (first|(go_at_call 178;refine(uf (by assumption) _).mono ?_;rintro e B ⟨rfl,rfl⟩));go_ret;exact⟨by simp,by go_grown⟩
  have F:decide (x.t<=x.f)=false:=by simpa using E
  rw[F];clear E A
  go_enter Tryz.func177,Tryz.ntmps177
  go_wp2_with (first|(go_at_call 178;refine(uf (by assumption) _).mono ?_;rintro e B ⟨rfl,rfl⟩));go_ret;exact⟨by simp,by go_grown⟩
theorem bK(A:Option Addr)(c:Nat)(l:List zg)(w:World)(F:PiecesAt w A c l) :
  Calls Tryz.prog 167 #[.slice A l.length c] w λe H=>e=.returned (.int .i64 (vZ l))/\Below w.heap.size w H:=by
 have J:=F.len;have hent:=YY;unfold Enters at hent
 by_cases C:200<l.length
 case pos=>
  have D:Hid (vZ l=2):=zc (ip C);have I:decide ((l.length:Int)>200)=true:=by simp;omega
  rw[D.out];clear C
  go_enter Tryz.func167,Tryz.ntmps167
  go_wp2_with fail;go_ret;exact⟨rfl,Ae _ _⟩
 case neg=>
 have I:decide ((l.length:Int)>200)=false:=by simp;omega
 have E:=fT 177 #[] iY hent A c l w F (λW x _ _=>QJ x W)
 cases B:l.any iY
 case true=>
  have D:Hid (vZ l=5):=zc (dJ C λh=>by rw[UK.2 h]at B;simp at B);rw[B]at E;rw[D.out];clear C F B
  go_enter Tryz.func167,Tryz.ntmps167
  go_wp2_with (first|(go_at_call 176;refine E.mono ?_;rintro e H ⟨rfl,G⟩));go_ret;exact⟨rfl,G⟩
 case false=>
  have D:Hid (vZ l=0):=zc (aJ C (UK.1 B));rw[B]at E;rw[D.out];clear C F B
  go_enter Tryz.func167,Tryz.ntmps167
  go_wp2_with (first|(go_at_call 176;refine E.mono ?_;rintro e H ⟨rfl,G⟩));go_ret;exact⟨rfl,G⟩
set_option maxRecDepth 100000
set_option maxHeartbeats 4000000
def Tc(state l:List zg)(k er:Int)(out:List vt):Prop:=∃U,vw U/\(∀t,ko U t=sd state l t)/\er=(if U.any (mw l k)=true then 5 else if 200<U.length then 2 else 0)/\(er=0->out=U.map (yP l k))/\(er≠0->out=[])
def yM(state l:List zg)(k er:Int)(out:List vt):Prop:=
 if yd state=0 then if vZ l=0 then if 1<=k/\k<=3 then Tc state l k er out else er=1/\out=[] else er=vZ l/\out=[] else er=yd state/\out=[]
def Rp(R:Int->List vt->Prop)(w:World)(e:Ending)(w':World):Prop:=∃er out A c,Hid (R er out)/\e=.returned (.tuple #[.slice A out.length c,.int .i64 er])/\xB w' A c out/\Below w.heap.size w w'
theorem ls(A B:Option Addr)(c d:Nat)(C l:List zg)(k:Int)(w:World)(X:PiecesAt w A c C)(b:PiecesAt w B d l) :
  Calls Tryz.prog 163 #[.slice A C.length c,.slice B l.length d,.int .i64 k] w (Rp (yM C l k) w):=by
 have s:=X.len;have t:=b.len;have m:=zc X;have S:=zc b;have F:=ky A c C w X;have H:=λW (h:PiecesAt W B d l)=>bK B d l W h;clear X b
 by_cases K:yd C=0
 case neg=>
  have R:(yd C != 0)=true:=by simpa using K
  have G:Hid (yM C l k (yd C) []):=zc (by unfold yM;rw[Au K];exact⟨rfl,rfl⟩);clear K;obtain⟨L,I⟩:∃L,yd C=L:=⟨_,rfl⟩;rw[I]at R G F;clear I
  go_enter Tryz.func163,Tryz.ntmps163
  go_wp2_with fail;refine F.mono ?_;rintro e g ⟨rfl,D⟩;go_wp2_with fail;go_ret2;exact⟨L,[],none,0,G,rfl,xB.nil,D⟩
 case pos=>
 rw[K]at F
 by_cases N:vZ l=0
 case neg=>
  have R:(vZ l != 0)=true:=by simpa using N
  have G:Hid (yM C l k (vZ l) []):=zc (by unfold yM;rw[Aq K,Au N];exact⟨rfl,rfl⟩);clear K N;obtain⟨L,I⟩:∃L,vZ l=L:=⟨_,rfl⟩;rw[I]at R G;simp only[I]at H;clear I
  go_enter Tryz.func163,Tryz.ntmps163
  go_wp2_with fail;refine F.mono ?_;rintro e g ⟨rfl,D⟩;clear F;go_wp2_with fail;refine(H _ (S.out.ext D)).mono ?_;rintro e i ⟨rfl,E⟩;go_wp2_with fail;go_ret2;exact⟨L,[],none,0,G,rfl,xB.nil,za D E⟩
 case pos=>
 simp only[N]at H;have O:=zc K;have P:=zc N;clear K N
 by_cases Y:1<=k/\k<=3
 case neg=>
  have G:Hid (yM C l k 1 []):=zc (by unfold yM;rw[Aq O.out,Aq P.out,Au Y];exact⟨rfl,rfl⟩);have V:decide (k<1)=true∨(decide (k<1)=false/\decide (k>3)=true):=by simp;omega
  clear Y;rcases V with V|⟨V,o⟩
  all_goals
   go_enter Tryz.func163,Tryz.ntmps163
   go_wp2_with fail;refine F.mono ?_;rintro e g ⟨rfl,D⟩;go_wp2_with fail;refine(H _ (S.out.ext D)).mono ?_;rintro e i ⟨rfl,E⟩;go_wp2_with fail;go_ret2;exact⟨1,[],none,0,G,rfl,xB.nil,za D E⟩
 case pos=>
 have T:=zc Y;have V:decide (k<1)=false:=by simp;omega
 have o:decide (k>3)=false:=by simp;omega
 clear Y
 go_enter Tryz.func163,Tryz.ntmps163
 go_wp2_with fail;refine F.mono ?_;rintro e g ⟨rfl,D⟩;clear F;go_wp2_with fail;refine(H _ (S.out.ext D)).mono ?_;rintro e i ⟨rfl,E⟩;have E:=za D E;clear H D;go_wp2_with fail;refine(bJ A B c d C l k _ (m.out.ext E) (S.out.ext E) O.out P.out T.out).mono ?_;rintro e u ⟨U,j,n,M,rfl,Q,J,p⟩;have J:=za E J;have r:=Q.len;rw[Az]at r
 clear E;obtain⟨q,f⟩:∃q,U.any (mw l k)=q:=⟨_,rfl⟩;have a:=zc f;rw[f];clear f
 cases q
 case true=>
  have G:Hid (yM C l k 5 []):=zc (by unfold yM;rw[Aq O.out,Aq P.out,Aq T.out];exact⟨U,M.out.1,M.out.2,by rw[Aq a.out],λh=>by simp at h,λ_=>rfl⟩);go_wp2_with fail;go_ret2;exact⟨5,[],none,0,G,rfl,xB.nil,J⟩
 case false=>
  by_cases Z:200<U.length
  case pos=>
   have R:decide ((U.length:Int)>200)=true:=by simp;omega
   have G:Hid (yM C l k 2 []):=zc (by unfold yM;rw[Aq O.out,Aq P.out,Aq T.out];exact⟨U,M.out.1,M.out.2,by rw[a.out,Au (by simp),Aq Z],λh=>by simp at h,λ_=>rfl⟩);clear Z;go_wp2_with fail;go_ret2;exact⟨2,[],none,0,G,rfl,xB.nil,J⟩
  have R:decide ((U.length:Int)>200)=false:=by simp;omega
  have G:Hid (yM C l k 0 (U.map (yP l k))):=zc (by unfold yM;rw[Aq O.out,Aq P.out,Aq T.out];exact⟨U,M.out.1,M.out.2,by rw[a.out,Au (by simp),Au Z],λ_=>rfl,λh=>absurd rfl h⟩);clear Z;go_wp2_with fail;go_ret2;exact⟨0,U.map (yP l k),j,n,G,by rw[Az];rfl,Q,J⟩
def uF(U:List (yT fS))(t:Int)(k:Nat):Int:=if (ko (U.take k) t).isSome then 1 else 0
section
variable {U:List (yT fS)}{t:Int}{k:Nat}{y:yT fS}
end
section
variable {state l:List zg}{k er:Int}{out:List vt}{fo:List zg}
theorem fP{t:Int}(h:∀x,x∈l->ng x t=ng x (t-1)):∀n,xv l t n=xv l (t-1) n
 |0=>rfl
 |n+1=>by
  show xv l t n++_=xv l (t-1) n++_;rw[fP h n]
  cases hx:l[n]? with
  |none=>rfl
  |some x=>simp only[h x (Ad hx)]
theorem Sv(l:List zg)(k:Int):tS (ml l) (bD l k):=λt h=>by
 have hc:=Classical.em (t∈ml l);rcases hc with hc|hc
 ·exact hc
 exfalso
 apply h
 have key:∀x,x∈l->ng x t=ng x (t-1):=λx hx=>by
  have h1:t≠x.f:=λe=>hc (List.mem_append_left _ (AD.2 ⟨x,hx,e.symm⟩));have h2:t≠x.t:=λe=>hc (List.mem_append_right _ (AD.2 ⟨x,hx,e.symm⟩));unfold ng;rw[decide_eq_decide];omega
 unfold bD yQ;rw[fP key]
theorem yM.zero(h:yM state l k 0 out):∃U,vw U/\(∀t,ko U t=sd state l t)/\out=U.map (yP l k):=by
 unfold yM at h
 split at h
 ·split at h
  ·split at h
   ·obtain⟨U,A,B,_,C,_⟩:=h
    exact⟨U,A,B,C rfl⟩
   simp at h
  rename_i hn;exact absurd h.1.symm hn
 rename_i hn;exact absurd h.1.symm hn
theorem yM.none(h:yM state l k er out)(h0:er≠0):out=[]:=by
 unfold yM at h
 split at h
 ·split at h
  ·split at h
   ·obtain⟨U,_,_,_,_,A⟩:=h
    exact A h0
   exact h.2
  exact h.2
 exact h.2
theorem lA.none(h:lA l k er fo)(h0:er≠0):fo=[]:=by
 unfold lA at h
 split at h
 ·split at h
  ·obtain⟨U,_,_,_,_,A⟩:=h
   exact A h0
  exact h.2
 exact h.2
theorem lA.zero(h:lA l k 0 fo):(∀t,xN fo t=bD l k t)/\yd fo=0:=by
 unfold lA at h
 split at h
 ·rename_i hm
  split at h
  ·refine⟨(tD.good h rfl).2.1,tD.mok h rfl (Sv l k) λt A=>?_⟩
   have C:=(fF hm).2;rcases AK.1 A with A|A
   ·obtain⟨x,B,rfl⟩:=AD.1 A
    exact(C x B).1.1
   obtain⟨x,B,rfl⟩:=AD.1 A;exact(C x B).1.2.1
  simp at h
 rename_i hn;exact absurd h.1.symm hn
theorem RR{U:List (yT fS)}{c:vt}{y:yT fS}{t:Int}(D:vw U)(h:∀t,ko U t=sd state l t)(F:y∈U)(E:c=yP l k y)(h1:c.f<=t)(B:t<c.t) :
  c.s=(xN state t).getD 0/\c.has=(xN state t).isSome/\bD l k t=some c.v:=by
 subst E;have A:=D.mem_at F h1 B;rw[h]at A;unfold sd at A;unfold bD
 split at A
 ·simp at A
 rename_i hw
 rw[Au hw];have C:y.v=(yQ l t,xN state t):=(AB A).symm;unfold yP;rw[C];exact⟨rfl,rfl,rfl⟩
end
set_option maxHeartbeats 1000000
open Go.RowKit Go.Shelf Go.Sort
abbrev fa:={ x:zw // zL x.f=true/\zL x.t=true }
instance:Inhabited fa:=⟨⟨⟨0,0⟩,by decide⟩⟩
def RX(x:fa):List Value:=xH x.1
def OG(x y:fa):Int:=x.1.f-y.1.f
theorem OT(x y:fa):Go.Proofs.ltOf OG x y=decide (x.1.f<y.1.f):=by
 unfold Go.Proofs.ltOf OG
 by_cases h:x.1.f<y.1.f
 ·simp[h];omega
 simp[h];omega
theorem OZ:SWO (Go.Proofs.ltOf OG) where
 irrefl x:=by rw[OT];simp
 trans x y z h1 h2:=by rw[OT]at *;simp at *;omega
 ntrans x y z h1 h2:=by rw[OT]at *;simp at *;omega
theorem SA(x y:fa)(W:World):Calls Tryz.prog 203 #[.agg #[.int .i64 x.1.f,.int .i64 x.1.t],.agg #[.int .i64 y.1.f,.int .i64 y.1.t]] W λe F=>e=.returned (.int .i64 (OG x y))/\∃q A,F=grow (W.drewN q) A:=by
 obtain⟨⟨a,b⟩,B,_⟩:=x;obtain⟨⟨c,d⟩,C,_⟩:=y;have D:=wQ.1 B;have E:=wQ.1 C;simp only at D E;have G:IntKind.i64.wrap (a-c)=a-c:=AQ _ (by omega);unfold OG;simp only;clear B C
 go_enter Tryz.func203,Tryz.ntmps203
 go_wp2_with fail;go_ret;exact⟨rfl,0,_,by rw[alloc_eq_grow,alloc_eq_grow,grow_grow];rfl⟩
theorem aK:∀{l:List zw},(∀x,x∈l->zL x.f=true/\zL x.t=true)->∃l':List fa,l'.map Subtype.val=l
 |[],_=>⟨[],rfl⟩
 |x::l,h=>by
  obtain⟨l',e⟩:=aK (l:=l) λy hy=>h y (List.mem_cons_of_mem _ hy);exact⟨⟨x,h x (by simp)⟩::l',by rw[List.map_cons,e]⟩
theorem TL(l:List fa):l.flatMap RX=(l.map Subtype.val).flatMap xH:=by
 induction l with
 |nil=>rfl
 |cons x l ih=>rw[List.flatMap_cons,List.map_cons,List.flatMap_cons,ih];rfl
theorem Own.near{w:World}{base:Nat}{e:TypeId}{v:Value}{l:List fa}:Own RX 2 w base e v l↔Own xH 2 w base e v (l.map Subtype.val):=by
 unfold Own;rw[TL,Az]
def Pm(l:List zw)(v:Value)(w:World)(base:Nat)(e:Ending)(w':World):Prop:=e=.returned (.tuple #[])/\∃r,(∀x,x∈r↔x∈l)/\r.length=l.length/\r.Pairwise (λx y=>x.f<=y.f)/\Own xH 2 w' base 94 v r/\Below base w w'
theorem Xv(v:Value)(l:List zw)(w:World)(base:Nat)(A:Own xH 2 w base 94 v l)(H:base<=w.heap.size)(c:∀x,x∈l->zL x.f=true/\zL x.t=true)(b:l.length<=100000) :
  Calls Tryz.prog 202 #[v,.func (.func 203) #[] #[]] w (Pm l v w base):=by
 obtain⟨l',rfl⟩:=aK c;rcases A.2 with⟨F,T⟩|⟨g,J,R,F,Y,Q,_⟩
 ·rw[F]
  have G:l'.map Subtype.val=[]:=List.eq_nil_of_length_eq_zero T;have X:=AnyF.slices_SortFunc_none (P:=Tryz.prog) (ρ:=Tryz.sortIvl_ren) { Tryz.sortIvl with } none 0 (.func (.func 203) #[] #[]) w;refine X.mono λe w' ⟨he,hw⟩=>⟨he,[],by simp[G],by simp[G],by simp,by subst hw;rw[<-F,<-G];exact A,by rw[hw];exact Ae _ _⟩
 have I:g<w.heap.size:=by
  rcases Nat.lt_or_ge g w.heap.size with I|hge
  ·exact I
  rw[Array.getElem?_eq_none hge]at Q;cases Q
 have O:Own RX 2 w base 94 (.slice (some ⟨g,0,none⟩) l'.length J) l':=by
  have:=Own.near.2 A;rw[F]at this;simpa using this
 have W:=O.holdsK (sz:=2) (λ_=>rfl) (by decide);have S:∀D w,(callFunc 203 D).run Tryz.prog w=.ok (.enter 203 D) w:=enters_of Tryz.func203 (by kernel_rfl) rfl;have K:=AnyQ.slices_SortFunc Tryz.sortIvl 2 Tryz.isAgg94 Tryz.sizeOf94 RX (λ_=>rfl) (λx v F=>by simp[RX,xH]at F;rcases F with rfl|rfl <;> rfl) OG OZ 203 #[] g 0 J l'.toArray w S (λ_ _ _ _ x y=>SA x y _) W I (by simp at b⊢;omega)
 rw[F];have N:(l'.map Subtype.val).length=l'.toArray.size:=by simp
 rw[N];refine K.mono λe w' ⟨he,E,n,os,hp,hs,hw⟩=>?_;obtain⟨E⟩:=E;have C:E.length=l'.length:=by simpa using hp.1
 have B:E.Perm l':=by
  have:=hp.2.2;simp only[List.size_toArray,List.extract_toArray,List.extract_eq_take_drop,List.drop_zero,Nat.sub_zero]at this
  rwa[<-C,AL,C,AL]at this
 refine⟨he,E.map Subtype.val,λx=>by rw[AD,AD];exact⟨λ⟨y,hy,e⟩=>⟨y,B.subset hy,e⟩,λ⟨y,hy,e⟩=>⟨y,B.symm.subset hy,e⟩⟩,by simp[C],?_,?_,?_⟩
 ·rw[List.pairwise_map,List.pairwise_iff_getElem]
  intro i j Z a M;have L:=hs i j (AA _) M (by simp;omega);rw[OT]at L;simp only[List.getElem!_toArray]at L;rw[getElem!_pos E j a,getElem!_pos E i Z]at L;simpa using L
 ·rw[hw]
  have U:=O.sortWorld (sz:=2) (l':=E) (m:=n) (os:=os) (λ_=>rfl) (by decide) C;have V:=Own.near.1 U;simpa using V
 rw[hw];exact kT Y H
set_option maxHeartbeats 8000000
theorem ZG:Enters Tryz.prog 201:=enters_of Tryz.func201 (by kernel_rfl) rfl
theorem Sz(x:zw)(W:World):Calls Tryz.prog 201 #[PF x] W λe A=>e=.returned (.bool (decide (x.t<=x.f)))/\Below W.heap.size W A:=by
 go_enter Tryz.func201,Tryz.ntmps201
 go_wp2_with fail;go_ret;exact⟨rfl,by go_grown⟩
def vx(l:List zw)(k:Nat)(out:List zw):Prop:=(∃m,sb (l.take k) out m/\∀j x,k<=j->l[j]?=some x->m<=x.f)/\out.length<=k/\∀y,y∈out->zL y.f=true/\zL y.t=true
section
variable {l out o:List zw}{k:Nat}{x z:zw}
theorem vx.start:vx l 0 []:=⟨by
 cases l with
 |nil=>exact⟨0,sb.start,λj x _ h=>by simp at h⟩
 |cons y r=>
  obtain⟨m,hm⟩:∃m:Int,∀x,x∈y::r->m<=x.f:=by
   generalize y::r=q
   induction q with
   |nil=>exact⟨0,λx h=>by simp at h⟩
   |cons u q ih=>
    obtain⟨m,hm⟩:=ih;refine⟨min m u.f,λx A=>?_⟩;rcases List.mem_cons.1 A with rfl|A
    ·omega
    have:=hm x A;omega
  exact⟨m,sb.start,λj x _ h=>hm x (Ad h)⟩,Ay _,λy h=>by simp at h⟩
theorem vx.at_(h:vx l k out)(C:l[k]?=some x):sb (l.take k) out x.f:=by
 obtain⟨⟨m,A,B⟩,_⟩:=h;exact A.later (B k x (Ay _) C)
theorem aW(E:l.Pairwise λx y=>x.f<=y.f){j:Nat}{y:zw}(F:l[k]?=some x)(G:l[j]?=some y)(H:k+1<=j):x.f<=y.f:=by
 obtain⟨A,B⟩:=AW.1 F;obtain⟨C,D⟩:=AW.1 G;have:=List.pairwise_iff_getElem.1 E k j A C (by omega);rw[B,D]at this;exact this
theorem vx.join(h:vx l k (o++[z]))(H:l.Pairwise λx y=>x.f<=y.f)(B:l[k]?=some x)(C:x.f<x.t)(G:zL x.f=true/\zL x.t=true)(I:x.f<=z.t):vx l (k+1) (o++[⟨z.f,max z.t x.t⟩]):=by
 have E:=(h.at_ B).join C I;refine⟨⟨x.f,by rw[wC B];exact E,λj y F A=>aW H B A F⟩,by have:=h.2.1;simp at this⊢;omega,λy A=>?_⟩;rcases AK.1 A with A|A
 ·exact h.2.2 y (List.mem_append_left _ A)
 obtain rfl:y=_:=by simpa using A
 have D:=h.2.2 z (by simp);refine⟨D.1,?_⟩;simp only;rw[Int.max_def]
 split
 ·exact G.2
 exact D.2
theorem vx.next(h:vx l k out)(F:l.Pairwise λx y=>x.f<=y.f)(B:l[k]?=some x)(C:x.f<x.t)(E:zL x.f=true/\zL x.t=true)(G:∀y,y∈out->y.t<x.f):vx l (k+1) (out++[x]):=by
 refine⟨⟨x.f,by rw[wC B];exact(h.at_ B).next C G,λj y D A=>aW F B A D⟩,by have:=h.2.1;simp;omega,λy A=>?_⟩;rcases AK.1 A with A|A
 ·exact h.2.2 y A
 obtain rfl:y=x:=by simpa using A
 exact E
theorem vx.fin(h:vx l k out)(B:l.length<=k):pX l out:=by
 obtain⟨⟨m,A,_⟩,_⟩:=h;rw[AJ B]at A;exact⟨A.norm,A.has⟩
end
def Tg(l:List zw)(w:World)(e:Ending)(w':World):Prop:=∃A c out,Hid (pX l out/\out.length<=l.length/\∀y,y∈out->zL y.f=true/\zL y.t=true)/\e=.returned (.slice A out.length c)/\vW w.heap.size w' A c out/\Below w.heap.size w w'
theorem QK(A:Option Addr)(c:Nat)(l:List zw)(w:World)(hI:IvlsAt w A c l)(hl:l.length<=1000)(hn:∀x,x∈l->zL x.f=true/\zL x.t=true) :
  Calls Tryz.prog 190 #[.slice A l.length c] w (Tg l w):=by
 obtain⟨i0,hi,F0,G0,H0⟩:=rj;have hC:=λW (h:IvlsAt W A c l)=>ZN A c l W h (by omega);have hD:=λv W base (h:Own xH 2 W base 94 v l) (P:base<=W.heap.size)=>bu 201 #[] (λx=>decide (x.t<=x.f)) ZG v l W base h P (λx B=>⟨un (hn x B).1,un (hn x B).2⟩) (by omega) (λW x=>Sz x W);obtain⟨V,I⟩:∃V,V=l.filter λx=>!decide (x.t<=x.f):=⟨_,rfl⟩
 rw[<-I]at hD;have i:V.length<=l.length:=by rw[I];exact List.length_filter_le _ _
 have j:∀x,x∈V->(zL x.f=true/\zL x.t=true)/\x.f<x.t:=λx B=>by
  rw[I]at B;have:=List.mem_filter.1 B;exact⟨hn x this.1,by have h3:=this.2;simp at h3;omega⟩
 have d:∀t,zE V t=zE l t:=λt=>by
  have e:V=l.filter λx=>decide (x.f<x.t):=by
   rw[I]
   congr 1
   funext x
   by_cases h:x.t<=x.f
   ·have h':¬x.f<x.t:=by omega
    simp[h,h']
   have h':x.f<x.t:=by omega
   simp[h,h']
  rw[e];exact Vp
 have R:=zc j;have M0:=zc d;have HL:=zc hl;have Y:=zc i;clear I hn hl i j d
 go_enter Tryz.func190,Tryz.ntmps190
 go_wp2_with fail;refine(hC _ hI).mono ?_;rintro e w1 ⟨v1,rfl,O1,N⟩;clear hC hI;go_wp2_with fail;refine(hD v1 w1 _ O1 N.size).mono ?_;rintro e w2 ⟨v2,rfl,O2,H⟩;clear hD O1;have Q:w.heap.size<=w2.heap.size:=Ai N.size H.size;have H:Below w.heap.size w w2:=N.trans H;clear N;go_wp2_with fail;refine(Xv v2 V w2 w.heap.size O2 Q (λx B=>(R.out x B).1) (by have:=HL.out;have:=Y.out;omega)).mono ?_
 rintro e X ⟨rfl,K,D,A0,J,O3,q⟩;obtain⟨A3,c3,rfl,p⟩:=pc O3 (λx B=>by have:=(R.out x ((D x).1 B)).1;exact⟨un this.1,un this.2⟩);have r:Below w.heap.size w X:=H.trans q;have O0:Hid (∀x,x∈K->(zL x.f=true/\zL x.t=true)/\x.f<x.t):=zc λx B=>R.out x ((D x).1 B);have N0:Hid (∀t,zE K t=zE l t):=zc λt=>(Qi D t).trans (M0.out t)
 have S:=zc J;have Z:Hid (K.length<=l.length):=zc (by have:=Y.out;omega);have m3:K.length<=1000:=by have:=HL.out;have:=Z.out;omega
 have P0:=zc p;have C0:w.heap.size<=X.heap.size:=r.size;clear D A0 J O3 O2 q H p Q;go_wp2_with fail
 go_loopw [3,14] (λu v wr=>∃(k:Nat) (out:List zw),k<=K.length/\v=.int .i64 k/\Hid (vx K k out)/\Own xH 2 wr X.heap.size 94 u out/\Below X.heap.size X wr) (λ_ v _=>K.length-(intOf v).toNat)
 case atStart=>exact⟨0,[],AA _,rfl,zc vx.start,Own.nil,Ae _ _⟩
 obtain⟨k,out,hk,rfl,L,M,P⟩:=hrel;have U:=L.out.2.1;have G1:=P.size
 by_cases d0:k<K.length
 case neg=>
  obtain rfl:k=K.length:=by omega
  obtain⟨Ao,co,rfl,V0⟩:=pc M (λx B=>by have:=L.out.2.2 x B;exact⟨un this.1,un this.2⟩);have X0:Below w.heap.size w wr:=r.trans (P.mono C0);go_wp2_with fail;go_ret;refine⟨Ao,co,out,zc ⟨⟨(L.out.fin (Ay _)).1,λt=>((L.out.fin (Ay _)).2 t).trans (N0.out t)⟩,by have:=Z.out;omega,L.out.2.2⟩,rfl,V0.since C0,X0⟩
 obtain⟨x,B⟩:=zl d0;obtain⟨b,I1,rfl,W0,x0,x1⟩:=P0.out.get B;rw[<-P.cell (by exact W0)]at x0 x1;have D0:=O0.out x (Ad B);have HX:=zc B;have F:=zc D0;clear B D0;rcases List.eq_nil_or_concat out with rfl|⟨o,z,rfl⟩
 ·have hd:decide ((0:Int)>0)=false:=by decide
  have G:Hid (vx K (k+1) ([]++[x])):=zc (L.out.next S.out HX.out F.out.2 F.out.1 λy hy=>by simp at hy);obtain⟨Ao,co,rfl⟩:=M.form;go_wp2_with fail
  go_quiet (fail)
  go_wp2_with (at_builtin;refine zr (enc:=xH) rfl (.tmp 47) (.tmp 49) 65 rfl X.heap.size 94 i0 _ 2 16 Tryz.underlying65 hi F0 G0 H0 rfl (by decide) _ [] x rfl ((M.alloc _).drewN _) #[.int .i64 x.f,.int .i64 x.t] rfl (wr.heap.size+1) (by simp) rfl rfl pN (by simp) (by decide) (by simp;omega) ?_;intro gn a w6 C T c0 b0);go_roundw
  case rel=>exact⟨k+1,[]++[x],by omega,by go_num,G,C,(zo (ze P _) _).trans T⟩
  case measure=>simp[intOf];omega
 rw[List.concat_eq_append]at L M U;obtain⟨Ao,co,rfl⟩:=M.form;rw[Ag]at M U⊢;simp only[Ap,AC,Nat.zero_add]at M U⊢;obtain⟨go,rfl⟩:∃g,Ao=some ⟨g,0,none⟩:=by
  rcases M.2 with⟨h1,_⟩|⟨g,a,w0,hv,_⟩
  ·simp at h1
  simp only[Value.slice.injEq]at hv;exact⟨g,hv.1⟩
 obtain⟨e0,s,B0,Y0,cs,T0,Z0,E⟩:=M.cells rJ;have O:(o++[z])[o.length]?=some z:=by simp
 have z0:cs[o.length*2]?=some (.int .i64 z.f):=by have:=E _ z O 0 (by decide);simpa[xH]using this
 have z1:cs[o.length*2+1]?=some (.int .i64 z.t):=by have:=E _ z O 1 (by decide);simpa[xH]using this
 have F1:IntKind.i64.wrap (o.length:Int)=o.length:=AQ _ (by omega);have hd:(0:Int)<(o.length:Int)+1:=by omega
 have n:=T0.alloc (Obj.cells #[.int .i64 x.f,.int .i64 x.t] 94);obtain⟨c1,c2,v0⟩:=n.facts;have E1:o.length<o.length+1:=by omega
 have HR:=zc E;have Q0:=zc B0;have u0:=zc O;clear E B0 e0 O
 by_cases hz:x.f<=z.t
 case pos=>
  have a0:decide (x.f<=z.t)=true:=by simpa using hz
  have G:=zc (L.out.join S.out HX.out F.out.2 F.out.1 hz);clear hz;go_wp2_with fail
  go_quiet (fail)
  go_wp2_with fail
  go_region
  go_wp2_with fail;go_roundw
  case rel=>
   refine⟨k+1,o++[⟨z.f,max z.t x.t⟩],by omega,by go_num,G,?_,(zo (ze P _) _).setCell s _⟩;have h2:=Own.of_cells (enc:=xH) (m:=o++[⟨z.f,max z.t x.t⟩]) rJ (by decide) ((n.drewN (nq+1)).set_ (o.length*2+1) (.int .i64 (max z.t x.t))) s (by have:=Q0.out;simpa using this) Y0 (by simpa using Z0) (by
    have e:(o++[z]).set o.length ⟨z.f,max z.t x.t⟩=o++[⟨z.f,max z.t x.t⟩]:=by simp
    rw[<-e];refine HR.out.set (by simp) (λt ht=>by rw[Aj (by omega)]) (λt ht=>?_);have k1:o.length*2+1<cs.size:=(Array.getElem?_eq_some_iff.1 z1).1
    match t,ht with
    |0,_=>
     show(cs.setIfInBounds (o.length*2+1) (.int .i64 (max z.t x.t)))[o.length*2]?=_;rw[Aj (by omega),z0];rfl
    |1,_=>rw[Ak k1];rfl)
   simpa using h2
  case measure=>simp[intOf];omega
 have a0:decide (x.f<=z.t)=false:=by simpa using hz
 have G:Hid (vx K (k+1) (o++[z]++[x])):=zc (L.out.next S.out HX.out F.out.2 F.out.1 λy hy=>by
  have:=(L.out.at_ HX.out).norm.rise y hy;omega)
 clear hz;go_wp2_with fail
 go_quiet (fail)
 go_wp2_with (at_builtin;refine zr (enc:=xH) rfl (.tmp 47) (.tmp 49) 65 rfl X.heap.size 94 i0 _ 2 16 Tryz.underlying65 hi F0 G0 H0 rfl (by decide) _ (o++[z]) x rfl ((M.alloc _).drewN _) #[.int .i64 x.f,.int .i64 x.t] rfl (wr.heap.size+1) (by simp) rfl rfl pN (by simp;omega) (by decide) (by simp;omega) ?_;intro gn a w6 C T c0 b0);go_roundw
 case rel=>exact⟨k+1,o++[z]++[x],by omega,by go_num,G,by simpa using C,(zo (ze P _) _).trans T⟩
 case measure=>simp[intOf];omega
set_option maxHeartbeats 1000000
def eP(x:zw):Bool:=vp x.f || vp x.t
def vy(l:List zw)(er:Int)(out:List zw):Prop:=
 if 200<l.length then er=2/\out=[] else if l.any eP=true then er=5/\out=[] else er=0/\pX l out
theorem vy.same{l:List zw}{D B:Int}{C A:List zw}(h:vy l D C)(k:vy l B A):D=B/\C=A:=by
 unfold vy at h k
 split at h
 ·rename_i h1;rw[Aq h1]at k;rw[h.1,h.2,k.1,k.2];exact⟨rfl,rfl⟩
 rename_i h1
 rw[Au h1]at k
 split at h
 ·rename_i h2;rw[Aq h2]at k;rw[h.1,h.2,k.1,k.2];exact⟨rfl,rfl⟩
 rename_i h2;rw[Au h2]at k;rw[h.1,k.1];exact⟨rfl,h.2.eq k.2⟩
theorem Xa{l:List zw}(h:¬l.any eP=true):∀x,x∈l->zL x.f=true/\zL x.t=true:=λx B=>by
 have h1:eP x=false:=by
  cases A:eP x
  ·rfl
  exact absurd (List.any_eq_true.2 ⟨x,B,A⟩) h
 unfold eP at h1;rw[Bool.or_eq_false_iff]at h1;exact⟨wU h1.1,wU h1.2⟩
theorem vy.of{l:List zw}{B:Int}{A:List zw}(h:vy l B A)(h0:B=0):Of (zE l) l.length A/\l.length<=200:=by
 unfold vy at h
 split at h
 ·rw[h0]at h;simp at h
 rename_i h1
 split at h
 ·rw[h0]at h;simp at h
 rename_i h2
 exact⟨h.2.of (Xa h2),by omega⟩
theorem ZE:Enters Tryz.prog 188:=enters_of Tryz.func188 (by kernel_rfl) rfl
theorem Tf(x:zw)(W:World):Calls Tryz.prog 188 #[PF x] W λe A=>e=.returned (.bool (eP x))/\Below W.heap.size W A:=by
 cases B:vp x.f
 case true=>
  go_enter Tryz.func188,Tryz.ntmps188
  go_wp2_with (first|(go_at_call 189;refine(Vg (by assumption) _).mono ?_;rintro e A ⟨rfl,rfl⟩));go_ret;exact⟨yW (by simp[eP,B]),by go_grown⟩
 case false=>
  cases C:vp x.t
  all_goals
   go_enter Tryz.func188,Tryz.ntmps188
   go_wp2_with (first|(go_at_call 189;refine(Vg (by assumption) _).mono ?_;rintro e A ⟨rfl,rfl⟩));go_ret;exact⟨yW (by simp[eP,B,C]),by go_grown⟩
theorem Xu(A:Option Addr)(c:Nat)(l:List zw)(w:World)(E:IvlsAt w A c l):Calls Tryz.prog 174 #[.slice A l.length c] w (ey (vy l) w):=by
 have T:=E.len
 by_cases C:200<l.length
 case pos=>
  have Q:decide ((l.length:Int)>200)=true:=by simp;omega
  have D:Hid (vy l 2 []):=zc (by unfold vy;rw[Aq C];exact⟨rfl,rfl⟩);clear C E
  go_enter Tryz.func174,Tryz.ntmps174
  go_wp2_with fail;refine AP (v:=.tuple #[.slice none 0 0,.int .i64 2]) (by simp[results,Tryz.results174]) rfl ?_;exact⟨2,[],none,0,D,rfl,.nil,Ae _ _⟩
 have Q:decide ((l.length:Int)>200)=false:=by simp;omega
 have F:=iZ 188 #[] eP ZE A c l w E λW x _=>Tf x W
 cases B:l.any eP
 case true=>
  have D:Hid (vy l 5 []):=zc (by unfold vy;rw[Au C,Aq B];exact⟨rfl,rfl⟩);rw[B]at F;clear C E B
  go_enter Tryz.func174,Tryz.ntmps174
  go_wp2_with (go_at_call 187;refine F.mono ?_;rintro e R ⟨rfl,G⟩);refine AP (v:=.tuple #[.slice none 0 0,.int .i64 5]) (by simp[results,Tryz.results174]) rfl ?_;exact⟨5,[],none,0,D,rfl,.nil,G⟩
 case false=>
  have N:=Xa (l:=l) (by rw[B];simp);rw[B]at F;have D:∀out,pX l out->vy l 0 out:=λout h=>by unfold vy;rw[Au C,Au (by rw[B];simp)];exact⟨rfl,h⟩
  have H:=zc D;have S:=zc C;have M:=λW (h:IvlsAt W A c l)=>QK A c l W h (by omega) N;have O:=zc E;clear C B D N E
  go_enter Tryz.func174,Tryz.ntmps174
  go_wp2_with (go_at_call 187;refine F.mono ?_;rintro e R ⟨rfl,G⟩);refine(M _ (O.out.ext G)).mono ?_;rintro e U ⟨K,L,out,P,rfl,I,J⟩;clear M F;go_wp2_with fail;refine AP (v:=.tuple #[.slice K out.length L,.int .i64 0]) (by simp[results,Tryz.results174]) rfl ?_;exact⟨0,out,K,L,zc (H.out out P.out.1),rfl,I.since G.size,za G J⟩
noncomputable def tU(a b:List zw):Int:=if yw a=0 then yw b else yw a
theorem RO(A B:Option Addr)(c d:Nat)(a b:List zw)(w:World)(F:IvlsAt w A c a)(G:IvlsAt w B d b) :
  Calls Tryz.prog 191 #[.slice A a.length c,.slice B b.length d] w λe J=>e=.returned (.int .i64 (tU a b))/\Below w.heap.size w J:=by
 have C:=ia A c a w F;have I:=zc G
 by_cases D:yw a=0
 case pos=>
  unfold tU;rw[Aq D];rw[D]at C;clear D F G
  go_enter Tryz.func191,Tryz.ntmps191
  go_wp2_with (go_at_call_of 204 a;refine C.mono ?_;rintro e K ⟨rfl,E⟩);refine(ia B d b _ (I.out.ext E)).mono ?_;rintro e M ⟨rfl,H⟩;go_wp2_with fail;go_ret;exact⟨rfl,za E H⟩
 have L:(yw a != 0)=true:=by simpa using D
 unfold tU;rw[Au D];clear D F G
 go_enter Tryz.func191,Tryz.ntmps191
 go_wp2_with (go_at_call 204;refine C.mono ?_;rintro e K ⟨rfl,E⟩);go_ret;exact⟨rfl,E⟩
theorem RV(A:Option Addr)(n c:Nat)(w:World)(h:200<n):Calls Tryz.prog 192 #[.slice A n c] w λe B=>e=.returned (.tuple #[.slice none 0 0,.int .i64 2])/\w=B:=by
 have C:decide ((n:Int)>200)=true:=by simp;omega
 go_enter Tryz.func192,Tryz.ntmps192
 go_wp2_with fail;refine AP (v:=.tuple #[.slice none 0 0,.int .i64 2]) (by simp[results,Tryz.results192]) rfl ?_;exact⟨rfl,rfl⟩
theorem Pz(A:Option Addr)(n c:Nat)(w:World)(h:¬200<n):Calls Tryz.prog 192 #[.slice A n c] w λe B=>e=.returned (.tuple #[.slice A n c,.int .i64 0])/\w=B:=by
 have C:decide ((n:Int)>200)=false:=by simp;omega
 go_enter Tryz.func192,Tryz.ntmps192
 go_wp2_with fail;refine AP (v:=.tuple #[.slice A n c,.int .i64 0]) (by simp[results,Tryz.results192]) rfl ?_;exact⟨rfl,rfl⟩
theorem YR{op:Bool->Bool->Bool}{a b B:List zw}(A:Option Addr)(c:Nat)(w:World){b0:Nat}(H:vW b0 w A c B)(D:yw a=0)(E:yw b=0)(F:ya B)(G:∀t,zE B t=op (zE a t) (zE b t)) :
  Calls Tryz.prog 192 #[.slice A B.length c] w (Pl b0 (yu op a b) w):=by
 by_cases C:200<B.length
 ·exact(RV A B.length c w C).mono λe w' ⟨he,hw⟩=>⟨2,[],none,0,zc (yu.large D E F G C),he,by rw[<-hw];exact .nil,by rw[<-hw];exact Ae _ _⟩
 exact(Pz A B.length c w C).mono λe w' ⟨he,hw⟩=>⟨0,B,A,c,zc (yu.good D E F G C),he,by rw[<-hw];exact H,by rw[<-hw];exact Ae _ _⟩
theorem YH{op:Bool->Bool->Bool}{a b:List zw}(h:tU a b≠0):yu op a b (tU a b) []:=by
 unfold tU at h⊢
 by_cases A:yw a=0
 ·rw[Aq A]at h⊢
  exact yu.badB A h
 rw[Au A];exact yu.badA A
theorem Zw{a b:List zw}(h:tU a b=0):yw a=0/\yw b=0:=by
 unfold tU at h
 by_cases A:yw a=0
 ·rw[Aq A]at h;exact⟨A,h⟩
 rw[Au A]at h;exact absurd h A
theorem ey.trans{R:Int->List zw->Prop}{w w1:World}{e:Ending}{D:World}(C:Below w.heap.size w w1)(h:ey R w1 e D):ey R w e D:=by
 obtain⟨E,B,A,c,F,G,H,I⟩:=h;exact⟨E,B,A,c,F,G,H.since C.size,za C I⟩
