import Derived.Test.YtjcimdpldlamfaaGreatDoorBd5284351ea8
import Derived.Test.YtjcimdpldlamfaaGreatDoorBd345c9495f3
namespace Go.Proofs.YtjcimdpldlamfaaGreatDoor
open Go.RowKit
theorem ZL:(Tryz.prog.info? 111).map (λi=>(i.zero,i.size,i.bytes))=some (some (.slice none 0 0),1,24):=by kernel_rfl
theorem Sr(n:Nat)(h:n<=1000000)(w:World):(Instr.makeSlice 108 (.int .i64 (n:Int)) (.int .i64 (n:Int))).run Tryz.prog w=.ok (.slice (some ⟨w.heap.size,0,none⟩) n n) (w.alloc (.cells (madeCells #[.slice none 0 0] n) 111)):=
 run_make_row' (P:=Tryz.prog) 108 111 (.slice none 0 0) 24 Tryz.underlying108 ZL rfl .i64 .i64 n (by omega) (by omega) w
structure vz(w:World)(base gb:Nat)(bx:List yZ):Prop where
 blk:zj w gb 111 (bx.map sV).toArray
 sides:tC w base 113 bx
section
variable {w w':World}{base gb:Nat}{bx:List yZ}
theorem vz.ext(h:vz w base gb bx)(hb:Below w.heap.size w w'):vz w' base gb bx:=⟨h.blk.ext hb,h.sides.ext hb⟩
theorem vz.made{n b:Nat}(B:b=w.heap.size):vz (w.alloc (.cells (madeCells #[.slice none 0 0] n) 111)) base b (List.replicate n ([],none,0)):=by
 subst B;refine⟨?_,λx A=>?_,λi j x y _ A _ k C=>?_⟩
 ·have h:=zj.new w 111 (madeCells #[.slice none 0 0] n)
  rw[lR]at h;rw[lR,List.map_replicate];exact h
 ·obtain rfl:=List.eq_of_mem_replicate A
  exact Own.nil
 obtain rfl:=List.eq_of_mem_replicate (Ad A);simp[sV,Value.ownBlock]at C
theorem vz.put{W:World}{i B A:Nat}{x:yZ}{m:zg}(h:vz w base gb bx)(J:bx[i]?=some x)(S:Own zK 3 w' base 113 (.slice (some ⟨B,0,none⟩) (x.1.length+1) A) (x.1++[m]))
  (M:∀b O D,zj w b O D->some b≠(sV x).ownBlock->zj w' b O D) (R:(sV x).ownBlock=some B∨w.heap.size<B) (P:w'.setCell ⟨gb,i,none⟩ (.slice (some ⟨B,0,none⟩) (x.1.length+1) A)=W) :
  vz W base gb (bx.set i (x.1++[m],some ⟨B,0,none⟩,A)):=by
 subst P;have K:=h.sides.own x (Ad J);have I:some gb≠(sV x).ownBlock:=K.other h.blk (by decide);have L:=M _ _ _ h.blk I;have E:∀b C,zj w' b 113 C->zj (w'.setCell ⟨gb,i,none⟩ (.slice (some ⟨B,0,none⟩) (x.1.length+1) A)) b 113 C:=zG L (by decide) i _;refine⟨?_,h.sides.set J ?_ (λj z Q N=>?_) λb G=>?_⟩
 ·have F:=L.set_ i (.slice (some ⟨B,0,none⟩) (x.1.length+1) A)
  rw[List.map_set];simpa[sV]using F
 ·have F:=S.keep E
  unfold sV;simpa using F
 ·refine(h.sides.own z (Ad N)).keepB λb C G H=>E b C (M b _ C H λe=>h.sides.apart j i z x Q N J b G e.symm)
 simp only[sV,Value.ownBlock,Option.some.injEq]at G;subst G;exact R.imp id λF=>by omega
end
theorem Up(l l':List zg):∀A:Option Addr×Nat,(sV (l,A)).ownBlock=(sV (l',A)).ownBlock:=λ⟨A,c⟩=>by cases A <;> rfl
section
variable {w w':World}{base gb:Nat}{bx:List yZ}
theorem vz.grow{i g:Nat}{x:yZ}{o:List zg}{z:zg}{d:Int}(h:vz w base gb bx)(I:bx[i]?=some x)(J:x.1=o++[z])(S:(sV x).ownBlock=some g):vz (w.setCell ⟨g,o.length*3+1,none⟩ (.int .i64 d)) base gb (bx.set i (o++[⟨z.f,d,z.v⟩],x.2)):=by
 have K:=h.sides.own x (Ad I);have V:x.1.length=o.length+1:=by rw[J];simp
 have H:sV x=.slice (some ⟨g,0,none⟩) (o.length+1) x.2.2:=by
  rcases K.2 with⟨M,_⟩|⟨a,Y,Z,O,_⟩
  ·unfold sV at M
   simp only[Value.slice.injEq]at M;omega
  have:a=g:=by rw[O]at S;simpa[Value.ownBlock]using S
  subst this;unfold sV at O⊢;simp only[Value.slice.injEq]at O⊢;exact⟨O.1,V,trivial⟩
 have L:Own zK 3 w base 113 (.slice (some ⟨g,0,none⟩) (o.length+1) x.2.2) (o++[z]):=by
  rw[<-H,<-J];exact K
 obtain⟨n,T,U,Q,B,E,R,A⟩:=L.cells rp;have D:(o++[z])[o.length]?=some z:=by simp
 have q:B[o.length*3]?=some (.int .i64 z.f):=by have:=A _ z D 0 (by decide);simpa[zK]using this
 have r:B[o.length*3+1]?=some (.int .i64 z.t):=by have:=A _ z D 1 (by decide);simpa[zK]using this
 have s:B[o.length*3+2]?=some (.int .i64 z.v):=by have:=A _ z D 2 (by decide);simpa[zK]using this
 have G:∀b t C,b≠g->zj w b t C->zj (w.setCell ⟨g,o.length*3+1,none⟩ (.int .i64 d)) b t C:=λb t C F k=>k.far F _;refine⟨?_,h.sides.set I ?_ (λj y N X=>?_) λb F=>?_⟩
 ·have M:=G gb _ _ (wv h.blk E (by decide)) h.blk
  have e:((bx.set i (o++[⟨z.f,d,z.v⟩],x.2)).map sV)=bx.map sV:=by
   rw[List.map_set];refine List.ext_getElem? λj=>?_
   by_cases N:j=i
   ·subst N
    have l:=zy I;rw[AY (by simpa using l),AU,I];unfold sV;simp[V]
   rw[AX (λe=>N e.symm)]
  rw[e];exact M
 ·have c:=Own.of_cells (enc:=zK) (m:=o++[⟨z.f,d,z.v⟩]) rp (by decide) (E.set_ (o.length*3+1) (.int .i64 d)) T (by simpa using U) Q (by simpa using R) (by
   have e:(o++[z]).set o.length ⟨z.f,d,z.v⟩=o++[⟨z.f,d,z.v⟩]:=by simp
   rw[<-e];refine A.set (by simp) (λt W=>by rw[Aj (by omega)]) (λt W=>?_);have p:o.length*3+1<B.size:=(Array.getElem?_eq_some_iff.1 r).1
   match t,W with
   |0,_=>
    show(B.setIfInBounds (o.length*3+1) (.int .i64 d))[o.length*3]?=_;rw[Aj (by omega),q];rfl
   |1,_=>rw[Ak p];rfl
   |2,_=>rw[Aj (by omega),s];rfl)
  have e:sV (o++[⟨z.f,d,z.v⟩],x.2)=.slice (some ⟨g,0,none⟩) (o.length+1) x.2.2:=by
   rw[<-H];unfold sV;simp[V]
  rw[e];simpa using c
 ·exact(h.sides.own y (Ad X)).keepB λb B F P=>G b _ B (λe=>h.sides.apart j i y x N X I b F (by rw[S,e])) P
 exact .inl (by rw[<-F];exact Up x.1 _ x.2)
end
def ph(out:List (List zg))(i:Nat)(t:Int):Option Int:=xN ((out[i]?).getD []) t
structure rF(out:List (List zg))(bx:List yZ)(T:Int)(i:Nat):Prop where
 len:bx.length=out.length
 told:∀(j:Nat) (x:yZ),bx[j]?=some x->qr (ph out j) 0 (if j<i then T+1 else T) x.1
 few:∀(j:Nat) (x:yZ),bx[j]?=some x->(x.1.length:Int)<=if j<i then T+1 else T
section
variable {out:List (List zg)}{bx:List yZ}{T h:Int}{i n:Nat}{x:yZ}
theorem rF.start(B:out.length=n):rF out (List.replicate n (([],none,0):yZ)) 0 0:=by
 refine⟨by simp[B],λj x A=>?_,λj x A=>?_⟩
 ·obtain rfl:=List.eq_of_mem_replicate (Ad A)
  rw[Au (Nat.not_lt_zero _)];exact qr.start
 obtain rfl:=List.eq_of_mem_replicate (Ad A);rw[Au (Nat.not_lt_zero _)];exact Int.le_refl _
theorem rF.next(C:rF out bx T i)(hi:bx.length<=i):rF out bx (T+1) 0:=by
 refine⟨C.len,λj x B=>?_,λj x B=>?_⟩
 ·have A:=C.told j x B
  have:=zy B;rw[Aq (by omega)]at A;rw[Au (Nat.not_lt_zero _)];exact A
 have A:=C.few j x B;have:=zy B;rw[Aq (by omega)]at A;rw[Au (Nat.not_lt_zero _)];exact A
theorem rF.put(F:rF out bx T i)(K:bx[i]?=some x){y:yZ}(L:qr (ph out i) 0 (T+1) y.1)(J:(y.1.length:Int)<=T+1):rF out (bx.set i y) T (i+1):=by
 have I:=zy K;have B:∀(j:Nat) (z:yZ),(bx.set i y)[j]?=some z->(j=i/\z=y)∨(j≠i/\bx[j]?=some z):=λj z C=>by
  by_cases G:j=i
  ·subst G
   rw[AY I]at C;exact .inl ⟨rfl,(AB C).symm⟩
  rw[AX (λe=>G e.symm)]at C;exact .inr ⟨G,C⟩
 refine⟨by rw[List.length_set];exact F.len,λj z C=>?_,λj z C=>?_⟩
 ·rcases B j z C with⟨rfl,rfl⟩|⟨H,E⟩
  ·rw[Aq (Nat.lt_succ_self _)];exact L
  have A:=F.told j z E
  by_cases D:j<i
  ·rw[Aq D]at A;rw[Aq (by omega)];exact A
  rw[Au D]at A;rw[Au (by omega)];exact A
 rcases B j z C with⟨rfl,rfl⟩|⟨H,E⟩
 ·rw[Aq (Nat.lt_succ_self _)];exact J
 have A:=F.few j z E
 by_cases D:j<i
 ·rw[Aq D]at A;rw[Aq (by omega)];exact A
 rw[Au D]at A;rw[Au (by omega)];exact A
theorem rF.at_(C:rF out bx T i)(D:bx[i]?=some x):qr (ph out i) 0 T x.1/\(x.1.length:Int)<=T:=by
 have A:=C.told i x D;have B:=C.few i x D;rw[Au (Nat.lt_irrefl _)]at A B;exact⟨A,B⟩
theorem rF.skip(C:rF out bx T i)(A:bx[i]?=some x)(F:ph out i T=none):rF out bx T (i+1):=by
 have E:=C.at_ A;have B:=C.put A (y:=x) (E.1.skip (by omega) (λt B G=>by rw[show t=T by omega]) F) (by omega);have e:bx.set i x=bx:=by
  refine List.ext_getElem? λj=>?_
  by_cases D:j=i
  ·subst D;rw[AY (zy A),A]
  rw[AX (λe=>D e.symm)]
 rwa[e]at B
theorem rF.longer(D:rF out bx T i)(E:bx[i]?=some x){o:List zg}{z:zg}(B:x.1=o++[z])(F:0<=T)(G:ph out i T=some z.v)(H:z.t=T):rF out (bx.set i (o++[⟨z.f,T+1,z.v⟩],x.2)) T (i+1):=by
 obtain⟨C,A⟩:=D.at_ E;rw[B]at C A;refine D.put E (C.grow F (by omega) (λt A I=>by rw[show t=T by omega]) G H) ?_;simp only[Ag,Ap,AC]at A⊢;omega
theorem rF.more(B:rF out bx T i)(C:bx[i]?=some x){v:Int}(A:Option Addr×Nat)(F:0<=T)(G:ph out i T=some v)(H:∀y,y∈x.1->y.t=T->y.v≠v):rF out (bx.set i (x.1++[⟨T,T+1,v⟩],A)) T (i+1):=by
 obtain⟨D,E⟩:=B.at_ C;refine B.put C (D.next F (by omega) (λt E I=>by rw[show t=T by omega]) G H) ?_;simp only[Ag,Ap,AC];omega
theorem Ri{m:List zg}{j:Nat}{o:List zg}(D:out[j]?=some m)(A:wK h m)(B:qr (ph out j) 0 h o):o=m:=qU B.map A.map λt=>by
 have e:ph out j t=xN m t:=by unfold ph;rw[D];rfl
 rw[B.tells t,e]
 split
 ·rfl
 next hn=>
 cases C:xN m t with
 |none=>rfl
 |some v=>exact absurd (A.at_ C).1 hn
theorem rF.fin(B:rF out bx h 0)(F:∀m,m∈out->wK h m):bx.map Prod.fst=out:=by
 refine List.ext_getElem? λj=>?_;rw[AU];rcases Nat.lt_or_ge j bx.length with A|A
 ·obtain⟨x,E⟩:=zl A
  obtain⟨m,C⟩:=zl (show j<out.length by rw[<-B.len];exact A);have D:=B.told j x E;rw[Au (Nat.not_lt_zero _)]at D;rw[E,C];exact congrArg some (Ri C (F m (Ad C)) D)
 rw[List.getElem?_eq_none A,List.getElem?_eq_none (by rw[<-B.len];exact A)];rfl
theorem ST{g:zf}{p v t:Int}{k:Nat}{l:List Int}(C:tu g p v k out)(F:0<=t/\t<g.h)(A:l.length=g.lives.length)(K:qp (rW g p t) (qb g p v t) (gi l)){j:Nat}{y:Int}(G:l[j]?=some y) :
  ph out j t=if y=vN then none else some y:=by
 obtain⟨I,J⟩:=C.at_ t F.1 F.2;have L:rY out t=gi l:=(I.best WN J).eq K;obtain⟨m,D⟩:=zl (show j<out.length by rw[C.len,<-A];exact zy G);have B:=sK (t:=t) D;rw[L,vE G]at B;have M:=C.lies m (Ad D);have e:ph out j t=xN m t:=by unfold ph;rw[D];rfl
 rw[e];rcases M.val_cases t with⟨H,E⟩|⟨H,_,_,E⟩
 ·rw[E,Aq (by rw[B,H])]
 rw[E,Au (by rw[B];unfold vN;omega),B]
end
set_option maxRecDepth 100000
set_option maxHeartbeats 8000000
theorem ui.keep{w w':World}{base:Nat}{A:Option Addr}{l:List Int}(h:ui w base A l)(hk:∀b cs,zj w b 3 cs->zj w' b 3 cs):ui w' base A l:=λh0=>by
 obtain⟨g,cs,h1,h2,h3,h4⟩:=h h0;exact⟨g,cs,h1,h2,hk g cs h3,h4⟩
def px(w w':World):Prop:=∀b t cs,zj w b t cs->t≠113->t≠111->zj w' b t cs
theorem px.trans{w w' w'':World}(h:px w w')(k:px w' w''):px w w'':=λb t cs hB h1 h2=>k b t cs (h b t cs hB h1 h2) h1 h2
theorem px.store{w w1 w2:World}{g j:Nat}{t:TypeId}{cs:Array Value}{u:Value}(h:px w w1)(hg:zj w1 g t cs)(ht:t=113∨t=111)(he:w2=w1.setCell ⟨g,j,none⟩ u):px w w2:=λb t' cs' hB h1 h2=>by
 subst he;exact(h b t' cs' hB h1 h2).far (wv (h b t' cs' hB h1 h2) hg (by rcases ht with rfl|rfl;exact h1;exact h2)) _
theorem mX{w w1 w2:World}{gb j base:Nat}{v u:Value}{l:List zg}{cs:Array Value}(h:px w w1)(hO:Own zK 3 w1 base 113 v l)(hk:∀b t' cs',zj w1 b t' cs'->some b≠v.ownBlock->zj w2 b t' cs')(hg:zj w2 gb 111 cs):px w (w2.setCell ⟨gb,j,none⟩ u):=λb t cs' hB h1 h2=>by
 have hb:=h b t cs' hB h1 h2;have h3:=hk b t cs' hb (hO.other hb h1);exact h3.far (wv h3 hg h2) _
theorem UT{f:Int->Option Int}{a T y:Int}{o:List zg}{z:zg}(h:qr f a T (o++[z]))(C:z.t≠T∨z.v≠y):∀q,q∈o++[z]->q.t=T->q.v≠y:=λq A B=>by
 rcases AK.1 A with A|A
 ·have h1:=(List.pairwise_append.1 h.map.1).2.2 q A z (by simp)
  have h2:=h.map.2 z (by simp);have h3:=h.low z (by simp);omega
 obtain rfl:q=z:=by simpa using A
 exact C.resolve_left λk=>k B
def Oi(out:List (List zg))(w:World)(e:Ending)(w':World):Prop:=∃(gb:Nat) (r:Int) (bx:List yZ),e=.returned (.tuple #[.slice (some ⟨gb,0,none⟩) out.length out.length,.int .i64 r])/\vz w' w.heap.size gb bx/\bx.map Prod.fst=out/\Below w.heap.size w w'
theorem Uc(A A':Option Addr)(c c':Nat)(g:zf)(p v:Int)(k:Nat)(out:List (List zg))(w:World)(hG:zv w A c A' c' g)(hV:zx g)(hp:1<=p/\p<=3)(hR:tu g p v k out) :
  Calls Tryz.prog 86 #[gV A c A' c' g,.int .i64 p,.int .i64 v] w (Oi out w):=by
 have P2:=hV.h1;have O2:=hV.h0;have v1:=hV.nl;have Z1:=Sr g.lives.length (by omega);have C0:=zc hR.len;have HR:=zc hR;have HG:=zc hG;have HV:=zc hV;have HP:=zc hp;have I1:=zc hR.lies;obtain⟨i0,hi,T0,U0,V0⟩:=mU;clear hG hV hR hp
 go_enter Tryz.func86,Tryz.ntmps86
 go_wp2_with fail;have g0:=(zj.new w 68 (gC A c A' c' g)).alloc (.cells (madeCells #[.slice none 0 0] g.lives.length) 111);have l0:vz ((w.alloc (Obj.cells (gC A c A' c' g) 68)).alloc (.cells (madeCells #[.slice none 0 0] g.lives.length) 111)) w.heap.size (w.heap.size+1) (List.replicate g.lives.length ([],none,0)):=vz.made (by simp);have n0:Below w.heap.size w ((w.alloc (Obj.cells (gC A c A' c' g) 68)).alloc (.cells (madeCells #[.slice none 0 0] g.lives.length) 111)):=by go_grown
 go_loopw [9,10] (λr tv wr=>∃(T:Nat) (kk:Int) (bx:List yZ),tv=.int .i64 T/\r=.int .i64 kk/\(T:Int)<=g.h/\vz wr w.heap.size (w.heap.size+1) bx/\Hid (rF out bx T 0)/\zj wr w.heap.size 68 (gC A c A' c' g)/\Below w.heap.size w wr) (λ_ tv _=>g.h.toNat-(intOf tv).toNat)
 case atStart=>exact⟨0,0,_,rfl,rfl,by omega,l0,zc (rF.start C0.out),g0,n0⟩
 clear g0 l0 n0 Z1;obtain⟨T,kk,bx,rfl,rfl,hT,hM,HK,hB,hb⟩:=hrel;have x0:wr.cell? ⟨w.heap.size,0,none⟩=some (.int .i64 g.h):=hB.cell 0;have x1:wr.cell? ⟨w.heap.size,1,none⟩=some (.slice A g.lives.length c):=hB.cell 1;have x2:wr.cell? ⟨w.heap.size,2,none⟩=some (.slice A' g.edges.length c'):=hB.cell 2;have HB:=zc hB;have HM:=zc hM;have L0:=zc hb;clear hB hM hb
 by_cases X1:(T:Int)<g.h
 case neg=>
  have HF:Hid (bx.map Prod.fst=out):=zc (by
   have h1:=HK.out;rw[show(T:Int)=g.h by omega]at h1;exact h1.fin I1.out)
  go_wp2_with fail;go_ret2;exact⟨_,kk,bx,by rw[C0.out];rfl,HM.out,HF.out,L0.out⟩
 have HT:Hid (0<=(T:Int)/\(T:Int)<g.h):=zc ⟨by omega,X1⟩;have N1:=zc (iH A A' c c' g (T:Int) wr (HG.out.ext L0.out) HV.out);go_wp2_with fail;refine N1.out.mono ?_;rintro e w2 ⟨As,cs,A1,O1,rfl,hS,D0⟩;have L1:=zc (lZ As A1 cs O1 (xR g (T:Int)) p v w2 hS.1 (sw (kg HV.out _)) HP.out.1 HP.out.2);have B1:=zc (HB.out.ext D0);have J1:=zc (HM.out.ext D0);have b0:=zc (za L0.out D0)
 clear hS D0;go_wp2_with fail;refine L1.out.mono ?_;rintro e w3 ⟨l,Al,cl,k3,rfl,hl,Q1,W1,E0,j0⟩;have s:l.length=g.lives.length:=hl.1.trans (wu g _);have M1:Hid (∀(j:Nat) (y:Int),l[j]?=some y->ph out j T=if y=vN then none else some y):=zc λj y hy=>ST HR.out HT.out s hl.2 hy;have Y:=zc s;have K1:=zc (J1.out.ext E0);have C1:=zc (B1.out.ext E0);have d0:=zc (za b0.out E0)
 have G1:=zc j0;have t1:l.length<=12:=by omega
 have u1:l.length<=9223372036854775807:=by omega
 clear hl Q1 E0 j0 W1 s;go_wp2_with fail
 go_loopw [13] (λvv wt=>∃(i:Nat) (C:List yZ),vv=.int .i64 i/\i<=l.length/\vz wt w.heap.size (w.heap.size+1) C/\Hid (rF out C T i)/\Hid (px w3 wt)/\Below w.heap.size w wt) (λvv _=>l.length-(intOf vv).toNat)
 case atStart=>exact⟨0,bx,rfl,AA _,K1.out,HK,zc (λ_ _ _ h _ _=>h),d0.out⟩
 obtain⟨i,C,rfl,R2,W,K,Q,U⟩:=hrel
 by_cases N:i<l.length
 case neg=>
  obtain rfl:i=l.length:=by omega
  have H1:Hid (rF out C ((T:Int)+1) 0):=zc (K.out.next (by rw[K.out.len,C0.out,Y.out];exact Ay _));have D1:=zc (Q.out _ _ _ C1.out (by decide) (by decide));go_wp2_with fail;go_roundw
  case rel=>exact⟨T+1,_,C,by go_num,rfl,by omega,W,zc (by have h1:=H1.out;simpa using h1),D1.out,U⟩
  case measure=>simp[intOf];omega
 obtain⟨y,hy⟩:=zl N;have Q2:i<g.lives.length:=by rw[<-Y.out];exact N
 have k0:=G1.out.keep λb cs h=>Q.out b _ cs h (by decide) (by decide);obtain⟨ga,rfl,p0,q0,r0,_⟩:=k0.at_ N;have y0:wr.cell? ⟨ga,i,none⟩=some (.int .i64 y):=by rw[r0 i N,vE hy]
 have e0:=zc (M1.out i y hy);obtain⟨x,hx⟩:=zl (show i<C.length by rw[K.out.len,C0.out,<-Y.out];exact N);have HX:=zc hx;clear k0 r0 p0 q0
 by_cases hf:y=1099511627776
 case pos=>
  have HF:Hid (ph out i T=none):=zc (by rw[e0.out,Aq (show y=vN from hf)]);subst hf;clear hy hx;go_wp2_with fail;go_roundw
  case rel=>exact⟨i+1,C,by go_num,by omega,W,zc (K.out.skip HX.out HF.out),Q,U⟩
  case measure=>simp[intOf];omega
 have HF:Hid (ph out i T=some y):=zc (by rw[e0.out,Au (show ¬y=vN from hf)]);have V2:(y== 1099511627776)=false:=by simpa using hf
 obtain⟨ms,Am,d⟩:=x;have c0:wr.cell? ⟨w.heap.size+1,i,none⟩=some (.slice Am ms.length d):=by
  rw[W.blk.cell];simp[hx,sV]
 have M0:Hid ((C.map sV).toArray[i]?=some (.slice Am ms.length d)):=zc (by simp[hx,sV]);have P0:=K.out.at_ hx;have R:Own zK 3 wr w.heap.size 113 (.slice Am ms.length d) ms:=W.sides.own _ (Ad hx);have S0:=P0.2;simp only at S0;have K0:=zc P0.1;have a:=zc R;have B0:=zc W;have S:=zc U;clear hy hx hf P0 W U;rcases List.eq_nil_or_concat ms with rfl|⟨o,z,rfl⟩
 ·have Z:Hid (∀q:zg,q∈([]:List zg)->q.t=(T:Int)->q.v≠y):=zc λq hq=>by simp at hq
  clear R;go_wp2_with fail
  go_quiet (fail)
  obtain⟨F,B⟩:∃F,F=wr.drewN nq:=⟨_,rfl⟩;have H:Own zK 3 F w.heap.size 113 (Value.slice Am ([]:List zg).length d) ([]:List zg):=by rw[B];exact(a.out).drewN _
  have G:vz F w.heap.size (w.heap.size+1) C:=by rw[B];exact B0.out.ext (zo (Ae _ _) _)
  have M:Hid (px w3 F):=zc (by rw[B];exact Q.out);have E:Hid (Below w.heap.size w F):=zc (by rw[B];exact zo S.out _);have y9:F.cell? ⟨ga,i,none⟩=some (.int .i64 y):=by rw[B];exact y0
  have u:=E.out.size;rw[<-B];clear B y0 c0;have O:some (w.heap.size+1)≠((Value.slice Am ([]:List zg).length d)).ownBlock:=H.other G.blk (by decide);go_wp2_with (at_builtin;refine zr (enc:=zK) rfl (.tmp 91) (.tmp 100) 111 rfl w.heap.size 113 i0 _ 3 24 Tryz.underlying111 hi T0 U0 V0 rfl (by decide) _ ([]:List zg) ⟨(T:Int),(T:Int)+1,y⟩ rfl H _ rfl F.heap.size rfl rfl rfl (nV ⟨(T:Int),(T:Int)+1,y⟩) (by simp) (by decide) u ?_;intro gn L w6 J m I n;have D:=I _ _ _ G.blk O;have f1:=(D.cell i).trans M0.out;have f2:=D.frozen i;have f3:=D.lt)
  go_roundw
  case rel=>exact⟨i+1,C.set i (([]:List zg)++[⟨(T:Int),(T:Int)+1,y⟩],some ⟨gn,0,none⟩,L),by go_num,by omega,G.put HX.out J I n (by simp),zc (K.out.more HX.out (some ⟨gn,0,none⟩,L) (by omega) HF.out Z.out),zc (mX M.out H I D),E.out.trans (m.setCell (p:=⟨w.heap.size+1,i,none⟩) (by show w.heap.size<=w.heap.size+1;omega) _)⟩
  case measure=>simp[intOf];omega
 rw[List.concat_eq_append]at HX K0 a R S0;have Q0:(o++[z]).length=o.length+1:=by simp
 rw[List.length_concat]at c0;rw[Q0]at a R S0;obtain⟨go,rfl⟩:∃g,Am=some ⟨g,0,none⟩:=by
  rcases R.2 with⟨h1,_⟩|⟨g,L,L2,hv,_⟩
  ·simp at h1
  simp only[Value.slice.injEq]at hv;exact⟨g,hv.1⟩
 obtain⟨a1,T1,Y1,M2,cs,O0,N2,V⟩:=R.cells rp;have F0:(o++[z])[o.length]?=some z:=by simp
 have z0:cs[o.length*3]?=some (.int .i64 z.f):=by have:=V _ z F0 0 (by decide);simpa[zK]using this
 have z1:cs[o.length*3+1]?=some (.int .i64 z.t):=by have:=V _ z F0 1 (by decide);simpa[zK]using this
 have z2:cs[o.length*3+2]?=some (.int .i64 z.v):=by have:=V _ z F0 2 (by decide);simpa[zK]using this
 have T2:IntKind.i64.wrap (o.length:Int)=o.length:=AQ _ (by omega);have hd:(0:Int)<(o.length:Int)+1:=by omega
 obtain⟨I2,J2,K2⟩:=O0.facts;have S2:o.length<o.length+1:=by omega
 have E1:=zc O0;clear V Y1 a1 F0 R O0
 by_cases P:z.t=(T:Int)
 ·have R1:(z.t== (T:Int))=true:=by simpa using P
  by_cases X:z.v=y
  ·have S1:(z.v== y)=true:=by simpa using X
   have W2:IntKind.i64.wrap (z.t+1)=(T:Int)+1:=by rw[P];exact AQ _ (by omega)
   have F1:Hid (rF out (C.set i (o++[⟨z.f,(T:Int)+1,z.v⟩],(some ⟨go,0,none⟩,d))) T (i+1)):=zc (K.out.longer HX.out rfl (by omega) (by rw[HF.out,X]) P);clear P X;go_wp2_with fail
   go_quiet (fail)
   go_wp2_with fail;go_roundw
   case rel=>
    have P1:vz (wr.drewN nq) w.heap.size (w.heap.size+1) C:=B0.out.ext (zo (Ae _ _) _);exact⟨i+1,C.set i (o++[⟨z.f,(T:Int)+1,z.v⟩],(some ⟨go,0,none⟩,d)),by go_num,by omega,P1.grow HX.out rfl rfl,F1,zc (px.store (w1:=wr.drewN nq) Q.out (E1.out.drewN nq) (.inl rfl) rfl),(zo S.out nq).setCell T1 _⟩
   case measure=>simp[intOf];omega
  have S1:(z.v== y)=false:=by simpa using X
  have Z:Hid (∀q:zg,q∈o++[z]->q.t=(T:Int)->q.v≠y):=zc (UT K0.out (Or.inr X));clear P X;go_wp2_with fail
  go_quiet (fail)
  obtain⟨F,B⟩:∃F,F=wr.drewN nq:=⟨_,rfl⟩;have H:Own zK 3 F w.heap.size 113 (.slice (some ⟨go,0,none⟩) (o.length+1) d) (o++[z]):=by rw[B];exact(a.out).drewN _
  have G:vz F w.heap.size (w.heap.size+1) C:=by rw[B];exact B0.out.ext (zo (Ae _ _) _)
  have M:Hid (px w3 F):=zc (by rw[B];exact Q.out);have E:Hid (Below w.heap.size w F):=zc (by rw[B];exact zo S.out _);have y9:F.cell? ⟨ga,i,none⟩=some (.int .i64 y):=by rw[B];exact y0
  have u:=E.out.size;rw[<-B];clear B y0 c0;have O:some (w.heap.size+1)≠((Value.slice (some ⟨go,0,none⟩) (o.length+1) d)).ownBlock:=H.other G.blk (by decide);go_wp2_with (at_builtin;refine zr (enc:=zK) rfl (.tmp 91) (.tmp 100) 111 rfl w.heap.size 113 i0 _ 3 24 Tryz.underlying111 hi T0 U0 V0 rfl (by decide) _ (o++[z]) ⟨(T:Int),(T:Int)+1,y⟩ rfl H _ rfl F.heap.size rfl rfl rfl (nV ⟨(T:Int),(T:Int)+1,y⟩) (by rw[Q0];omega) (by decide) u ?_;intro gn L w6 J m I n;have D:=I _ _ _ G.blk O;have f1:=(D.cell i).trans M0.out;have f2:=D.frozen i;have f3:=D.lt)
  go_roundw
  case rel=>exact⟨i+1,C.set i ((o++[z])++[⟨(T:Int),(T:Int)+1,y⟩],some ⟨gn,0,none⟩,L),by go_num,by omega,G.put HX.out J I n (by simp),zc (K.out.more HX.out (some ⟨gn,0,none⟩,L) (by omega) HF.out Z.out),zc (mX M.out H I D),E.out.trans (m.setCell (p:=⟨w.heap.size+1,i,none⟩) (by show w.heap.size<=w.heap.size+1;omega) _)⟩
  case measure=>simp[intOf];omega
 have R1:(z.t== (T:Int))=false:=by simpa using P
 have Z:Hid (∀q:zg,q∈o++[z]->q.t=(T:Int)->q.v≠y):=zc (UT K0.out (Or.inl P));clear P;go_wp2_with fail
 go_quiet (fail)
 obtain⟨F,B⟩:∃F,F=wr.drewN nq:=⟨_,rfl⟩;have H:Own zK 3 F w.heap.size 113 (.slice (some ⟨go,0,none⟩) (o.length+1) d) (o++[z]):=by rw[B];exact(a.out).drewN _
 have G:vz F w.heap.size (w.heap.size+1) C:=by rw[B];exact B0.out.ext (zo (Ae _ _) _)
 have M:Hid (px w3 F):=zc (by rw[B];exact Q.out);have E:Hid (Below w.heap.size w F):=zc (by rw[B];exact zo S.out _);have y9:F.cell? ⟨ga,i,none⟩=some (.int .i64 y):=by rw[B];exact y0
 have u:=E.out.size;rw[<-B];clear B y0 c0;have O:some (w.heap.size+1)≠((Value.slice (some ⟨go,0,none⟩) (o.length+1) d)).ownBlock:=H.other G.blk (by decide);go_wp2_with (at_builtin;refine zr (enc:=zK) rfl (.tmp 91) (.tmp 100) 111 rfl w.heap.size 113 i0 _ 3 24 Tryz.underlying111 hi T0 U0 V0 rfl (by decide) _ (o++[z]) ⟨(T:Int),(T:Int)+1,y⟩ rfl H _ rfl F.heap.size rfl rfl rfl (nV ⟨(T:Int),(T:Int)+1,y⟩) (by rw[Q0];omega) (by decide) u ?_;intro gn L w6 J m I n;have D:=I _ _ _ G.blk O;have f1:=(D.cell i).trans M0.out;have f2:=D.frozen i;have f3:=D.lt)
 go_roundw
 case rel=>exact⟨i+1,C.set i ((o++[z])++[⟨(T:Int),(T:Int)+1,y⟩],some ⟨gn,0,none⟩,L),by go_num,by omega,G.put HX.out J I n (by simp),zc (K.out.more HX.out (some ⟨gn,0,none⟩,L) (by omega) HF.out Z.out),zc (mX M.out H I D),E.out.trans (m.setCell (p:=⟨w.heap.size+1,i,none⟩) (by show w.heap.size<=w.heap.size+1;omega) _)⟩
 case measure=>simp[intOf];omega
