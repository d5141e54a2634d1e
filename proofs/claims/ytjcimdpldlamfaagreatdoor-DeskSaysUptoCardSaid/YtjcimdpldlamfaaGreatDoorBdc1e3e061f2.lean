import Derived.BigRegion
import Derived.Test.YtjcimdpldlamfaaGreatDoorBdd7c5074c7c
namespace Go.Proofs.YtjcimdpldlamfaaGreatDoor
set_option maxRecDepth 100000
set_option maxHeartbeats 16000000
open Go.RowKit
def qq(p m:Nat)(r:Option zf)(w:World)(e:Ending)(w':World):Prop:=Below p w w'/\match r with
 |none=>e=.returned (.bool false)
 |some g'=>e=.returned (.bool true)/\∃h vl ve lv items,wj w' p m h vl ve lv items/\tA h lv items=g'
theorem xm{p m:Nat}{w A:World}{e:Ending}{r:Option zf}(D:r=none)(B:Below p w A)(C:e=.returned (.bool false)):qq p m r w e A:=by subst D;exact⟨B,C⟩
theorem kb{p m:Nat}{w C:World}{e:Ending}{r:Option zf}{g':zf}{h:Int}{E D:Value}{B:List zw}{A:List wk}(J:r=some g')(G:Below p w C)(H:e=.returned (.bool true))(F:wj C p m h E D B A)(I:tA h B A=g'):qq p m r w e C:=by
 subst J;exact⟨G,H,h,E,D,B,A,F,I⟩
theorem qY{l:List (List UInt8)}{m:Int}{n:List Int}(h:ss l m=(n,true)):(l.length:Int)=m/\yn l=some n/\(n.length:Int)=m:=by
 unfold ss at h
 split at h
 ·next hm=>
  split at h
  ·next n' hn=>
   simp only[Prod.mk.injEq,and_true]at h;subst h;refine⟨hm,hn,?_⟩;unfold yn at hn
   split at hn
   ·rw[<-Option.some.inj hn,List.length_map];exact hm
   cases hn
  simp at h
 simp at h
theorem XP{l:List (List UInt8)}{m:Int}{n:List Int}(h:ss l m=(n,false)):yn l=none∨∃B,yn l=some B/\(B.length:Int)≠m:=by
 unfold ss at h
 cases A:yn l with
 |none=>exact .inl rfl
 |some B=>
  right
  refine⟨B,rfl,?_⟩;have C:B.length=l.length:=by
   unfold yn at A
   split at A
   ·rw[<-Option.some.inj A,List.length_map]
   cases A
  rw[A]at h;intro e;rw[if_pos (by rw[<-C];exact e)]at h;simp at h
theorem oY{g:zf}{v:List UInt8}{n:List Int}{m:Int}(B:∀A,yX g v n=some A->(n.length:Int)=m)(h:(n.length:Int)≠m):yX g v n=none:=by
 cases C:yX g v n with
 |none=>rfl
 |some A=>exact absurd (B A C) h
theorem oX{g:zf}{f:Bool}{v:List UInt8}{B:List (List UInt8)}{n:List Int}{m:Int}(h:ss B m=(n,false))(D:∀n C,yX g v n=some C->(n.length:Int)=m):xJ g f (v::B)=none:=by
 simp only[xJ];rcases XP h with A|⟨n',A,h2⟩
 ·rw[A]
 rw[A];simp only;rw[oY (D n') h2];simp
theorem ma{g:zf}{f:Bool}{v:List UInt8}{A:List (List UInt8)}{n:List Int}{m:Int}(h:ss A m=(n,true))(B:f=decide (v=yz)):xJ g f (v::A)=yX g v n:=by
 simp only[xJ];rw[(qY h).2.1];simp only;rw[if_pos B]
theorem mb{g:zf}{f:Bool}{v:List UInt8}{B:List (List UInt8)}(A:f≠decide (v=yz)):xJ g f (v::B)=none:=by
 simp only[xJ]
 split
 ·rfl
 rw[if_neg A]
theorem aG{g:zf}:∀n g',yX g yz n=some g'->(n.length:Int)=1:=λn g' h=>by
 unfold yX at h
 split at h
 ·rfl
 ·simp[yz,xV,xt]at h
 ·simp[yz,qf]at h
 cases h
theorem fD{g:zf}:∀n g',yX g xV n=some g'->(n.length:Int)=2:=λn g' h=>by
 unfold yX at h
 split at h
 ·simp[yz,xV]at h
 ·rfl
 ·simp[xV,qf]at h
 cases h
theorem aF{g:zf}:∀n g',yX g xt n=some g'->(n.length:Int)=2:=λn g' h=>by
 unfold yX at h
 split at h
 ·simp[yz,xt]at h
 ·rfl
 ·simp[xt,qf]at h
 cases h
theorem XH{g:zf}:∀n g',yX g qf n=some g'->(n.length:Int)=4:=λn g' h=>by
 unfold yX at h
 split at h
 ·simp[yz,qf]at h
 ·simp[qf,xV,xt]at h
 ·rfl
 cases h
theorem ln{g:zf}{v:List UInt8}{n:List Int}(h1:v≠yz)(A:v≠xV)(B:v≠xt)(C:v≠qf):yX g v n=none:=by
 unfold yX
 split
 ·rw[if_neg h1]
 ·rw[if_neg A,if_neg B]
 ·rw[if_neg C]
 rfl
theorem XQ{n:List Int}(h:(n.length:Int)=1):∃a,n=[a]:=by
 match n,h with
 |[a],_=>exact⟨a,rfl⟩
 |[],h=>simp at h
 |a::b::r,h=>simp only[List.length_cons]at h;omega
theorem ir{n:List Int}(h:(n.length:Int)=2):∃a b,n=[a,b]:=by
 match n,h with
 |[a,b],_=>exact⟨a,b,rfl⟩
 |[],h=>simp at h
 |[a],h=>simp at h
 |a::b::c::r,h=>simp only[List.length_cons]at h;omega
theorem aM{n:List Int}(h:(n.length:Int)=4):∃a b c d,n=[a,b,c,d]:=by
 match n,h with
 |[a,b,c,d],_=>exact⟨a,b,c,d,rfl⟩
 |[],h=>simp at h
 |[a],h=>simp at h
 |[a,b],h=>simp at h
 |[a,b,c],h=>simp at h
 |a::b::c::d::e::r,h=>simp only[List.length_cons]at h;omega
theorem cK{g:zf}{a b:Int}:yX g xt [a,b]=some { g with edges:=g.edges++[⟨a,b,[]⟩]}:=by
 have A:¬xt=xV:=by decide
 simp[yX,A]
theorem XF{a b c d:Int}:∀u∈(#[.int .i64 a,.int .i64 b,.int .i64 c,.int .i64 d]:Array Value).toList,u.oneCell'=true:=by simp[Value.oneCell']
theorem pP{v u:List UInt8}(h:v≠u):(v== u)=false:=by simpa using h
theorem SO(p n:Nat)(h:Int)(vl z:Value)(I:List zw)(B:List wk)(b off c:Nat)(v:List UInt8)(E:List (List UInt8))(first:Bool)(w:World)(M:wj w p n h vl z I B)(J:zS w (some ⟨b,off,none⟩) c (v::E))(q:E.length<=100000)(V:∀x,x∈E->x.length<=100000)(_:n<=10000)(j:1<c)(L:Hid (v=yz)) :
  Calls Tryz.prog 116 #[.pointer (some ⟨p,0,none⟩),.slice (some ⟨b,off,none⟩) (E.length+1) c,.bool first] w (qq p (n+1) (xJ (tA h I B) first (v::E)) w):=by
 have P:w.cell? ⟨b,off,none⟩=some (.string (bs v)):=by
  obtain⟨Z,O,e,_,i⟩:=J.get (k:=0) rfl;obtain⟨rfl,rfl⟩:b=Z/\off=O:=by simpa using e
  simpa using i
 have N:b<w.heap.size:=World.block_lt_of_cell? w _ P;have C:=tk (some ⟨b,off+1,none⟩) (c-1) E 1 w J.tail q V;have l:E.length+1<=c:=by simpa using J.lc
 have m:c<=9223372036854775807:=J.cm;have T:=M.le;have q1:(v== [116,105,109,101])=true:=by simp[L.out,yz]
 have HS:=zc J;have HX:=zc P;obtain⟨A,cA,A',d,rfl,rfl,g⟩:=M.at_;have Y:=zc M;obtain⟨⟨u,y⟩,S⟩:∃r,ss E 1=r:=⟨_,rfl⟩;have Q:=zc S;rw[S]at C;clear S J V M g
 go_enter Tryz.func116,Tryz.ntmps116
 go_wp2_with fail;refine C.mono ?_;rintro e W ⟨A5,c5,rfl,⟨F,D⟩,G⟩;have x5:=(G.cell (p:=⟨b,off,none⟩) N).trans P;have H:Below p w W:=G.mono (Nat.le_of_lt T);clear C P
 cases y
 case false=>
  have K:Hid (xJ (tA h I B) first (v::E)=none):=zc (oX Q.out (by rw[L.out];exact aG));clear F D;go_wp2_with fail;go_ret;exact xm K.out H rfl
 case true=>
  cases first
  case false=>
   have K:Hid (xJ (tA h I B) false (v::E)=none):=zc (mb (by rw[L.out];decide));clear F D;go_wp2_with fail;go_ret;exact xm K.out H rfl
  case true=>
   have K:Hid (xJ (tA h I B) true (v::E)=yX (tA h I B) v u):=zc (ma Q.out (by rw[L.out];decide));obtain⟨a,rfl⟩:=XQ (qY Q.out).2.2;obtain⟨g5,f,rfl,o,X,U⟩:=oA F (by simp);have n0:=U 0 a rfl;have t:=D a (by simp);have R:=Y.out.ext G;obtain⟨r1,r2,r3⟩:=X.facts;obtain⟨p1,p2,p3⟩:=R.gr.facts;have s:p+1<=W.heap.size:=R.le;clear U D F
   go_wp2_with fail;go_ret;refine kb (g':=⟨a,I,B.map Prod.fst⟩) ?_ (H.setCell (Nat.le_refl _) _) rfl ((R.time t).more (by omega)) rfl;rw[K.out,L.out];rfl
theorem Wc(p n:Nat)(h:Int)(vl ve:Value)(G:List zw)(B:List wk)(b off c:Nat)(v:List UInt8)(J:List (List UInt8))(first:Bool)(w:World)(M:wj w p n h vl ve G B)(Y:zS w (some ⟨b,off,none⟩) c (v::J))(hl:J.length<=100000)(hs:∀x,x∈J->x.length<=100000)(hn:n<=10000)(a0:1<c)(U:Hid (v=xV)) :
  Calls Tryz.prog 116 #[.pointer (some ⟨p,0,none⟩),.slice (some ⟨b,off,none⟩) (J.length+1) c,.bool first] w (qq p (n+1) (xJ (tA h G B) first (v::J)) w):=by
 have u:w.cell? ⟨b,off,none⟩=some (.string (bs v)):=by
  obtain⟨b',m,e,_,hc⟩:=Y.get (k:=0) rfl;obtain⟨rfl,rfl⟩:b=b'/\off=m:=by simpa using e
  simpa using hc
 have j:b<w.heap.size:=World.block_lt_of_cell? w _ u;have F:=tk (some ⟨b,off+1,none⟩) (c-1) J 2 w Y.tail hl hs;have b0:J.length+1<=c:=by simpa using Y.lc
 have c0:c<=9223372036854775807:=Y.cm;have J0:=M.le;have q1:(v== [116,105,109,101])=false:=by simp[U.out,xV]
 have q2:(v== [118,101,114,116,101,120])=true:=by simp[U.out,xV]
 have HS:=zc Y;have HX:=zc u;obtain⟨A,z,A',f,rfl,rfl,hG⟩:=M.at_;have HM:=zc M;obtain⟨⟨nl,ok⟩,hR⟩:∃r,ss J 2=r:=⟨_,rfl⟩;have y:=zc hR;rw[hR]at F;clear hR Y hs M hG
 go_enter Tryz.func116,Tryz.ntmps116
 go_wp2_with fail;refine F.mono ?_;rintro e Z ⟨A5,c5,rfl,⟨L,C⟩,V⟩;have x5:=(V.cell (p:=⟨b,off,none⟩) j).trans u;have O:Below p w Z:=V.mono (Nat.le_of_lt J0);clear F u
 cases ok
 case false=>
  have X:Hid (xJ (tA h G B) first (v::J)=none):=zc (oX y.out (by rw[U.out];exact fD));clear L C;go_wp2_with fail;go_ret;exact xm X.out O rfl
 case true=>
  cases first
  case true=>
   have X:Hid (xJ (tA h G B) true (v::J)=none):=zc (mb (by rw[U.out];decide));clear L C;go_wp2_with fail;go_ret;exact xm X.out O rfl
  case false=>
   have X:Hid (xJ (tA h G B) false (v::J)=yX (tA h G B) v nl):=zc (ma y.out (by rw[U.out];decide));obtain⟨a,I,rfl⟩:=ir (qY y.out).2.2;obtain⟨t,g,rfl,d0,d,h5⟩:=oA L (by simp);have n0:=h5 0 a rfl;have n1:=h5 1 I rfl;have i0:=C a (by simp);have i1:=C I (by simp);have H:=HM.out.ext V;obtain⟨r1,r2,r3⟩:=d.facts;obtain⟨p1,p2,p3⟩:=H.gr.facts
   have I0:p+1<=Z.heap.size:=H.le;clear h5 C L;obtain⟨j0,hj,F0,G0,H0⟩:=rj;rcases List.eq_nil_or_concat B with rfl|⟨E,it,rfl⟩
   case inr=>
    have R:Hid (yX (tA h G (E.concat it)) v [a,I]=none):=zc (by rw[U.out];simp[yX]);rw[List.concat_eq_append,List.length_append]at p1;simp only[List.length_cons,List.length_nil,Nat.zero_add]at p1;rw[List.concat_eq_append]at H;have f0:E.length<=10000:=by have:=H.cnt.2.1;simp at this;omega
    have h0:IntKind.i64.wrap (E.length:Int)=E.length:=IntWalk.i64_in _ (by omega);have hd:decide ((E.length:Int) ≥ 0)=true:=by simp
    clear H;go_wp2_with fail;go_ret;exact xm (X.out.trans R.out) O rfl
   case inl=>
    have R:Hid (yX (tA h G []) v [a,I]=some ⟨h,G++[⟨a,I⟩],[]⟩):=zc (by rw[U.out];simp[yX]);go_wp2_with fail;obtain⟨S,N⟩:∃S:World->Prop,Hid (S=λQ=>Q.cell? ⟨p,1,none⟩=some (.slice A G.length z)/\Q.cell? ⟨t,0,none⟩=some (.int .i64 a)/\Q.cell? ⟨t,1,none⟩=some (.int .i64 I)):=⟨_,zc rfl⟩;have T:Hid (∀Q:World,zj Q p 68 #[.int .i64 h,.slice A G.length z,.slice A' ([]:List wk).length f]->zj Q t 3 g->S Q):=zc λQ h1 h2=>by rw[N.out];exact⟨by rw[h1.cell];rfl,by rw[h2.cell];exact n0,by rw[h2.cell];exact n1⟩
    have Y0:S Z.drew:=T.out _ H.gr.drew d.drew;clear r1 r2 r3 p1 p2 p3;refine zV.begin (S:=S) 16 (by kernel_rfl) ?_;refine tN 0 ?_ ?_<|tN 1 ?_ ?_<|tN 2 ?_ ?_<|tN 3 ?_ ?_<|tN 4 ?_ ?_<|tN 5 ?_ ?_<|tN 6 ?_ ?_<|tN 7 ?_ ?_<|tN 8 ?_ ?_<|tN 9 ?_ ?_<|tN 10 ?_ ?_<|tN 11 ?_ ?_ ?_
    iterate 12
     rotate_left;intro w D;rw[N.out]at D;obtain⟨o,q,s⟩:=D;(try simp only[pS]);go_simp;try with_reducible rfl
    try simp only[pS]
    refine zV.one (i:=12) rfl (by kernel_rfl) λK P=>?_;go_wp2_with fail;have M7:wj (Z.drew.alloc (Obj.cells #[.int .i64 a,.int .i64 I] 94)) p n h (.slice A G.length z) (.slice A' ([]:List wk).length f) G ([]:List wk):=H.drew.keep λ_ _ _ h=>h.alloc _;have B7:zj (Z.drew.alloc (Obj.cells #[.int .i64 a,.int .i64 I] 94)) t 3 g:=d.drew.alloc _;have C0:=T.out _ M7.gr B7;refine P.out _ _ ⟨λ_=>C0,?_⟩
    clear P K
    try simp only[pS]
    refine zV.one (i:=13) rfl (by kernel_rfl) λK P=>?_;refine yR (enc:=xH) (.tmp 67) (.tmp 75) 65 rfl (p+1) 94 j0 _ 2 16 Tryz.underlying65 hj F0 G0 H0 rfl (by decide) _ G ⟨a,I⟩ rfl H.drew.lives #[.int .i64 a,.int .i64 I] rfl Z.drew.heap.size rfl rfl rfl pN (by have:=H.cnt;omega) (by decide) I0 ?_;intro gn V0 w6 W E0 l e0;have B6:=l _ _ _ d.drew (H.drew.lives.other d.drew (by decide))
    obtain⟨G6,M6⟩:=H.drew.vertex W l ⟨i0,i1⟩;have D0:=T.out _ G6 B6;refine P.out _ _ ⟨λ_=>D0,?_⟩;clear P K
    try simp only[Act.put,List.setIfInBounds_toArray]
    refine tN 14 ?_ ?_ ?_;rotate_left
    ·intro w D;rw[N.out]at D;obtain⟨o,q,s⟩:=D;go_simp;try with_reducible rfl
    try simp only[Act.put]
    refine tN 15 ?_ ?_ ?_;rotate_left
    ·intro w D;rw[N.out]at D;obtain⟨o,q,s⟩:=D;go_simp;try with_reducible rfl
    try simp only[Act.put]
    refine zV.one (i:=16) rfl (by kernel_rfl) λK P=>?_;obtain⟨y1,y2,y3⟩:=G6.facts;go_wp2_with fail;refine P.out _ _ ⟨λh=>by omega,?_⟩;clear P K;refine zV.done (by kernel_rfl) ?_ _;clear y1 y2 y3;go_wp2_with fail;go_ret;refine kb (g':=⟨h,G++[⟨a,I⟩],[]⟩) ?_ (((zi O).trans (E0.mono (Nat.le_succ p))).setCell (Nat.le_refl _) _) rfl M6 (by simp);exact X.out.trans R.out
theorem SN(p n:Nat)(h:Int)(vl ve:Value)(F:List zw)(B:List wk)(b off c:Nat)(v:List UInt8)(G:List (List UInt8))(first:Bool)(w:World)(M:wj w p n h vl ve F B)(W:zS w (some ⟨b,off,none⟩) c (v::G))(hl:G.length<=100000)(hs:∀x,x∈G->x.length<=100000)(hn:n<=10000)(Y0:1<c)(Q:Hid (v=xt)) :
  Calls Tryz.prog 116 #[.pointer (some ⟨p,0,none⟩),.slice (some ⟨b,off,none⟩) (G.length+1) c,.bool first] w (qq p (n+1) (xJ (tA h F B) first (v::G)) w):=by
 have s:w.cell? ⟨b,off,none⟩=some (.string (bs v)):=by
  obtain⟨b',j,e,_,hc⟩:=W.get (k:=0) rfl;obtain⟨rfl,rfl⟩:b=b'/\off=j:=by simpa using e
  simpa using hc
 have f:b<w.heap.size:=World.block_lt_of_cell? w _ s;have E:=tk (some ⟨b,off+1,none⟩) (c-1) G 2 w W.tail hl hs;have Z0:G.length+1<=c:=by simpa using W.lc
 have a0:c<=9223372036854775807:=W.cm;have I0:=M.le;have q1:(v== [116,105,109,101])=false:=by simp[Q.out,xt]
 have q2:(v== [118,101,114,116,101,120])=false:=by simp[Q.out,xt]
 have q3:(v== [101,100,103,101])=true:=by simp[Q.out,xt]
 have HS:=zc W;have HX:=zc s;obtain⟨A,cA,t,R,rfl,rfl,hG⟩:=M.at_;have HM:=zc M;obtain⟨⟨nl,ok⟩,hR⟩:∃r,ss G 2=r:=⟨_,rfl⟩;have y:=zc hR;rw[hR]at E;clear hR W hs M hG
 go_enter Tryz.func116,Tryz.ntmps116
 go_wp2_with fail;refine E.mono ?_;rintro e X ⟨A5,c5,rfl,⟨J,C⟩,T⟩;have x5:=(T.cell (p:=⟨b,off,none⟩) f).trans s;have U:Below p w X:=T.mono (Nat.le_of_lt I0);clear E s
 cases ok
 case false=>
  have Z:Hid (xJ (tA h F B) first (v::G)=none):=zc (oX y.out (by rw[Q.out];exact aF));clear J C;go_wp2_with fail;go_ret;exact xm Z.out U rfl
 case true=>
  cases first
  case true=>
   have Z:Hid (xJ (tA h F B) true (v::G)=none):=zc (mb (by rw[Q.out];decide));clear J C;go_wp2_with fail;go_ret;exact xm Z.out U rfl
  case false=>
   have Z:Hid (xJ (tA h F B) false (v::G)=yX (tA h F B) v nl):=zc (ma y.out (by rw[Q.out];decide));obtain⟨a,H,rfl⟩:=ir (qY y.out).2.2;obtain⟨q,d,rfl,b0,Y,z⟩:=oA J (by simp);have n0:=z 0 a rfl;have n1:=z 1 H rfl;have i0:=C a (by simp);have i1:=C H (by simp);have I:=HM.out.ext T;obtain⟨r1,r2,r3⟩:=Y.facts;obtain⟨p1,p2,p3⟩:=I.gr.facts
   have H0:p+1<=X.heap.size:=I.le;clear z C J;obtain⟨j0,hj,E0,F0,G0⟩:=df;have d0:B.length<=10000:=by have:=I.cnt.2.1;omega
   have f0:IntKind.i64.wrap ((B.length:Int)-1)=(B.length:Int)-1:=IntWalk.i64_in _ (by omega);have u:Hid (yX (tA h F B) v [a,H]=some ⟨h,F,B.map Prod.fst++[⟨a,H,[]⟩]⟩):=zc (by rw[Q.out];exact cK);go_wp2_with fail;obtain⟨S,L⟩:∃S:World->Prop,Hid (S=λO=>O.cell? ⟨p,2,none⟩=some (.slice t B.length R)/\O.cell? ⟨q,0,none⟩=some (.int .i64 a)/\O.cell? ⟨q,1,none⟩=some (.int .i64 H)):=⟨_,zc rfl⟩
   have P:Hid (∀O:World,zj O p 68 #[.int .i64 h,.slice A F.length cA,.slice t B.length R]->zj O q 3 d->S O):=zc λO h1 h2=>by rw[L.out];exact⟨by rw[h1.cell];rfl,by rw[h2.cell];exact n0,by rw[h2.cell];exact n1⟩
   have W0:S X.drew:=P.out _ I.gr.drew Y.drew;clear r1 r2 r3 p1 p2 p3;refine zV.begin (S:=S) 16 (by kernel_rfl) ?_;refine tN 0 ?_ ?_<|tN 1 ?_ ?_<|tN 2 ?_ ?_<|tN 3 ?_ ?_<|tN 4 ?_ ?_<|tN 5 ?_ ?_<|tN 6 ?_ ?_<|tN 7 ?_ ?_<|tN 8 ?_ ?_<|tN 9 ?_ ?_<|tN 10 ?_ ?_<|tN 11 ?_ ?_ ?_
   iterate 12
    rotate_left;intro w D;rw[L.out]at D;obtain⟨l,m,o⟩:=D;(try simp only[pS]);go_simp;try with_reducible rfl
   try simp only[pS]
   refine zV.one (i:=12) rfl (by kernel_rfl) λK N=>?_;go_wp2_with fail;have M7:wj (X.drew.alloc (Obj.cells #[.int .i64 a,.int .i64 H,.slice none 0 0] 97)) p n h (.slice A F.length cA) (.slice t B.length R) F B:=I.drew.keep λ_ _ _ h=>h.alloc _;have B7:zj (X.drew.alloc (Obj.cells #[.int .i64 a,.int .i64 H,.slice none 0 0] 97)) q 3 d:=Y.drew.alloc _;have B0:=P.out _ M7.gr B7
   refine N.out _ _ ⟨λ_=>B0,?_⟩;clear N K
   try simp only[pS]
   refine zV.one (i:=13) rfl (by kernel_rfl) λK N=>?_;refine yR (enc:=jK) (.tmp 85) (.tmp 93) 66 rfl (p+1) 97 j0 _ 3 40 Tryz.underlying66 hj E0 F0 G0 rfl (by decide) _ B (⟨a,H,[]⟩,none,0) rfl I.drew.edges #[.int .i64 a,.int .i64 H,.slice none 0 0] rfl X.drew.heap.size rfl rfl rfl Za (by have:=I.cnt;omega) (by decide) H0 ?_;intro gn T0 w6 V D0 g c0;have B6:=g _ _ _ Y.drew (I.drew.edges.other Y.drew (by decide))
   obtain⟨G6,M6⟩:=I.drew.edge V g ⟨i0,i1⟩;have C0:=P.out _ G6 B6;refine N.out _ _ ⟨λ_=>C0,?_⟩;clear N K
   try simp only[Act.put,List.setIfInBounds_toArray]
   refine tN 14 ?_ ?_ ?_;rotate_left
   ·intro w D;rw[L.out]at D;obtain⟨l,m,o⟩:=D;go_simp;try with_reducible rfl
   try simp only[Act.put]
   refine tN 15 ?_ ?_ ?_;rotate_left
   ·intro w D;rw[L.out]at D;obtain⟨l,m,o⟩:=D;go_simp;try with_reducible rfl
   try simp only[Act.put]
   refine zV.one (i:=16) rfl (by kernel_rfl) λK N=>?_;obtain⟨y1,y2,y3⟩:=G6.facts;go_wp2_with fail;refine N.out _ _ ⟨λh=>by omega,?_⟩;clear N K;refine zV.done (by kernel_rfl) ?_ _;clear y1 y2 y3;go_wp2_with fail;go_ret;refine kb (g':=⟨h,F,B.map Prod.fst++[⟨a,H,[]⟩]⟩) ?_ (((zi U).trans (D0.mono (Nat.le_succ p))).setCell (Nat.le_refl _) _) rfl M6 (by simp);exact Z.out.trans u.out
theorem QQ(p n:Nat)(h:Int)(vl ve:Value)(I:List zw)(C:List wk)(b off c:Nat)(v:List UInt8)(L:List (List UInt8))(first:Bool)(w:World)(M:wj w p n h vl ve I C)(g:zS w (some ⟨b,off,none⟩) c (v::L))(hl:L.length<=100000)(hs:∀x,x∈L->x.length<=100000)(hn:n<=10000)(r0:1<c)(Q:Hid (v=qf)) :
  Calls Tryz.prog 116 #[.pointer (some ⟨p,0,none⟩),.slice (some ⟨b,off,none⟩) (L.length+1) c,.bool first] w (qq p (n+1) (xJ (tA h I C) first (v::L)) w):=by
 have hx:w.cell? ⟨b,off,none⟩=some (.string (bs v)):=by
  obtain⟨b',y,e,_,hc⟩:=g.get (k:=0) rfl;obtain⟨rfl,rfl⟩:b=b'/\off=y:=by simpa using e
  simpa using hc
 have t:b<w.heap.size:=World.block_lt_of_cell? w _ hx;have G:=tk (some ⟨b,off+1,none⟩) (c-1) L 4 w g.tail hl hs;have s0:L.length+1<=c:=by simpa using g.lc
 have t0:c<=9223372036854775807:=g.cm;have X0:=M.le;have q1:(v== [116,105,109,101])=false:=by simp[Q.out,qf]
 have q2:(v== [118,101,114,116,101,120])=false:=by simp[Q.out,qf]
 have q3:(v== [101,100,103,101])=false:=by simp[Q.out,qf]
 have q4:(v== [108,101,103])=true:=by simp[Q.out,qf]
 have HS:=zc g;have HX:=zc hx;obtain⟨A,cA,A',Z,rfl,rfl,hG⟩:=M.at_;have HM:=zc M;obtain⟨⟨nl,ok⟩,hR⟩:∃r,ss L 4=r:=⟨_,rfl⟩;have HR:=zc hR;rw[hR]at G;clear hR g hs M hG
 go_enter Tryz.func116,Tryz.ntmps116
 go_wp2_with fail;refine G.mono ?_;rintro e j ⟨A5,c5,rfl,⟨R,D⟩,d⟩;have x5:=(d.cell (p:=⟨b,off,none⟩) t).trans hx;have U:Below p w j:=d.mono (Nat.le_of_lt X0);clear G hx
 cases ok
 case false=>
  have W:Hid (xJ (tA h I C) first (v::L)=none):=zc (oX HR.out (by rw[Q.out];exact XH));clear R D;go_wp2_with fail;go_ret;exact xm W.out U rfl
 case true=>
  cases first
  case true=>
   have W:Hid (xJ (tA h I C) true (v::L)=none):=zc (mb (by rw[Q.out];decide));clear R D;go_wp2_with fail;go_ret;exact xm W.out U rfl
  case false=>
   have W:Hid (xJ (tA h I C) false (v::L)=yX (tA h I C) v nl):=zc (ma HR.out (by rw[Q.out];decide));obtain⟨a,N,O,P,rfl⟩:=aM (qY HR.out).2.2;obtain⟨o,K0,rfl,u0,m,s⟩:=oA R (by simp);have n0:=s 0 a rfl;have n1:=s 1 N rfl;have n2:=s 2 O rfl;have n3:=s 3 P rfl;have i0:=D a (by simp);have i1:=D N (by simp);have i2:=D O (by simp)
   have i3:=D P (by simp);have H:=HM.out.ext d;obtain⟨r1,r2,r3⟩:=m.facts;obtain⟨p1,p2,p3⟩:=H.gr.facts;have W0:p+1<=j.heap.size:=H.le;clear s D R;obtain⟨j0,hj,T0,U0,V0⟩:=aw;rcases List.eq_nil_or_concat C with rfl|⟨B,F,rfl⟩
   case inl=>
    have X:Hid (yX (tA h I []) v [a,N,O,P]=none):=zc (by rw[Q.out];exact cL rfl);clear H;go_wp2_with fail;go_ret;exact xm (W.out.trans X.out) U rfl
   case inr=>
    rw[List.concat_eq_append]at H W p1;have X:Hid (yX (tA h I (B++[F])) v [a,N,O,P]=some ⟨h,I,B.map Prod.fst++[⟨F.1.a,F.1.b,F.1.legs++[⟨a,N,O,P⟩]⟩]⟩):=zc (by
     rw[Q.out];exact aX (l:=B.map Prod.fst) (x:=F.1) (by simp))
    rw[List.length_append]at H p1;simp only[List.length_cons,List.length_nil,Nat.zero_add]at H p1;obtain⟨q,rfl,_,v0,L0,BE,R0⟩:=eG H.edges;have w0:B.length<=10000:=by have:=H.cnt.2.1;simp at this;omega
    have C1:F.1.legs.length<=10000:=by have:=H.cnt.2.2 F (by simp);omega
    have HL:Hid (Zp j.drew (p+1) B F):=zc (H.drew.legs B F rfl);have z0:IntKind.i64.wrap (B.length:Int)=B.length:=IntWalk.i64_in _ (by omega);have hd:decide ((B.length:Int)<0)=false:=by simp
    have y0:B.length<B.length+1:=by omega
    have A1:(B.length:Int)<(B.length:Int)+1:=by omega
    obtain⟨z1,z2,z3⟩:=BE.facts;go_wp2_with fail;clear z1 z2 z3;obtain⟨S,T⟩:∃S:World->Prop,Hid (S=λJ=>J.cell? ⟨p,2,none⟩=some (.slice (some ⟨q,0,none⟩) (B.length+1) Z)/\J.cell? ⟨q,B.length*3+2,none⟩=some (.slice F.2.1 F.1.legs.length F.2.2)/\J.cell? ⟨o,0,none⟩=some (.int .i64 a)/\J.cell? ⟨o,1,none⟩=some (.int .i64 N)/\J.cell? ⟨o,2,none⟩=some (.int .i64 O)/\J.cell? ⟨o,3,none⟩=some (.int .i64 P)):=⟨_,zc rfl⟩
    have Y:Hid (∀J:World,zj J p 68 #[.int .i64 h,.slice A I.length cA,.slice (some ⟨q,0,none⟩) (B.length+1) Z]->zj J q 97 L0->zj J o 3 K0->S J):=zc λJ h1 h3 h2=>by rw[T.out];exact⟨by rw[h1.cell];rfl,by rw[h3.cell];exact R0,by rw[h2.cell];exact n0,by rw[h2.cell];exact n1,by rw[h2.cell];exact n2,by rw[h2.cell];exact n3⟩
    have p0:S j.drew:=Y.out _ H.gr.drew BE.drew m.drew;clear r1 r2 r3 p1 p2 p3;refine zV.begin (S:=S) 30 (by kernel_rfl) ?_;refine tN 0 ?_ ?_<|tN 1 ?_ ?_<|tN 2 ?_ ?_<|tN 3 ?_ ?_<|tN 4 ?_ ?_<|tN 5 ?_ ?_<|tN 6 ?_ ?_<|tN 7 ?_ ?_<|tN 8 ?_ ?_<|tN 9 ?_ ?_<|tN 10 ?_ ?_<|tN 11 ?_ ?_<|tN 12 ?_ ?_<|tN 13 ?_ ?_<|tN 14 ?_ ?_<|tN 15 ?_ ?_<|tN 16 ?_ ?_<|tN 17 ?_ ?_<|tN 18 ?_ ?_<|tN 19 ?_ ?_<|tN 20 ?_ ?_<|tN 21 ?_ ?_<|tN 22 ?_ ?_<|tN 23 ?_ ?_<|tN 24 ?_ ?_<|tN 25 ?_ ?_ ?_
    iterate 26
     rotate_left;intro w E;rw[T.out]at E;obtain⟨z,A0,B0,C0,D0,E0⟩:=E;(try simp only[pS]);go_simp;try with_reducible rfl
    try simp only[pS]
    refine zV.one (i:=26) rfl (by kernel_rfl) λK V=>?_;go_wp2_with fail;have G7:zj (j.drew.alloc (Obj.cells #[.int .i64 a,.int .i64 N,.int .i64 O,.int .i64 P] 100)) p 68 #[.int .i64 h,.slice A I.length cA,.slice (some ⟨q,0,none⟩) (B.length+1) Z]:=H.gr.drew.alloc _;have O0:=Y.out _ G7 (BE.drew.alloc _) (m.drew.alloc _);refine V.out _ _ ⟨λ_=>O0,?_⟩;clear V K
    try simp only[pS]
    refine zV.one (i:=27) rfl (by kernel_rfl) λK V=>?_;refine yR (enc:=ea) (.tmp 113) (.tmp 127) 95 rfl (p+1) 100 j0 _ 4 32 Tryz.underlying95 hj T0 U0 V0 rfl (by decide) _ F.1.legs ⟨a,N,O,P⟩ rfl HL.out.own #[.int .i64 a,.int .i64 N,.int .i64 O,.int .i64 P] rfl j.drew.heap.size rfl rfl rfl XF (by omega) (by decide) W0 ?_;intro gn k0 w6 f Q0 u S0;have B6:=u _ _ _ m.drew (HL.out.own.other m.drew (by decide))
    obtain⟨G6,M0,M6⟩:=H.drew.leg f u (S0.imp id id) ⟨i0,i1,i2,i3⟩;have E6:=M0 _ BE.drew;have P0:=Y.out _ G6 E6 B6;refine V.out _ _ ⟨λ_=>P0,?_⟩;clear V K
    try simp only[Act.put,List.setIfInBounds_toArray]
    refine tN 28 ?_ ?_ ?_;rotate_left
    ·intro w E;rw[T.out]at E;obtain⟨z,A0,B0,C0,D0,E0⟩:=E;go_simp;try with_reducible rfl
    try simp only[Act.put]
    refine tN 29 ?_ ?_ ?_;rotate_left
    ·intro w E;rw[T.out]at E;obtain⟨z,A0,B0,C0,D0,E0⟩:=E;go_simp;try with_reducible rfl
    try simp only[Act.put]
    refine zV.one (i:=30) rfl (by kernel_rfl) λK V=>?_;obtain⟨y1,y2,y3⟩:=E6.facts;go_wp2_with fail;refine V.out _ _ ⟨λh=>by omega,?_⟩;clear V K;refine zV.done (by kernel_rfl) ?_ _;clear y1 y2 y3;go_wp2_with fail;go_ret;refine kb (g':=⟨h,I,B.map Prod.fst++[⟨F.1.a,F.1.b,F.1.legs++[⟨a,N,O,P⟩]⟩]⟩) ?_ (((zi U).trans (Q0.mono (Nat.le_succ p))).setCell (by simp only;omega) _) rfl M6 (by simp)
    rw[List.concat_eq_append];exact W.out.trans X.out
theorem Ua(p n:Nat)(h:Int)(i g:Value)(O:List zw)(B:List wk)(b off c:Nat)(v:List UInt8)(E:List (List UInt8))(first:Bool)(w:World)(M:wj w p n h i g O B)(G:zS w (some ⟨b,off,none⟩) c (v::E))(d:E.length<=100000)(S:∀x,x∈E->x.length<=100000)(_:n<=10000)(Y:1<c)(D:Hid (v≠yz/\v≠xV/\v≠xt/\v≠qf)) :
  Calls Tryz.prog 116 #[.pointer (some ⟨p,0,none⟩),.slice (some ⟨b,off,none⟩) (E.length+1) c,.bool first] w (qq p (n+1) (xJ (tA h O B) first (v::E)) w):=by
 have N:w.cell? ⟨b,off,none⟩=some (.string (bs v)):=by
  obtain⟨U,L,e,_,X⟩:=G.get (k:=0) rfl;obtain⟨rfl,rfl⟩:b=U/\off=L:=by simpa using e
  simpa using X
 have J:b<w.heap.size:=World.block_lt_of_cell? w _ N;have C:=tk (some ⟨b,off+1,none⟩) (c-1) E 0 w G.tail d S;have Z:E.length+1<=c:=by simpa using G.lc
 have a:c<=9223372036854775807:=G.cm;have R:=M.le;have q1:(v== [116,105,109,101])=false:=pP D.out.1;have q2:(v== [118,101,114,116,101,120])=false:=pP D.out.2.1;have q3:(v== [101,100,103,101])=false:=pP D.out.2.2.1;have q4:(v== [108,101,103])=false:=pP D.out.2.2.2;have q:=zc G;have s:=zc N;obtain⟨A,u,l,V,rfl,rfl,W⟩:=M.at_;have o:=zc M;obtain⟨⟨z,f⟩,Q⟩:∃r,ss E 0=r:=⟨_,rfl⟩
 have T:=zc Q;rw[Q]at C;clear Q G S M W
 go_enter Tryz.func116,Tryz.ntmps116
 go_wp2_with fail;refine C.mono ?_;rintro e j ⟨m,t,rfl,⟨H,F⟩,I⟩;have x5:=(I.cell (p:=⟨b,off,none⟩) J).trans N;have K:Below p w j:=I.mono (Nat.le_of_lt R);clear C N
 cases f
 case false=>
  have P:Hid (xJ (tA h O B) first (v::E)=none):=zc (oX T.out (λn y e=>by rw[ln D.out.1 D.out.2.1 D.out.2.2.1 D.out.2.2.2]at e;cases e));clear H F;go_wp2_with fail;go_ret;exact xm P.out K rfl
 case true=>
  have P:Hid (xJ (tA h O B) first (v::E)=none):=zc (by
   simp only[xJ]
   split
   ·rfl
   rw[ln D.out.1 D.out.2.1 D.out.2.2.1 D.out.2.2.2];simp)
  clear H F;go_wp2_with fail;go_ret;exact xm P.out K rfl
theorem Ub(p n:Nat)(h:Int)(g d:Value)(Q:List zw)(C:List wk)(b off:Nat)(v:List UInt8)(first:Bool)(w:World)(M:wj w p n h g d Q C)(Y:w.cell? ⟨b,off,none⟩=some (.string (bs v))) :
  Calls Tryz.prog 116 #[.pointer (some ⟨p,0,none⟩),.slice (some ⟨b,off,none⟩) 1 1,.bool first] w (qq p (n+1) (xJ (tA h Q C) first [v]) w):=by
 have E:Hid (xJ (tA h Q C) first [v]=none):=zc (by
  simp only[xJ,SC,yX];simp)
 have D:=M.le;clear M;have B:=λF=>tk (some ⟨b,off,none⟩) 0 [] F w ⟨Nat.le_refl _,Nat.zero_le _,zU.nil⟩ (by simp) (λx h=>by simp at h);have T:ss [] 1=([],false):=rfl;have U:ss [] 2=([],false):=rfl;have V:ss [] 4=([],false):=rfl;have S:ss [] 0=([],true):=rfl;have L:=B 1;have N:=B 2;have O:=B 4;have K:=B 0;rw[T]at L;rw[U]at N;rw[V]at O
 rw[S]at K;have a:=zc L;have R:=zc N;have c:=zc O;have Z:=zc K;have W:b<w.heap.size:=World.block_lt_of_cell? w _ Y;have X:=zc Y;clear L N O K S T U V B;have P:∀f:Bool,(v== [116,105,109,101])=true∨((v== [116,105,109,101])=false/\(v== [118,101,114,116,101,120])=true)∨((v== [116,105,109,101])=false/\(v== [118,101,114,116,101,120])=false/\(v== [101,100,103,101])=true) ∨
   ((v== [116,105,109,101])=false/\(v== [118,101,114,116,101,120])=false/\(v== [101,100,103,101])=false/\(v== [108,101,103])=true)∨((v== [116,105,109,101])=false/\(v== [118,101,114,116,101,120])=false/\(v== [101,100,103,101])=false/\(v== [108,101,103])=false):=λ_=>by
  cases (v== [116,105,109,101]) <;> cases (v== [118,101,114,116,101,120]) <;> cases (v== [101,100,103,101]) <;> cases (v== [108,101,103]) <;> simp
 rcases P true with I|⟨I,q2⟩|⟨I,q2,q3⟩|⟨I,q2,q3,q4⟩|⟨I,q2,q3,q4⟩
 ·go_enter Tryz.func116,Tryz.ntmps116
  go_wp2_with fail;refine a.out.mono ?_;rintro e J ⟨G,H,rfl,_,A⟩;go_wp2_with fail;go_ret;exact xm E.out (A.mono (Nat.le_of_lt D)) rfl
 ·go_enter Tryz.func116,Tryz.ntmps116
  go_wp2_with fail;refine R.out.mono ?_;rintro e J ⟨G,H,rfl,_,A⟩;go_wp2_with fail;go_ret;exact xm E.out (A.mono (Nat.le_of_lt D)) rfl
 ·go_enter Tryz.func116,Tryz.ntmps116
  go_wp2_with fail;refine R.out.mono ?_;rintro e J ⟨G,H,rfl,_,A⟩;go_wp2_with fail;go_ret;exact xm E.out (A.mono (Nat.le_of_lt D)) rfl
 ·go_enter Tryz.func116,Tryz.ntmps116
  go_wp2_with fail;refine c.out.mono ?_;rintro e J ⟨G,H,rfl,_,A⟩;go_wp2_with fail;go_ret;exact xm E.out (A.mono (Nat.le_of_lt D)) rfl
 go_enter Tryz.func116,Tryz.ntmps116
 go_wp2_with fail;refine Z.out.mono ?_;rintro e J ⟨G,H,rfl,_,A⟩;go_wp2_with fail;go_ret;exact xm E.out (A.mono (Nat.le_of_lt D)) rfl
theorem QP(p n:Nat)(h:Int)(G F:Value)(D:List zw)(A:List wk)(b off c:Nat)(v:List UInt8)(B:List (List UInt8))(first:Bool)(w:World)(M:wj w p n h G F D A)(E:zS w (some ⟨b,off,none⟩) c (v::B))(H:B.length<=100000)(J:∀x,x∈B->x.length<=100000)(I:n<=10000) :
  Calls Tryz.prog 116 #[.pointer (some ⟨p,0,none⟩),.slice (some ⟨b,off,none⟩) (B.length+1) c,.bool first] w (qq p (n+1) (xJ (tA h D A) first (v::B)) w):=by
 have S:B.length+1<=c:=by simpa using E.lc
 by_cases C:1<c
 case neg=>
  obtain rfl:c=1:=by omega
  obtain rfl:B=[]:=List.eq_nil_of_length_eq_zero (by omega);exact Ub p n h G F D A b off v first w M (by
   obtain⟨Q,K,e,_,R⟩:=E.get (k:=0) rfl;obtain⟨rfl,rfl⟩:b=Q/\off=K:=by simpa using e
   simpa using R)
 by_cases L:v=yz
 ·exact SO p n h G F D A b off c v B first w M E H J I C (zc L)
 by_cases N:v=xV
 ·exact Wc p n h G F D A b off c v B first w M E H J I C (zc N)
 by_cases O:v=xt
 ·exact SN p n h G F D A b off c v B first w M E H J I C (zc O)
 by_cases P:v=qf
 ·exact QQ p n h G F D A b off c v B first w M E H J I C (zc P)
 exact Ua p n h G F D A b off c v B first w M E H J I C (zc ⟨L,N,O,P⟩)
theorem oB{c:UInt8}{l p:List UInt8}(h:zk c l=[p]):p=l:=by
 have:=mV c l;rw[h]at this;simpa[zO]using this
theorem sS(c:UInt8):∀(l:List UInt8),(∀x,x∈zk c l->x.length<=l.length)/\(zk c l).length<=l.length+1
 |[]=>⟨λx h=>by simp[zk]at h;simp[h],by simp[zk]⟩
 |b::l=>by
  obtain⟨h1,h2⟩:=sS c l;obtain⟨p,ps,hp⟩:=wg c l
  by_cases hb:b=c
  ·subst hb
   rw[xf];refine⟨λx hx=>?_,by simp only[List.length_cons];omega⟩;rcases List.mem_cons.1 hx with rfl|hx
   ·simp
   have:=h1 x hx;simp only[List.length_cons];omega
  rw[yc hb hp];rw[hp]at h1 h2;refine⟨λx hx=>?_,by simp only[List.length_cons]at h2⊢;omega⟩;rcases List.mem_cons.1 hx with rfl|hx
  ·have:=h1 p (by simp);simp only[List.length_cons];omega
  have:=h1 x (by simp[hx]);simp only[List.length_cons];omega
theorem VX(c:UInt8)(l:List UInt8):zk c l=[l]∨∃p q A,zk c l=p::q::A:=by
 obtain⟨p,A,h⟩:=wg c l
 cases A with
 |nil=>left;rw[h,oB h]
 |cons q A=>exact .inr ⟨p,q,A,h⟩
def Oh(v:Value):Nat:=match v with|.string b=>b.size|_=>0
def Yr(r:zf×Int×Int)(w:World)(e:Ending)(w':World):Prop:=∃A c A' c',e=.returned (.tuple #[gV A c A' c' r.1,.int .i64 r.2.1,.int .i64 r.2.2])/\zv w' A c A' c' r.1/\Below w.heap.size w w'
theorem uw(w:World):zv w none 0 none 0 qn:=⟨by simp[zM],by simp,by simp[maxLen],by simp,by simp[maxLen],zU.nil,zU.nil⟩
theorem UP{A C:Option Addr}{c D:Nat}{h:Int}{E:List zw}{B:List wk}:gV A c C D (tA h E B)=.agg #[.int .i64 h,.slice A E.length c,.slice C B.length D]:=by
 unfold gV tA;rw[List.length_map]
theorem SJ(l:List UInt8)(w:World)(hl:l.length<=9223372036854775807)(hm:mE w):Calls Tryz.prog 71 #[.string (bs l)] w (Yr (zY l) w):=by
 have o:=xT l
 by_cases y:8192<l.length
 case pos=>
  have HP:Hid (zY l=(qn,0,2)):=zc (by unfold zY;rw[if_pos y]);have hd:decide ((l.length:Int)>8192)=true:=by simp;omega
  rw[HP.out];have B0:=zj.new w 68 #[.int .i64 0,.slice none 0 0,.slice none 0 0];obtain⟨I,d,g⟩:=B0.facts;clear y o
  go_enter Tryz.func71,Tryz.ntmps71
  go_wp2_with fail;refine bodyPost_ret (v:=.tuple #[gV none 0 none 0 qn,.int .i64 0,.int .i64 2]) (by simp[results,Tryz.results71,go_sem,I]) rfl ?_;exact⟨none,0,none,0,rfl,uw _,by go_grown⟩
 have HP:Hid (zY l=yE 0 qn (zk 10 l)):=zc (by unfold zY;rw[if_neg y]);have hd:decide ((l.length:Int)>8192)=false:=by simp;omega
 have q0:l.length<=8192:=by omega
 have HM:=zc hm;clear y o hl hm
 go_enter Tryz.func71,Tryz.ntmps71
 go_wp2_with fail
 go_loopw [0,6] (λs at_ wr=>∃(i:Nat) (G:List UInt8) (h:Int) (vl ve:Value) (E:List zw) (B:List wk),s=.string (bs G)/\at_=.int .i64 ((i:Int)+1)/\wj wr (w.heap.size+1) i h vl ve E B/\zj wr w.heap.size 68 #[.int .i64 0,.slice none 0 0,.slice none 0 0]/\Below w.heap.size w wr/\Hid (zY l=yE i (tA h E B) (zk 10 G))/\i+G.length<=8192) (λs _ _=>Oh s)
 case atStart=>exact⟨0,l,0,_,_,[],[],rfl,rfl,wj.new _ _ (by simp) 0,(zj.new w _ _).alloc _,by go_grown,HP,by omega⟩
 obtain⟨i,G,h,vl,ve,E,B,rfl,rfl,M,b,m,Y,o0⟩:=hrel;obtain⟨A,cA,A',S,rfl,rfl,z⟩:=M.at_
 by_cases D:0<i/\G=[]
 case pos=>
  obtain⟨O0,rfl⟩:=D;have hq:(((i:Int)+1)== 1)=false:=by simp;omega
  have u:Hid (zY l=gd (tA h E B)):=zc (by rw[Y.out];exact fJ O0);obtain⟨p1,p2,p3⟩:=M.gr.facts;clear Y;go_wp2_with fail;have U:=ym A A' cA S (tA h E B) wr z;rw[UP]at U;refine U.mono ?_;clear U;rintro e w5 ⟨rfl,C⟩;have J:=za m C;obtain⟨I,d,g⟩:=(b.ext C).facts;obtain⟨p1,p2,p3⟩:=(M.gr.ext C).facts;have k0:=z.ext C
  by_cases Z:zz (tA h E B)=0
  ·have H:Hid (zY l=(tA h E B,0,0)):=zc (by rw[u.out];unfold gd;rw[if_pos Z])
   rw[Z];clear Z u;go_wp2_with fail;refine bodyPost_ret (v:=.tuple #[.agg #[.int .i64 h,.slice A E.length cA,.slice A' B.length S],.int .i64 0,.int .i64 0]) (by simp[results,Tryz.results71,go_sem,I]) rfl ?_;rw[H.out];exact⟨A,cA,A',S,by rw[UP],(M.ext C).told (b.ext C) _ _ _,((J.setCell (Nat.le_refl _) _).setCell (Nat.le_refl _) _).setCell (Nat.le_refl _) _⟩
  have H:Hid (zY l=(qn,0,zz (tA h E B))):=zc (by rw[u.out];unfold gd;rw[if_neg Z]);have hn:(zz (tA h E B) != 0)=true:=by simp[Z]
  clear Z u;obtain⟨er,n⟩:∃er,zz (tA h E B)=er:=⟨_,rfl⟩;rw[n]at hn H⊢;clear n;go_wp2_with fail;refine bodyPost_ret (v:=.tuple #[gV none 0 none 0 qn,.int .i64 0,.int .i64 er]) (by simp[results,Tryz.results71,go_sem,I]) rfl ?_;rw[H.out];exact⟨none,0,none,0,rfl,uw _,((J.setCell (Nat.le_refl _) _).setCell (Nat.le_refl _) _).setCell (Nat.le_refl _) _⟩
 obtain⟨f,n0,V,K⟩:∃f,((((i:Int)+1)== 1)=f)/\decide (i=0)=f/\(f=false->(!G.isEmpty)=true):=⟨decide (i=0),by
  rw[Bool.eq_iff_iff];simp;omega,rfl,λhf=>by
  simp at hf
  cases G with
  |nil=>exact absurd ⟨by omega,rfl⟩ D
  |cons x r=>rfl⟩
 have E0:=zc (HM.out.ext m);have hcut:=UO 10 G wr (by omega) E0.out;obtain⟨I,d,g⟩:=b.facts;rcases VX 10 G with R|⟨p,q,ps,R⟩
 ·have H:Hid (zY l=(qn,(i:Int)+1,3)):=zc (by rw[Y.out,R];exact fI D)
  rw[YP R]at hcut;clear R Y D V M z
  cases f
  ·have N0:=K rfl
   clear K;go_wp2_with fail;refine hcut.mono ?_;rintro e w5 ⟨rfl,k,rfl⟩;go_wp2_with fail;refine bodyPost_ret (v:=.tuple #[gV none 0 none 0 qn,.int .i64 ((i:Int)+1),.int .i64 3]) (by simp[results,Tryz.results71,go_sem,I]) rfl ?_;rw[H.out];exact⟨none,0,none,0,rfl,uw _,(((zo m k).setCell (Nat.le_refl _) _).setCell (Nat.le_refl _) _).setCell (Nat.le_refl _) _⟩
  clear K;go_wp2_with fail;refine hcut.mono ?_;rintro e w5 ⟨rfl,k,rfl⟩;go_wp2_with fail;refine bodyPost_ret (v:=.tuple #[gV none 0 none 0 qn,.int .i64 ((i:Int)+1),.int .i64 3]) (by simp[results,Tryz.results71,go_sem,I]) rfl ?_;rw[H.out];exact⟨none,0,none,0,rfl,uw _,(((zo m k).setCell (Nat.le_refl _) _).setCell (Nat.le_refl _) _).setCell (Nat.le_refl _) _⟩
 obtain⟨r,hc,hr,s0⟩:=eF R;obtain⟨v,a,hv⟩:=wg 32 p;have P0:p.length<=G.length:=(sS 10 G).1 p (by rw[R];simp);have O:=sS 32 p;rw[hv]at O;simp only[List.length_cons]at O;have P:=λW (h:mE W)=>gJ 32 p W (by omega) h;rw[hv]at P;simp only[List.length_cons]at P;rw[hc]at hcut;have I0:=zc P;have K0:Hid (∀x,x∈a->x.length<=100000):=zc λx hx=>by have:=O.1 x (by simp[hx]);omega
 have Q0:a.length<=100000:=by omega
 have HN:Hid (yE i (tA h E B) (zk 10 G)=match xJ (tA h E B) f (v::a)with|none=>(qn,(i:Int)+1,3)|some g'=>yE (i+1) g' (zk 10 r)):=zc (by
  rw[R,hr,yE,V,hv]
  cases xJ (tA h E B) f (v::a) <;> rfl)
 obtain⟨st,X⟩:∃st,xJ (tA h E B) f (v::a)=st:=⟨_,rfl⟩;have J0:=zc X;rw[X]at HN;have H0:=zc M;have D0:=zc b;clear R hr hc hv O P P0 X D V M z b;have c:∀W:World,True:=λ_=>trivial;clear c
 cases f
 all_goals
  try have N0:=K rfl
  clear K;go_wp2_with fail;refine hcut.mono ?_;rintro e w5 ⟨rfl,k,rfl⟩;clear hcut I d g;have C:=zo m k;have M5:=H0.out.drewN k;have B5:=D0.out.drewN k;go_wp2_with fail;refine(I0.out _ (HM.out.ext C)).mono ?_;rintro e w6 ⟨rfl,j,N⟩;have M6:=M5.ext N;have B6:=B5.ext N;have J:=za C N;clear N M5 B5;go_wp2_with fail;refine(QP (w.heap.size+1) i h _ _ E B _ 0 _ v a _ w6 M6 j Q0 K0.out (by omega)).mono ?_
  rintro e w7 ⟨T,L⟩;rw[J0.out]at L;have u0:=J.size;have Q:=J.trans (T.mono (Nat.le_succ _));have B7:=B6.below T (Nat.lt_succ_self _);obtain⟨I,d,g⟩:=B7.facts;clear B6 j M6
  cases st with
  |none=>
   have H:Hid (zY l=(qn,(i:Int)+1,3)):=zc (by rw[Y.out,HN.out]);simp only at L;subst L;go_wp2_with fail;refine bodyPost_ret (v:=.tuple #[gV none 0 none 0 qn,.int .i64 ((i:Int)+1),.int .i64 3]) (by simp[results,Tryz.results71,go_sem,I]) rfl ?_;rw[H.out];exact⟨none,0,none,0,rfl,uw _,((Q.setCell (Nat.le_refl _) _).setCell (Nat.le_refl _) _).setCell (Nat.le_refl _) _⟩
  |some g'=>
   simp only at L;obtain⟨rfl,h',T0,S0,t,F,M7,rfl⟩:=L;have H:Hid (zY l=yE (i+1) (tA h' t F) (zk 10 r)):=zc (by rw[Y.out,HN.out]);clear T I d g;go_wp2_with fail;go_roundw
   case rel=>exact⟨i+1,r,h',T0,S0,t,F,rfl,by go_num,M7,B7,Q,H,by omega⟩
   case measure=>simp[Oh,xT];omega
end Go.Proofs.YtjcimdpldlamfaaGreatDoor
