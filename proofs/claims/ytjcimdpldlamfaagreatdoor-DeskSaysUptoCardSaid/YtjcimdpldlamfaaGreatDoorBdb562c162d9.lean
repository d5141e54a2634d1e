import Derived.Test.YtjcimdpldlamfaaGreatDoorBd233d5be620
import Derived.Test.YtjcimdpldlamfaaGreatDoorBdae6428bb77
namespace Go.Proofs.YtjcimdpldlamfaaGreatDoor
set_option maxRecDepth 100000
set_option maxHeartbeats 8000000
open Go.RowKit
def fL(g:zf)(p:Int)(F:List (List zg))(mine:Int->Bool)(l:List zA):List vP:=
 l.flatMap λx=>(if mine x.a=true then sX g p F x else [])++if p=3/\mine x.b=true then sY g p F x else []
theorem SU{g:zf}{p:Int}{F:List (List zg)}:fL g p F (λ_=>true) g.edges=tM g p F:=by
 unfold fL tM QT;simp
theorem Un{g:zf}{p:Int}{F:List (List zg)}{mine:Int->Bool}{l:List zA}{k:Nat}{x:zA}(h:l[k]?=some x):fL g p F mine (l.take (k+1))=fL g p F mine (l.take k)++((if mine x.a=true then sX g p F x else [])++if p=3/\mine x.b=true then sY g p F x else []):=by
 unfold fL;rw[AO,h,List.flatMap_append];simp
section
variable {g:zf}{p:Int}{F:List (List zg)}{mine:Int->Bool}{x:zA}
theorem OP(A:mine x.a=false)(B:¬(p=3/\mine x.b=true)):((if mine x.a=true then sX g p F x else [])++if p=3/\mine x.b=true then sY g p F x else [])=[]:=by rw[Au B,A];rfl
theorem OQ(A:mine x.a=true)(B:¬(p=3/\mine x.b=true)):((if mine x.a=true then sX g p F x else [])++if p=3/\mine x.b=true then sY g p F x else [])=sX g p F x:=by rw[Au B,Aq A,AR]
theorem OX(A:mine x.a=false)(B:p=3/\mine x.b=true):((if mine x.a=true then sX g p F x else [])++if p=3/\mine x.b=true then sY g p F x else [])=sY g p F x:=by rw[Aq B,A];rfl
theorem OY(A:mine x.a=true)(B:p=3/\mine x.b=true):((if mine x.a=true then sX g p F x else [])++if p=3/\mine x.b=true then sY g p F x else [])=sX g p F x++sY g p F x:=by rw[Aq B,Aq A]
end
theorem nP(m:vP):∀u∈sj m,u.oneCell'=true:=by simp[sj,Value.oneCell']
structure fR(w:World)(base e:Nat)(A:Option Addr)(c:Nat)(A':Option Addr)(c':Nat)(g:zf)(p:Int)(Av:Option Addr)(cv:Nat)(items:List xQ):Prop where
 eng:cX w base e A c A' c' g p Av cv items
 len:items.length=g.lives.length
 val:zx g
 fr:∀it,it∈items->(∀q,q∈it.2.1->sD g.h q)/\it.2.1.length<=100
section
variable {w w':World}{base e c c' cv:Nat}{A A' Av:Option Addr}{g:zf}{p:Int}{items:List xQ}
theorem fR.ext(h:fR w base e A c A' c' g p Av cv items)(hb:Below w.heap.size w w'):fR w' base e A c A' c' g p Av cv items:=⟨h.eng.ext hb,h.len,h.val,h.fr⟩
theorem lJ(h:fR w base e A c A' c' g p Av cv items)(x:zA)(G:xW g x)(L:Option Addr)(H:Nat)(Q:zU yY 4 w L x.legs)(fr to:Int)(I:0<=fr/\fr<g.lives.length)(K:0<=to/\to<g.lives.length) :
  Calls Tryz.prog 152 #[.pointer (some ⟨e,0,none⟩),.agg #[.int .i64 x.a,.int .i64 x.b,.slice L x.legs.length H],.int .i64 fr,.int .i64 to] w (Yp to (uJ p (qT g to) x.legs (uA (yV items) fr)) w):=by
 have J:=h.len;obtain⟨O,M,rfl,T,P,S,V,R,E,X⟩:=h.eng.vert (by omega);obtain⟨B,uF⟩:=zl (show fr.toNat<items.length by omega);obtain⟨D,C⟩:=zl (show to.toNat<g.lives.length by omega);have N:uA (yV items) fr=B.2.1:=eS I.1 rfl (by unfold yV;rw[AU,uF];rfl);have F:=h.fr B (Ad uF);have U:=h.val.h1;rw[N,UU C]
 refine Tj e O items.length cv c c' B.2.2.2 H M A A' B.2.2.1 L g p x fr to B.2.1 D w h.eng.blk h.eng.gr P I.1 (by omega) (E _ B uF).2 (qw (h.eng.fr B (Ad uF)) F.1 U) Q (by unfold maxLen;have:=G.six;omega) K.1 K.2 C (λq W=>(F.1 q W).2) (λl J=>?_) ?_
 ·have:=G.legs l J
  unfold moreL
  split
  ·omega
  split <;> omega
 exact Ai (Nat.mul_le_mul G.six F.2) (by decide)
end
theorem lD{g:zf}{p:Int}{A:List xQ}{x:zA}(G:xW g x)(F:∀C,C∈A->(∀q,q∈C.2.1->sD g.h q)/\C.2.1.length<=100)(B:zw)(a:Int):(uJ p B x.legs (uA (yV A) a)).length<=600:=by
 have D:=bS p B (uA (yV A) a) x.legs;have E:(uA (yV A) a).length<=100:=by
  unfold uA yV;rw[AU]
  cases uF:A[a.toNat]? with
  |none=>simp
  |some C=>exact(F C (Ad uF)).2
 exact Ai D (Ai (Nat.mul_le_mul G.six E) (by decide))
def Zr(l:List vP)(w:World)(e:Ending)(w':World):Prop:=∃v,e=.returned v/\Own sj 4 w' w.heap.size 212 v l/\l.length<=60000/\Below w.heap.size w w'
theorem QU(base e c c' cv:Nat)(A A' Av:Option Addr)(g:zf)(p:Int)(B:List xQ)(fm:Nat)(lb:Array Value)(mine:Int->Bool)(w:World)(hE:fR w base e A c A' c' g p Av cv B)
  (eg:∀S0 w,(callFunc fm S0).run Tryz.prog w=.ok (.enter fm S0) w) (hm:∀(W:World) (x:Int),Below w.heap.size w W->Calls Tryz.prog fm (#[.int .i64 x]++lb) W λe w'=>e=.returned (.bool (mine x))/\Below W.heap.size W w') :
  Calls Tryz.prog 138 #[.pointer (some ⟨e,0,none⟩),.func (.func fm) #[] lb] w (Zr (fL g p (yV B) mine g.edges) w):=by
 obtain⟨i0,hi,O0,P0,Q0⟩:=di;have hV:=hE.val;have J2:=hV.ne;have m1:g.edges.length<=9223372036854775807:=Ai hE.eng.gr.lc' hE.eng.gr.cm';have H:=zc hE;have V0:=zc hm;have HV:=zc hV;obtain⟨be,oe,l0⟩:=hE.eng.gr.edges;have I1:=zc l0;obtain⟨e1,e2,e3⟩:=hE.eng.blk.facts;clear hE hm hV l0
 go_enter Tryz.func138,Tryz.ntmps138
 go_wp2_with fail;clear e1 e2 e3
 go_loopw [5,14] (λu v wt=>∃(k:Nat) (o:List vP),k<=g.edges.length/\v=.int .i64 k/\Own sj 4 wt w.heap.size 212 u o/\Hid (o=fL g p (yV B) mine (g.edges.take k))/\o.length<=1200*k/\Below w.heap.size w wt) (λ_ v _=>g.edges.length-(intOf v).toNat)
 case atStart=>exact⟨0,[],AA _,rfl,Own.nil,zc rfl,by simp,Ae _ _⟩
 obtain⟨k,o,hk,rfl,hO,HO,K2,hb⟩:=hrel;have W1:=hb.size;obtain⟨Ao,co,rfl⟩:=hO.form
 by_cases V1:k<g.edges.length
 case neg=>
  obtain rfl:k=g.edges.length:=by omega
  have HF:Hid (o=fL g p (yV B) mine g.edges):=zc (by rw[HO.out,AL]);go_wp2_with fail;go_ret;exact⟨_,rfl,by rw[<-HF.out];exact hO,by rw[<-HF.out];omega,hb⟩
 obtain⟨x,hx⟩:=zl V1;have C2:=zc hx;have M:Hid (xW g x):=zc (HV.out.edges x (Ad hx));obtain⟨rfl,Q1,⟨z0,z1,L,cl,z2,T1,U1,hL⟩,T0⟩:=I1.out k x hx;unfold zJ at z0 z1 z2;rw[<-hb.cell (by exact Q1)]at z0 z1 z2;have o1:=zc T0;have HL:=zc hL;have j:=zc (Un (g:=g) (p:=p) (F:=yV B) (mine:=mine) hx);have I2:x.legs.length<=9223372036854775807:=Ai T1 U1
 clear hx T0 hL;go_wp2_with fail;obtain⟨wb,H0⟩:∃wb:World,wr.alloc (Obj.cells #[.int .i64 x.a,.int .i64 x.b,.slice L x.legs.length cl] 97)=wb:=⟨_,rfl⟩;have BX:zj wb wr.heap.size 97 #[.int .i64 x.a,.int .i64 x.b,.slice L x.legs.length cl]:=by rw[<-H0];exact zj.new _ _ _
 have A0:Below w.heap.size w wb:=by rw[<-H0];exact ze hb _
 have N0:Own sj 4 wb w.heap.size 212 (.slice Ao o.length co) o:=by rw[<-H0];exact hO.alloc _
 obtain⟨gx,e0⟩:∃gx:Nat,wr.heap.size=gx:=⟨_,rfl⟩;rw[H0,e0];rw[e0]at BX;have q:=V0.out wb x.a A0;have m0:(0<=x.a/\x.a<g.lives.length)/\0<=x.b/\x.b<g.lives.length:=⟨⟨M.out.a0,M.out.a1⟩,M.out.b0,M.out.b1⟩;have T:=zc m0;clear H0 e0 z0 z1 z2 hO hb W1 m0
 cases r:mine x.a with
 |false=>
  rw[r]at q;have X:=zc r;clear r;refine q.mono ?_;rintro e2 w2 ⟨rfl,D⟩;have n:=N0.ext D;have V:=BX.ext D;have N:=za A0 D;clear q N0 BX A0 D;obtain⟨q0,q1,q2⟩:=V.facts;obtain⟨p0,p1,p2⟩:=(H.out.eng.blk.ext N).facts
  by_cases l:p=3
  case neg=>
   have Y0:(p== 3)=false:=by simpa using l
   have H3:=zc l;clear l;go_wp2_with fail;go_roundw
   case rel=>exact⟨k+1,o,by omega,by go_num,n,zc (by rw[j.out,<-HO.out,OP X.out (λh=>H3.out h.1),AR]),by omega,N⟩
   case measure=>simp[intOf];omega
  have H3:=zc l;have Y0:(p== 3)=true:=by simpa using l
  clear l;have I:=V0.out _ x.b N
  cases J:mine x.b with
  |false=>
   rw[J]at I;have Y:=zc J;clear J;go_wp2_with fail;refine I.mono ?_;rintro e7 w7 ⟨rfl,C⟩;have Z:=n.ext C;have P:=za N C;clear I;go_wp2_with fail;go_roundw
   case rel=>exact⟨k+1,o,by omega,by go_num,Z,zc (by rw[j.out,<-HO.out,OP X.out (λh=>by rw[Y.out]at h;exact absurd h.2 (by decide)),AR]),by omega,P⟩
   case measure=>simp[intOf];omega
  |true=>
   rw[J]at I;have Y:=zc J;clear J;go_wp2_with fail;refine I.mono ?_;rintro e7 w7 ⟨rfl,C⟩;have Z:=n.ext C;have t:=V.ext C;have P:=za N C;clear I;obtain⟨y0,y1,y2⟩:=t.facts;go_wp2_with fail;refine(lJ (H.out.ext P) x M.out L cl (HL.out.ext yY.stable P) x.b x.a T.out.2 T.out.1).mono ?_;rintro O1 w8 ⟨v8,rfl,f,G⟩;have d0:=Z.ext G
   have y:=t.ext G;have C0:=za P G;have f:Own sj 4 w8 _ 212 v8 (sY g p (yV B) x):=f;have S1:(sY g p (yV B) x).length<=600:=by unfold sY;rw[Az];exact lD M.out H.out.fr _ _
   clear y0 y1 y2 G;obtain⟨y0,y1,y2⟩:=y.facts;have g0:=C0.size;go_wp2_with (at_builtin;refine uh (enc:=sj) rfl (.tmp 42) (.tmp 49) 166 rfl w.heap.size 212 i0 _ 4 32 Tryz.underlying166 hi O0 P0 Q0 rfl (by decide) _ o rfl d0 _ _ _ rfl f (λm _=>nP m) (by omega) (by decide) g0 ?_;intro c1 i1 O E0 G0;obtain⟨o8,S⟩:∃o8,o++sY g p (yV B) x=o8:=⟨_,rfl⟩;rw[S]at O;have X0:=zc S;have r0:o8.length<=1200*k+1200:=(by rw[<-S,Ag];omega);clear S;have z:=G0 _ _ _ y (by decide);have U:=C0.trans E0;obtain⟨H1,K1,rfl⟩:=O.form;obtain⟨q0,q1,q2⟩:=z.facts;obtain⟨p0,p1,p2⟩:=(H.out.eng.blk.ext U).facts)
   go_roundw
   case rel=>exact⟨k+1,o8,by omega,by go_num,O,zc (by rw[j.out,<-HO.out,OX X.out ⟨H3.out,Y.out⟩,X0.out]),by omega,U⟩
   case measure=>simp[intOf];omega
 |true=>
  rw[r]at q;have X:=zc r;clear r;refine q.mono ?_;rintro e2 w2 ⟨rfl,D⟩;have n:=N0.ext D;have V:=BX.ext D;have N:=za A0 D;clear q N0 BX A0 D
  by_cases l:p=3
  case neg=>
   have Y0:(p== 3)=false:=by simpa using l
   have H3:=zc l;clear l;obtain⟨y0,y1,y2⟩:=V.facts;go_wp2_with fail;refine(lJ (H.out.ext N) x M.out L cl (HL.out.ext yY.stable N) x.a x.b T.out.1 T.out.2).mono ?_;rintro N1 w4 ⟨v4,rfl,d,E⟩;have c0:=n.ext E;have s:=V.ext E;have B0:=za N E;have d:Own sj 4 w4 _ 212 v4 (sX g p (yV B) x):=d;have R1:(sX g p (yV B) x).length<=600:=by unfold sX;rw[Az];exact lD M.out H.out.fr _ _
   clear y0 y1 y2 E;obtain⟨y0,y1,y2⟩:=s.facts;have f0:=B0.size;go_wp2_with (at_builtin;refine uh (enc:=sj) rfl (.tmp 22) (.tmp 29) 166 rfl w.heap.size 212 i0 _ 4 32 Tryz.underlying166 hi O0 P0 Q0 rfl (by decide) _ o rfl c0 _ _ _ rfl d (λm _=>nP m) (by omega) (by decide) f0 ?_;intro Z1 h1 K D0 F0;obtain⟨o4,R⟩:∃o4,o++sX g p (yV B) x=o4:=⟨_,rfl⟩;rw[R]at K;have M0:=zc R;have o0:o4.length<=1200*k+600:=(by rw[<-R,Ag];omega);clear R;have i:=F0 _ _ _ s (by decide);have Q:=B0.trans D0;obtain⟨G1,J1,rfl⟩:=K.form;obtain⟨q0,q1,q2⟩:=i.facts;obtain⟨p0,p1,p2⟩:=(H.out.eng.blk.ext Q).facts)
   go_roundw
   case rel=>exact⟨k+1,o4,by omega,by go_num,K,zc (by rw[j.out,<-HO.out,OQ X.out (λh=>H3.out h.1),M0.out]),by omega,Q⟩
   case measure=>simp[intOf];omega
  have H3:=zc l;have Y0:(p== 3)=true:=by simpa using l
  clear l;obtain⟨y0,y1,y2⟩:=V.facts;go_wp2_with fail;refine(lJ (H.out.ext N) x M.out L cl (HL.out.ext yY.stable N) x.a x.b T.out.1 T.out.2).mono ?_;rintro N1 w4 ⟨v4,rfl,d,E⟩;have c0:=n.ext E;have s:=V.ext E;have B0:=za N E;have d:Own sj 4 w4 _ 212 v4 (sX g p (yV B) x):=d;have R1:(sX g p (yV B) x).length<=600:=by unfold sX;rw[Az];exact lD M.out H.out.fr _ _
  clear y0 y1 y2 E;obtain⟨y0,y1,y2⟩:=s.facts;have f0:=B0.size;go_wp2_with (at_builtin;refine uh (enc:=sj) rfl (.tmp 22) (.tmp 29) 166 rfl w.heap.size 212 i0 _ 4 32 Tryz.underlying166 hi O0 P0 Q0 rfl (by decide) _ o rfl c0 _ _ _ rfl d (λm _=>nP m) (by omega) (by decide) f0 ?_;intro Z1 h1 K D0 F0;obtain⟨o4,R⟩:∃o4,o++sX g p (yV B) x=o4:=⟨_,rfl⟩;rw[R]at K;have M0:=zc R;have o0:o4.length<=1200*k+600:=(by rw[<-R,Ag];omega);clear R;have i:=F0 _ _ _ s (by decide);have Q:=B0.trans D0;obtain⟨G1,J1,rfl⟩:=K.form;obtain⟨q0,q1,q2⟩:=i.facts;obtain⟨p0,p1,p2⟩:=(H.out.eng.blk.ext Q).facts)
  have I:=V0.out _ x.b Q
  cases J:mine x.b with
  |false=>
   rw[J]at I;have Y:=zc J;clear J;refine I.mono ?_;rintro e7 w7 ⟨rfl,C⟩;have Z:=K.ext C;have P:=za Q C;clear I;go_wp2_with fail;go_roundw
   case rel=>exact⟨k+1,o4,by omega,by go_num,Z,zc (by rw[j.out,<-HO.out,OQ X.out (λh=>by rw[Y.out]at h;exact absurd h.2 (by decide)),M0.out]),by omega,P⟩
   case measure=>simp[intOf];omega
  |true=>
   rw[J]at I;have Y:=zc J;clear J;refine I.mono ?_;rintro e7 w7 ⟨rfl,C⟩;have Z:=K.ext C;have t:=i.ext C;have P:=za Q C;clear I;obtain⟨y0,y1,y2⟩:=t.facts;go_wp2_with fail;refine(lJ (H.out.ext P) x M.out L cl (HL.out.ext yY.stable P) x.b x.a T.out.2 T.out.1).mono ?_;rintro O1 w8 ⟨v8,rfl,f,G⟩;have d0:=Z.ext G;have y:=t.ext G
   have C0:=za P G;have f:Own sj 4 w8 _ 212 v8 (sY g p (yV B) x):=f;have S1:(sY g p (yV B) x).length<=600:=by unfold sY;rw[Az];exact lD M.out H.out.fr _ _
   clear y0 y1 y2 G;obtain⟨y0,y1,y2⟩:=y.facts;have g0:=C0.size;go_wp2_with (at_builtin;refine uh (enc:=sj) rfl (.tmp 42) (.tmp 49) 166 rfl w.heap.size 212 i0 _ 4 32 Tryz.underlying166 hi O0 P0 Q0 rfl (by decide) _ o4 rfl d0 _ _ _ rfl f (λm _=>nP m) (by omega) (by decide) g0 ?_;intro c1 i1 O E0 G0;obtain⟨o8,S⟩:∃o8,o4++sY g p (yV B) x=o8:=⟨_,rfl⟩;rw[S]at O;have X0:=zc S;have r0:o8.length<=1200*k+1200:=(by rw[<-S,Ag];omega);clear S;have z:=G0 _ _ _ y (by decide);have U:=C0.trans E0;obtain⟨H1,K1,rfl⟩:=O.form;obtain⟨q0,q1,q2⟩:=z.facts;obtain⟨p0,p1,p2⟩:=(H.out.eng.blk.ext U).facts)
   go_roundw
   case rel=>exact⟨k+1,o8,by omega,by go_num,O,zc (by rw[j.out,<-HO.out,OY X.out ⟨H3.out,Y.out⟩,<-List.append_assoc,M0.out,X0.out]),by omega,U⟩
   case measure=>simp[intOf];omega
theorem Qp:(Tryz.prog.info? 213).map (λi=>(i.zero,i.size,i.bytes))=some (some (.slice none 0 0),1,24):=by kernel_rfl
theorem VL(n:Nat)(h:n<=1000000)(w:World):(Instr.makeSlice 209 (.int .i64 (n:Int)) (.int .i64 (n:Int))).run Tryz.prog w=.ok (.slice (some ⟨w.heap.size,0,none⟩) n n) (w.alloc (.cells (madeCells #[.slice none 0 0] n) 213)):=
 run_make_row' (P:=Tryz.prog) 209 213 (.slice none 0 0) 24 Tryz.underlying209 Qp rfl .i64 .i64 n (by omega) (by omega) w
theorem Qr:(Tryz.prog.info? 210).map (λi=>(i.zero,i.size,i.bytes))=some (some (.agg #[.int .i64 0,.int .i64 0,.int .i64 0]),3,24):=by kernel_rfl
theorem Sd:∃i,Tryz.prog.info? 210=some i/\i.zero=some (.agg #[.int .i64 0,.int .i64 0,.int .i64 0])/\i.size=3/\i.bytes=24:=by
 obtain⟨C,B,A⟩:=Option.map_eq_some_iff.1 Qr;simp only[Prod.mk.injEq]at A;exact⟨C,B,A.1,A.2.1,A.2.2⟩
theorem nV(q:zg):∀u∈(#[.int .i64 q.f,.int .i64 q.t,.int .i64 q.v]:Array Value).toList,u.oneCell'=true:=by simp[Value.oneCell']
theorem Own.keepB{α:Type}{enc:α->List Value}{sz:Nat}{w B:World}{base:Nat}{e:TypeId}{v:Value}{l:List α}(h:Own enc sz w base e v l)(D:∀b A,v.ownBlock=some b->zj w b e A->zj B b e A):Own enc sz B base e v l:=by
 refine⟨h.1,?_⟩;rcases h.2 with C|⟨g,cap,cur,rfl,hg,hh,r⟩
 ·exact .inl C
 exact .inr ⟨g,cap,cur,rfl,hg,D g cur rfl hh,r⟩
def Ry(w:World)(b o:Nat)(m:vP):Prop:=zJ w b o (.int .i64 m.1)/\zJ w b (o+1) (.int .i64 m.2.f)/\zJ w b (o+2) (.int .i64 m.2.t)/\zJ w b (o+3) (.int .i64 m.2.v)
theorem QN{w:World}{base:Nat}{v:Value}{l:List vP}(h:Own sj 4 w base 212 v l):∃A c,v=.slice A l.length c/\zU Ry 4 w A l/\l.length<=c/\c<=maxLen:=by
 obtain⟨A,c,rfl,C⟩:=Own.slAt (R:=Ry) (enc:=sj) (λ_=>rfl) (λm _ b o B=>⟨by have:=B 0 _ rfl;simpa using this,by have:=B 1 _ rfl;simpa using this,by have:=B 2 _ rfl;simpa using this,by have:=B 3 _ rfl;simpa using this⟩) h;exact⟨A,c,rfl,C,h.room.1,h.room.2⟩
structure qF(w:World)(base gb:Nat)(bx:List yZ):Prop where
 blk:zj w gb 213 (bx.map sV).toArray
 sides:tC w base 210 bx
section
variable {w w':World}{base gb:Nat}{bx:List yZ}
theorem qF.ext(h:qF w base gb bx)(hb:Below w.heap.size w w'):qF w' base gb bx:=⟨h.blk.ext hb,h.sides.ext hb⟩
theorem qF.made{n b:Nat}(B:b=w.heap.size):qF (w.alloc (.cells (madeCells #[.slice none 0 0] n) 213)) base b (List.replicate n ([],none,0)):=by
 subst B;refine⟨?_,λx A=>?_,λi j x y _ A _ k C=>?_⟩
 ·have h:=zj.new w 213 (madeCells #[.slice none 0 0] n)
  rw[lR]at h;rw[lR,List.map_replicate];exact h
 ·obtain rfl:=List.eq_of_mem_replicate A
  exact Own.nil
 obtain rfl:=List.eq_of_mem_replicate (Ad A);simp[sV,Value.ownBlock]at C
theorem qF.only{gv:Nat}{cs:Array Value}(h:qF w base gb bx)(hO:uq gv w w')(hB:zj w gv 192 cs):qF w' base gb bx:=
 ⟨hO.blk (wv h.blk hB (by decide)) h.blk,h.sides.keep λ_ _ hx=>hO.own hB (by decide) hx⟩
theorem qF.put{W:World}{i B A:Nat}{x:yZ}{m:zg}(h:qF w base gb bx)(J:bx[i]?=some x)(S:Own zK 3 w' base 210 (.slice (some ⟨B,0,none⟩) (x.1.length+1) A) (x.1++[m]))
  (M:∀b O D,zj w b O D->some b≠(sV x).ownBlock->zj w' b O D) (R:(sV x).ownBlock=some B∨w.heap.size<B) (P:w'.setCell ⟨gb,i,none⟩ (.slice (some ⟨B,0,none⟩) (x.1.length+1) A)=W) :
  qF W base gb (bx.set i (x.1++[m],some ⟨B,0,none⟩,A)):=by
 subst P;have K:=h.sides.own x (Ad J);have I:some gb≠(sV x).ownBlock:=K.other h.blk (by decide);have L:=M _ _ _ h.blk I;have E:∀b C,zj w' b 210 C->zj (w'.setCell ⟨gb,i,none⟩ (.slice (some ⟨B,0,none⟩) (x.1.length+1) A)) b 210 C:=zG L (by decide) i _;refine⟨?_,h.sides.set J ?_ (λj z Q N=>?_) λb G=>?_⟩
 ·have F:=L.set_ i (.slice (some ⟨B,0,none⟩) (x.1.length+1) A)
  rw[List.map_set];simpa[sV]using F
 ·have F:=S.keep E
  unfold sV;simpa using F
 ·refine(h.sides.own z (Ad N)).keepB λb C G H=>E b C (M b _ C H λe=>h.sides.apart j i z x Q N J b G e.symm)
 simp only[sV,Value.ownBlock,Option.some.injEq]at G;subst G;exact R.imp id λF=>by omega
end
theorem Tu{A:List vP}{k:Nat}{m:vP}(h:A[k]?=some m)(v:Int):oo (A.take (k+1)) v=oo (A.take k) v++if m.1=v then [m.2] else []:=by
 unfold oo;rw[AO,h,List.filter_append,List.map_append]
 congr 1
 by_cases B:m.1=v <;> simp[B]
theorem YI(A:List vP)(v:Int):(oo A v).length<=A.length:=by
 unfold oo;rw[Az];exact List.length_filter_le _ _
def WK(h:Int)(msgs:List zg)(it it':xQ):Prop:=wK h it'.1.1/\(∀t,val it'.1.1 t=um msgs t (val it.1.1 t))/\sB h it'.1.1 (val it.1.1) it'.2.1
structure pY(h:Int)(ms:List vP)(items items':List xQ)(v:Nat):Prop where
 len:items'.length=items.length
 done:∀(i:Nat) it it',i<v->items[i]?=some it->items'[i]?=some it'->WK h (oo ms i) it it'
 rest:∀i:Nat,v<=i->items'[i]?=items[i]?
theorem pY.zero{h:Int}{ms:List vP}{items:List xQ}:pY h ms items items 0:=⟨rfl,λi _ _ hi=>by omega,λ_ _=>rfl⟩
theorem pY.next{h:Int}{F:List vP}{A B:List xQ}{v:Nat}{G it':xQ}(D:pY h F A B v)(hi:A[v]?=some G)(J:WK h (oo F v) G it'):pY h F A (B.set v it') (v+1):=by
 have I:=zy hi;refine⟨by rw[List.length_set];exact D.len,λi x L H E C=>?_,λi K=>?_⟩
 ·by_cases e:v=i
  ·subst e
   rw[AY (by rw[D.len];exact I)]at C;rw[hi]at E;obtain rfl:=AB E;obtain rfl:=AB C;exact J
  rw[AX e]at C;exact D.done i x L (by omega) E C
 rw[AX (by omega)];exact D.rest i (by omega)
def isSome(items':List xQ)(v:Nat):Bool:=(items'.take v).any λit=>decide (0<it.2.1.length)
theorem Xt{A:List xQ}{v:Nat}{it':xQ}(h:v<A.length):isSome (A.set v it') (v+1)=(isSome A v || decide (0<it'.2.1.length)):=by
 unfold isSome;rw[AO,AY h,List.any_append,List.take_set_of_le (Ay v)];simp
def Rz(w0 w:World)(e:Nat)(A:Option Addr)(c:Nat)(A':Option Addr)(c':Nat)(g:zf)(p:Int)(Av:Option Addr)(cv:Nat)(items:List xQ)(en:Ending)(w':World):Prop:=∃items':List xQ,
 en=.returned (.bool (isSome items' items'.length))/\fR w' w0.heap.size e A c A' c' g p Av cv items'/\Hid (pY g.h (tM g p (yV items)) items items' items.length)/\Below w0.heap.size w0 w'/\∀b t cs,zj w b t cs->t≠192->zj w' b t cs
theorem SR(e c c' cv cm:Nat)(A A' Av Am:Option Addr)(g:zf)(p:Int)(C:List xQ)(I:List vP)(l w:World)(hE:fR w l.heap.size e A c A' c' g p Av cv C)(t1:I=tM g p (yV C))
  (U1:zv l A c A' c' g) (b1:Below l.heap.size l w) (hL:∀D,D∈C->wK g.h D.1.1) (hM:zU Ry 4 w Am I) (X3:I.length<=60000)
  (r1:∀m,m∈I->(0<=m.1/\m.1<C.length)/\sD g.h m.2) :
  Calls Tryz.prog 151 #[.pointer (some ⟨e,0,none⟩),.slice Am I.length cm] w (Rz l w e A c A' c' g p Av cv C):=by
 obtain⟨i0,hi,o2,p2,q2⟩:=Sd;have hV:=hE.val;have Y3:C.length<=12:=by rw[hE.len];exact hV.nl
 have l2:=VL C.length (by omega);have R2:=zc t1;have O2:=zc U1;have x0:=zc b1;have HL:=zc hL;have C1:=zc r1;have HV:=zc hV;have HE:=zc hE;have N:w.cell? ⟨e,4,none⟩=some (.slice Av C.length cv):=hE.eng.blk.cell 4;have I0:=hE.eng.blk.lt;obtain⟨bm,om,W1⟩:=hM;have HM:=zc W1;clear t1 U1 b1 hL r1 hV W1 hE
 go_enter Tryz.func151,Tryz.ntmps151
 go_wp2_with fail;obtain⟨gb,R⟩:∃gb:Nat,w.heap.size=gb:=⟨_,rfl⟩;obtain⟨wb,L0⟩:∃wb:World,w.alloc (Obj.cells (madeCells #[.slice none 0 0] C.length) 213)=wb:=⟨_,rfl⟩;have P1:qF wb gb gb (List.replicate C.length ([],none,0)):=by rw[<-L0];exact qF.made R.symm
 have d1:Below gb w wb:=by rw[<-L0,<-R];exact ze (Ae _ _) _
 rw[R,L0];clear L0 l2 N I0
 go_loopw [18] (λx wt=>∃(k:Nat) (u:List yZ),k<=I.length/\x=.int .i64 k/\u.length=C.length/\Hid (∀(i:Nat) y,u[i]?=some y->y.1=oo (I.take k) i)/\qF wt gb gb u/\Below gb w wt) (λx _=>I.length-(intOf x).toNat)
 case atStart=>
  refine⟨0,_,AA _,rfl,by simp,zc λi y hy=>?_,P1,d1⟩;obtain rfl:=List.eq_of_mem_replicate (Ad hy);rfl
 clear P1 d1;obtain⟨k,u,hk,rfl,d2,U,A0,hb⟩:=hrel;have G:gb<=wr.heap.size:=by rw[<-R];exact hb.size
 by_cases k2:k<I.length
 case pos=>
  obtain⟨m,hm⟩:=zl k2;obtain⟨rfl,g0,z0,z1,z2,z3⟩:=HM.out k m hm;unfold zJ at z0 z1 z2 z3;rw[R]at g0;rw[<-hb.cell (by exact g0)]at z0 z1 z2 z3;have s1:=C1.out m (Ad hm);have O3:=zc s1.2;obtain⟨J,q⟩:=m;obtain⟨⟨u1,m2⟩,_⟩:=s1;simp only at u1 m2 z0 z1 z2 z3;have Q2:=zc hm;clear hm;have G3:bm<wr.heap.size:=AV g0 G;go_wp2_with fail;obtain⟨x,hx⟩:=zl (show J.toNat<u.length by omega)
  obtain⟨lx,Ax,cx⟩:=x;obtain⟨gm,j0⟩:∃gm:Nat,wr.heap.size=gm:=⟨_,rfl⟩;obtain⟨n,M0⟩:∃n:World,wr.alloc (Obj.cells #[.int .i64 J,.int .i64 q.f,.int .i64 q.t,.int .i64 q.v] 212)=n:=⟨_,rfl⟩;have BM:zj n gm 212 #[.int .i64 J,.int .i64 q.f,.int .i64 q.t,.int .i64 q.v]:=by rw[<-M0,<-j0];exact zj.new _ _ _
  have K0:Below wr.heap.size wr n:=by rw[<-M0];exact ze (Ae _ _) _
  have P:=A0.ext K0;have e2:Below gb w n:=hb.trans (K0.mono G);have a3:lx.length<=60000:=by
   have h1:=U.out _ _ hx;have h2:=YI (I.take k) (J.toNat:Int);rw[AE]at h2;simp only at h1;rw[h1];omega
  have g2:gb<=n.heap.size:=Ai G K0.size;have f1:n.cell? ⟨gb,J.toNat,none⟩=some (.slice Ax lx.length cx):=by
   rw[P.blk.cell];simp[hx,sV]
  have HX:=zc hx;rw[j0,M0];obtain⟨X,E⟩:∃X:World->Prop,Hid (X=λT=>T.cell? ⟨gm,0,none⟩=some (.int .i64 J)/\T.cell? ⟨gm,1,none⟩=some (.int .i64 q.f)/\T.cell? ⟨gm,2,none⟩=some (.int .i64 q.t)/\T.cell? ⟨gm,3,none⟩=some (.int .i64 q.v)/\T.cell? ⟨gb,J.toNat,none⟩=some (.slice Ax lx.length cx)):=⟨_,zc rfl⟩;have s:Hid (∀T,zj T gm 212 #[.int .i64 J,.int .i64 q.f,.int .i64 q.t,.int .i64 q.v]->T.cell? ⟨gb,J.toNat,none⟩=some (.slice Ax lx.length cx)->X T):=zc λT h1 h2=>by rw[E.out];exact⟨h1.cell 0,h1.cell 1,h1.cell 2,h1.cell 3,h2⟩
  have e0:X n.drew:=s.out _ BM.drew f1;have j:=P.sides.own _ (Ad hx);unfold sV at j;simp only at j;have j1:=P.blk.lt;have w1:((J.toNat:Nat):Int)=J:=Int.toNat_of_nonneg u1;have U2:=zc w1;clear w1 hx z0 z1 z2 z3 j0 M0 A0 hb K0;refine zV.begin (S:=X) 13 (by kernel_rfl) ?_;refine tN 0 ?_ ?_<|tN 1 ?_ ?_<|tN 2 ?_ ?_<|tN 3 ?_ ?_<|tN 4 ?_ ?_<|tN 5 ?_ ?_<|tN 6 ?_ ?_<|tN 7 ?_ ?_<|tN 8 ?_ ?_<|tN 9 ?_ ?_ ?_
  iterate 10
   rotate_left;intro w F;rw[E.out]at F;obtain⟨x1,y1,r2,s2,t2⟩:=F;(try simp only[pS]);go_simp;try with_reducible rfl
  try simp only[pS]
  refine zV.one (i:=10) rfl (by kernel_rfl) λK Z=>?_;go_wp2_with fail;have Y1:X (n.drew.alloc (Obj.cells #[.int .i64 q.f,.int .i64 q.t,.int .i64 q.v] 210)):=s.out _ (BM.drew.alloc _) (zD (ze (zi (Ae _ _)) _) f1);refine Z.out _ _ ⟨λ_=>Y1,?_⟩;clear Z K
  try simp only[pS]
  refine zV.one (i:=11) rfl (by kernel_rfl) λK Z=>?_;refine yR (enc:=zK) (.tmp 29) (.tmp 32) 213 rfl gb 210 i0 _ 3 24 Tryz.underlying213 hi o2 p2 q2 rfl (by decide) (.slice Ax lx.length cx) lx q rfl j.drew #[.int .i64 q.f,.int .i64 q.t,.int .i64 q.v] rfl n.drew.heap.size rfl rfl rfl (nV q) (by omega) (by decide) g2 ?_;intro gn J1 w6 k0 e1 J0 k1;have M6:=J0 _ _ _ BM.drew (j.drew.other BM.drew (by decide))
  have X6:=J0 _ _ _ P.blk.drew (j.drew.other P.blk.drew (by decide));have U0:w6.cell? ⟨gb,J.toNat,none⟩=some (.slice Ax lx.length cx):=by
   rw[X6.cell];simp[HX.out,sV]
  have Z1:=s.out _ M6 U0;refine Z.out _ _ ⟨λ_=>Z1,?_⟩;clear Z K
  try simp only[pS]
  refine tN 12 ?_ ?_ ?_;rotate_left
  ·intro w F;rw[E.out]at F;obtain⟨x1,y1,r2,s2,t2⟩:=F;(try simp only[pS]);go_simp;try with_reducible rfl
  try simp only[pS]
  refine zV.one (i:=13) rfl (by kernel_rfl) λK Z=>?_;have f6:w6.frozen? ⟨gb,J.toNat,none⟩=false:=X6.frozen _;have y6:=X6.lt;go_wp2_with fail;refine Z.out _ _ ⟨λh=>by omega,?_⟩;clear Z K;refine zV.done (by kernel_rfl) ?_ _;have Z2:=P.put (W:=w6.setCell ⟨gb,J.toNat,none⟩ (.slice (some ⟨gn,0,none⟩) (lx.length+1) J1)) (m:=q) HX.out k0 J0 k1 rfl;clear f6 y6 U0 Z1 Y1 e0 E s J0 k1
  go_wp2_with fail;go_roundw
  case rel=>
   refine⟨k+1,u.set J.toNat (lx++[q],some ⟨gn,0,none⟩,J1),by omega,by go_num,by simp[d2],zc λi y hy=>?_,Z2,((zi e2).trans e1).setCell (Ay _) _⟩;rw[Tu Q2.out]
   by_cases e9:J.toNat=i
   ·subst e9
    rw[AY (by omega)]at hy;obtain rfl:=AB hy;have h1:=U.out _ _ HX.out;simp only at h1⊢;rw[Aq U2.out.symm,h1]
   rw[AX e9]at hy;rw[Au (λh=>e9 (by simp only at h;omega)),AR];exact U.out i y hy
  case measure=>simp[intOf];omega
 obtain rfl:k=I.length:=by omega
 have HB:Hid (∀(i:Nat) y,u[i]?=some y->y.1=oo I i):=zc (by
  have h1:=U.out
  rwa[AL]at h1)
 have F0:Below w.heap.size w wr:=by rw[R];exact hb
 have B0:=HE.out.ext F0;have c1:=za x0.out F0;have N:wr.cell? ⟨e,4,none⟩=some (.slice Av C.length cv):=B0.eng.blk.cell 4;have I0:=B0.eng.blk.lt;have S0:=A0;have Z3:l.heap.size<=w.heap.size:=x0.out.size;have V:Hid (Hid (∀b t L,zj w b t L->t≠192->zj wr b t L)):=zc (zc λb t L hB _=>hB.ext F0);clear U A0 hb F0;go_wp2_with fail;clear N I0
 go_loopw [8,41] (λb x wt=>∃(v:Nat) (B:List xQ),v<=C.length/\x=.int .i64 v/\b=.bool (isSome B v)/\Hid (pY g.h I C B v)/\cX wt l.heap.size e A c A' c' g p Av cv B/\qF wt gb gb u/\Below l.heap.size l wt/\gb<=wt.heap.size/\Hid (∀b t L,zj w b t L->t≠192->zj wt b t L)) (λ_ x _=>C.length-(intOf x).toNat)
 case atStart=>exact⟨0,C,AA _,rfl,rfl,zc pY.zero,B0.eng,S0,c1,G,V.out⟩
 clear B0 S0 c1 G V;obtain⟨v,B,hv,rfl,rfl,r,M,Y,E0,G,V⟩:=hrel
 by_cases q1:v<C.length
 case neg=>
  obtain rfl:v=C.length:=by omega
  go_wp2_with fail;go_ret;have e9:isSome B C.length=isSome B B.length:=by rw[r.out.len]
  refine⟨B,yW e9,⟨M,by rw[r.out.len];exact HE.out.len,HV.out,λit' i2=>?_⟩,zc (by rw[<-R2.out];exact r.out),E0,V.out⟩;obtain⟨i,n1⟩:=AM i2;have o1:i<C.length:=by have:=zy n1;rwa[r.out.len]at this
  obtain⟨D,uF⟩:=zl o1;have h9:=(r.out.done i D it' o1 uF n1).2.2;have h8:=h9.len (by have:=HV.out.h0;omega);exact⟨h9.in_,by have:=HV.out.h1;omega⟩
 obtain⟨D,uF⟩:=zl q1;have H:B[v]?=some D:=by rw[r.out.rest v (Ay _)];exact uF
 have a:B.length=C.length:=r.out.len;have n2:v<B.length:=by omega
 obtain⟨gv,L,rfl,l1,O,g1,j2,f2,H0,l0⟩:=M.vert (by omega);obtain⟨X2,G0⟩:=zl (show v<u.length by omega);obtain⟨lb,Ab,cb⟩:=X2;have D0:lb=oo I v:=HB.out v _ G0;have p1:lb.length<=100000:=by rw[D0];have:=YI I v;omega
 have R1:wr.cell? ⟨e,4,none⟩=some (.slice (some ⟨gv,0,none⟩) B.length cv):=M.blk.cell 4;have Q1:wr.cell? ⟨gb,v,none⟩=some (.slice Ab lb.length cb):=by
  rw[Y.blk.cell];simp[G0,sV]
 have W0:L[v*2]?=some (.slice D.1.2.1 D.1.1.length D.1.2.2):=(H0 v D H).1;have X0:L[v*2+1]?=some (sV D.2):=(H0 v D H).2;have d0:=HL.out D (Ad uF);have d:∀x,x∈lb->sD g.h x:=λx hx=>by
  rw[D0]at hx;exact(C1.out _ (el.1 hx)).2
 have a1:PiecesAt wr D.1.2.1 D.1.2.2 D.1.1:=qw (M.st.own _ (AD.2 ⟨D,Ad H,rfl⟩)) (dA d0) HV.out.h1;have V1:PiecesAt wr Ab cb lb:=qw (x:=(lb,Ab,cb)) (Y.sides.own _ (Ad G0)) d HV.out.h1;have i1:=zi (Ae wr.heap.size wr);have v1:=QZ g.h gv (v*2) L D.1.2.1 Ab D.1.2.2 cb D.1.1 lb (sV D.2) wr.drew O.drew l0 W0 X0 (a1.ext i1) (V1.ext i1) d0 d HV.out.h0 HV.out.h1 p1
 have G1:=zc v1;have N2:=zc H0;have T2:=zc l0;have A1:=zc uF;have B1:=zc H;have P2:=zc D0;have M3:=zc a;have m1:=O.lt;have j1:=Y.blk.lt;have I0:=M.blk.lt;clear v1 uF H D0 H0 l0 W0 X0 d0 d a1 V1 G0 a;go_wp2_with fail;obtain⟨X,E⟩:∃X:World->Prop,Hid (X=λT=>T.cell? ⟨e,4,none⟩=some (.slice (some ⟨gv,0,none⟩) B.length cv)/\T.cell? ⟨gb,v,none⟩=some (.slice Ab lb.length cb)):=⟨_,zc rfl⟩
 have e0:X wr.drew:=by rw[E.out];exact⟨R1,Q1⟩
 refine zV.begin (S:=X) 10 (by kernel_rfl) ?_;refine tN 0 ?_ ?_<|tN 1 ?_ ?_<|tN 2 ?_ ?_<|tN 3 ?_ ?_<|tN 4 ?_ ?_<|tN 5 ?_ ?_<|tN 6 ?_ ?_<|tN 7 ?_ ?_<|tN 8 ?_ ?_<|tN 9 ?_ ?_ ?_
 iterate 10
  rotate_left;intro w F;rw[E.out]at F;obtain⟨x1,y1⟩:=F;(try simp only[pS]);go_simp;try with_reducible rfl
 try simp only[pS]
 refine zV.one (i:=10) rfl (by kernel_rfl) λK Z=>?_;go_wp2_with fail;refine G1.out.mono ?_;rintro S3 w9 ⟨rfl,A2,c2,S2,A3,c3,o,HT,z,a2,X1,c0,Q⟩;refine Z.out _ _ ⟨λh=>by omega,?_⟩;clear Z K
 try simp only[pS]
 refine zV.done (by kernel_rfl) ?_ _;have F1:Hid (WK g.h (oo I v) D ((S2,A2,c2),(o,A3,c3))):=zc (by
  have h1:=HT.out;rw[P2.out]at h1;exact h1)
 have T1:=M.ext (zi (Ae wr.heap.size wr));have f0:Below l.heap.size l w9:=Q.under (zi E0) l1 m1;have C0:=T1.took (it':=((S2,A2,c2),(o,A3,c3))) B1.out rfl O.drew g1 j2 f2 N2.out T2.out l1 z Q (X1.imp (λh=>by
  obtain⟨h1,h2,h3⟩:=h;subst h1 h2 h3;rfl) id) c0.own (by have:=E0.size;exact this) (O2.out.ext f0)
 have T0:=(Y.ext (zi (Ae wr.heap.size wr))).only Q O.drew;have B3:w9.cell? ⟨e,4,none⟩=some (.slice (some ⟨gv,0,none⟩) B.length cv):=by
  have h1:=C0.blk.cell 4;rw[List.length_set]at h1;exact h1
 have F3:w9.cell? ⟨gv,v*2+1,none⟩=some (.slice A3 o.length c3):=(z.cell _).trans (Ak (by simp[g1];omega));have H3:=C0.blk.lt;have I3:=z.lt;have V0:gb<=w9.heap.size:=Ai G Q.size;have E1:Hid (isSome (B.set v ((S2,A2,c2),(o,A3,c3))) (v+1)=(isSome B v || decide (0<o.length))):=zc (Xt n2);have P0:Hid (∀b t L,zj w b t L->t≠192->zj w9 b t L):=zc λb t L hB ht=>by
  have h1:=V.out b t L hB ht;exact Q.blk (wv h1 O ht) h1.drew
 have y0:=zc C0;have O0:=zc T0;have D3:o.length<=9223372036854775807:=c0.toPiecesAt.len;clear C0 T0 T1 z a2 X1 c0 Q R1 Q1 E e0 G1 M Y E0 G O;obtain⟨sm,m0⟩:∃sm,isSome B v=sm:=⟨_,rfl⟩;have D1:=zc m0;rw[m0];clear m0
 by_cases hF:0<o.length
 case pos=>
  cases sm
  all_goals
   go_wp2_with fail;go_roundw
   case rel=>exact⟨v+1,B.set v ((S2,A2,c2),(o,A3,c3)),by omega,by go_num,by rw[E1.out,D1.out];simp[hF],zc (r.out.next A1.out F1.out),y0.out,O0.out,f0,V0,P0⟩
   case measure=>simp[intOf];omega
 cases sm
 all_goals
  go_wp2_with fail;go_roundw
  case rel=>exact⟨v+1,B.set v ((S2,A2,c2),(o,A3,c3)),by omega,by go_num,by rw[E1.out,D1.out];simp[hF],zc (r.out.next A1.out F1.out),y0.out,O0.out,f0,V0,P0⟩
  case measure=>simp[intOf];omega
