import Derived.Test.YtjcimdpldlamfaaGreatDoorAl
import Derived.Test.YtjcimdpldlamfaaGreatDoorBd9cd66bd2cf
namespace Go.Proofs.YtjcimdpldlamfaaGreatDoor
open Go.RowKit Go.Shelf
theorem mW{B:Nat}{w w':World}{p0 p1:Addr}{v0 v1:Value}(hb:Below B w w')(h0:p0.block<B)(h1:p1.block<B)(h:w.cell? p0=some v0/\w.cell? p1=some v1):w'.cell? p0=some v0/\w'.cell? p1=some v1:=⟨rh hb h0 h.1,rh hb h1 h.2⟩
def qE(is:Int->Bool)(D:List Int)(i:Nat)(out:List zw):Prop:=(∀b a,D[0]?=some b->D[i]?=some a->vV is b a out)/\out.length<=i/\(∀x,x∈out->zM x.f/\zM x.t)
section
variable {is:Int->Bool}{D:List Int}{i:Nat}{out o:List zw}{a c:Int}{z:zw}
theorem qE.start:qE is D 0 []:=
 ⟨λb a B A=>by
  obtain rfl:b=a:=by rw[B]at A;simpa using A
  exact vV.start,Ay _,λx h=>by simp at h⟩
theorem kc(h:D.Pairwise (· < ·)){b:Int}(hb:D[0]?=some b)(ha:D[i]?=some a):b<=a:=rO h hb (Ad ha)
theorem nC(ha:D[i]?=some a):∃b,D[0]?=some b:=zl (by have:=zy ha;omega)
theorem qE.skip(h:qE is D i out)(F:D.Pairwise (· < ·))(G:yA D false is)(B:D[i]?=some a)(C:D[i+1]?=some c)(I:is a=false):qE is D (i+1) out:=
 ⟨λb E H A=>by
  obtain rfl:c=E:=by rw[C]at A;simpa using A
  exact(h.1 b a H B).skip (uT F B C) (G.const i a c B C) I,by have:=h.2.1;omega,h.2.2⟩
theorem qE.grow(h:qE is D i (o++[z]))(F:D.Pairwise (· < ·))(I:yA D false is)(C:D[i]?=some a)(E:D[i+1]?=some c)(J:is a=true)(K:z.t=a)(hi:zM c):qE is D (i+1) (o++[⟨z.f,c⟩]):=
 ⟨λb H G A=>by
  obtain rfl:c=H:=by rw[E]at A;simpa using A
  exact(h.1 b a G C).grow (kc F G C) (uT F C E) (I.const i a c C E) J K,by have:=h.2.1;simp at this⊢;omega,λx B=>by
  rcases AK.1 B with B|B
  ·exact h.2.2 x (List.mem_append_left _ B)
  obtain rfl:x=_:=by simpa using B
  exact⟨(h.2.2 z (by simp)).1,hi⟩⟩
theorem qE.next(h:qE is D i out)(I:D.Pairwise (· < ·))(M:yA D false is)(C:D[i]?=some a)(E:D[i+1]?=some c)(N:is a=true)(O:∀y,y∈out->y.t≠a)(F:zM a)(G:zM c):qE is D (i+1) (out++[⟨a,c⟩]):=
 ⟨λb L J A=>by
  obtain rfl:c=L:=by rw[E]at A;simpa using A
  have H:=h.1 b a J C;exact H.next (kc I J C) (uT I C E) (M.const i a c C E) N λy K=>by have:=H.low y K;have:=O y K;omega,by have:=h.2.1;simp;omega,λx B=>by
  rcases AK.1 B with B|B
  ·exact h.2.2 x B
  obtain rfl:x=_:=by simpa using B
  exact⟨F,G⟩⟩
theorem qE.last(h:qE is D i (o++[z]))(ha:D[i]?=some a)(hz:z.t≠a):∀y,y∈o++[z]->y.t≠a:=λy hy e=>by
 obtain⟨b,hb⟩:=nC ha;have h1:=h.1 b a hb ha;have h2:=h1.norm.rise y hy;have h3:=h1.low z (by simp);omega
theorem qE.fin(h:qE is D i out)(E:D.Pairwise (· < ·))(B:yA D false is)(hi:D.length<=i+1)(h0:i<D.length∨(D=[]/\out=[])):ya out/\∀t,zE out t=is t:=by
 rcases h0 with h0|⟨rfl,rfl⟩
 ·obtain⟨a,A⟩:=zl h0
  obtain⟨b,C⟩:=nC A;exact(h.1 b a C A).fin E B C A (by omega)
 exact⟨.nil,λt=>(B.empty t).symm⟩
end
set_option maxRecDepth 100000
set_option maxHeartbeats 16000000
theorem rp(x:zg):(zK x).length=3:=rfl
def Xx(z p:zg):Prop:=z.t=p.f/\z.v=p.v
def Rm(B bb base:Nat)(out':List zg)(W:World)(e:Ending)(w':World):Prop:=e=.returned (.tuple #[])/\∃v',zj w' bb 248 #[v']/\Own zK 3 w' base 113 v' out'/\Below B W w'
theorem bR(B Y base:Nat)(v:Value)(out:List zg)(p:zg)(W:World)(hB:zj W Y 248 #[v])(hO:Own zK 3 W base 113 v out)(x:B<=Y)(A0:B<=base)(p0:base<=W.heap.size)(hl:out.length<=100000)(hp:p.f<p.t)
  (hn:out=[]∨∃o z,out=o++[z]/\¬Xx z p) :
  Calls Tryz.prog 183 #[.pointer (some ⟨Y,0,none⟩),dV p] W (Rm B Y base (out++[p]) W):=by
 obtain⟨i0,hi,B0,C0,D0⟩:=mU;have dp:decide (p.t<=p.f)=false:=by simp;omega
 obtain⟨A,c,rfl⟩:=hO.form;have r:=zj.new W 113 #[.int .i64 p.f,.int .i64 p.t,.int .i64 p.v];have a:=ze (Ae _ W) (Obj.cells #[.int .i64 p.f,.int .i64 p.t,.int .i64 p.v] 113);have P:=hB.alloc (Obj.cells #[.int .i64 p.f,.int .i64 p.t,.int .i64 p.v] 113);have O:=hO.alloc (Obj.cells #[.int .i64 p.f,.int .i64 p.t,.int .i64 p.v] 113);have h0:=hB.lt;have u:B<=W.heap.size:=by omega
 obtain⟨c1,c2,c3⟩:=P.facts;obtain⟨e1,e2,e3⟩:=r.facts;have b:Hid (out.length+1<=1000000):=zc (by omega);have j:=zc hO;clear hB hO hp
 go_enter Tryz.func183,Tryz.ntmps183
 rcases hn with rfl|⟨o,z,rfl,hj⟩
 ·have hd:decide ((0:Int)>0)=false:=by decide
  go_wp2_with fail
  go_quiet (fail)
  go_wp2_with fail;obtain⟨wr,E⟩:∃wr,wr=(W.alloc (Obj.cells #[.int .i64 p.f,.int .i64 p.t,.int .i64 p.v] 113)).drewN nq:=⟨_,rfl⟩;have D:zj wr Y 248 #[.slice A ([]:List zg).length c]:=by rw[E];exact P.drewN _
  have F:zj wr W.heap.size 113 #[.int .i64 p.f,.int .i64 p.t,.int .i64 p.v]:=by rw[E];exact r.drewN _
  have G:Own zK 3 wr base 113 (.slice A ([]:List zg).length c) ([]:List zg):=by rw[E];exact O.drewN _
  have I:Below W.heap.size W wr:=by rw[E];exact zo a _
  rw[<-E];clear E c1 c2 c3 e1 e2 e3 P r O a;obtain⟨S,H⟩:∃S:World->Prop,Hid (S=λJ=>J.cell? ⟨Y,0,none⟩=some (.slice A ([]:List zg).length c)/\J.cell? ⟨W.heap.size,0,none⟩=some (.int .i64 p.f)/\J.cell? ⟨W.heap.size,1,none⟩=some (.int .i64 p.t)/\J.cell? ⟨W.heap.size,2,none⟩=some (.int .i64 p.v)):=⟨_,zc rfl⟩;have M:Hid (∀J:World,zj J Y 248 #[.slice A ([]:List zg).length c]->zj J W.heap.size 113 #[.int .i64 p.f,.int .i64 p.t,.int .i64 p.v]->S J):=zc λJ s d=>by rw[H.out];exact⟨s.cell 0,d.cell 0,d.cell 1,d.cell 2⟩
  have D:=D.drew;have F:=F.drew;have G:=G.drew;have I:=zi I;have L0:=I.size;have J0:=M.out _ D F;refine zV.begin (S:=S) 10 (by kernel_rfl) ?_;refine tN 0 ?_ ?_<|tN 1 ?_ ?_<|tN 2 ?_ ?_<|tN 3 ?_ ?_<|tN 4 ?_ ?_<|tN 5 ?_ ?_ ?_
  iterate 6
   rotate_left;intro w C;rw[H.out]at C;obtain⟨R,T,U,V⟩:=C;(try simp only[pS]);go_simp;try with_reducible rfl
  try simp only[pS]
  refine zV.one (i:=6) rfl (by kernel_rfl) λK L=>?_;go_wp2_with fail;have k:=M.out _ (D.alloc (Obj.cells #[.int .i64 p.f,.int .i64 p.t,.int .i64 p.v] 113)) (F.alloc (Obj.cells #[.int .i64 p.f,.int .i64 p.t,.int .i64 p.v] 113));refine L.out _ _ ⟨λ_=>k,?_⟩;clear L K
  try simp only[pS]
  refine zV.one (i:=7) rfl (by kernel_rfl) λK L=>?_;refine yR (enc:=zK) (.tmp 59) (.tmp 61) 111 rfl base 113 i0 _ 3 24 Tryz.underlying111 hi B0 C0 D0 rfl (by decide) _ ([]:List zg) p rfl G #[.int .i64 p.f,.int .i64 p.t,.int .i64 p.v] rfl wr.drew.heap.size rfl rfl rfl mg (by have:=b.out;first|(simp;done)|(simp;omega)) (by decide) (by omega) ?_;intro gn Z w6 N m Q K0
  have X:=Q _ _ _ D (G.other D (by decide));have P6:=Q _ _ _ F (λe=>by have:=(World.ownsRow.lt j.out _ e.symm).2;omega);have l:=M.out _ X P6;refine L.out _ _ ⟨λ_=>l,?_⟩;clear L K
  try simp only[Act.put,List.setIfInBounds_toArray]
  refine tN 8 ?_ ?_ ?_;rotate_left
  ·intro w C;rw[H.out]at C;obtain⟨R,T,U,V⟩:=C;go_simp;try with_reducible rfl
  try simp only[Act.put]
  refine tN 9 ?_ ?_ ?_;rotate_left
  ·intro w C;rw[H.out]at C;obtain⟨R,T,U,V⟩:=C;go_simp;try with_reducible rfl
  try simp only[Act.put]
  refine zV.one (i:=10) rfl (by kernel_rfl) λK L=>?_;obtain⟨y1,y2,y3⟩:=X.facts;go_wp2_with fail;refine L.out _ _ ⟨λh=>by omega,?_⟩;clear L K;refine zV.done (by kernel_rfl) ?_ _;clear y1 y2 y3;go_wp2_with fail;refine⟨rfl,.tuple #[],by simp[results,Tryz.results183],?_⟩;refine⟨rfl,_,by simpa using X.set_ 0 (.slice (some ⟨gn,0,none⟩) ((([]:List zg)).length+1) Z),by simpa using N.keep (zG X (by decide) 0 _),?_⟩
  exact((I.mono u).trans (m.mono A0)).setCell x _
 rw[Ag]at P O j c1 b;simp only[Ap,AC,Nat.zero_add]at P O j c1 b;obtain⟨q,rfl⟩:∃g,A=some ⟨g,0,none⟩:=by
  rcases O.2 with⟨s,_⟩|⟨g,Z,n0,hv,_⟩
  ·simp at s
  simp only[Value.slice.injEq]at hv;exact⟨g,hv.1⟩
 obtain⟨b0,r0,a0,W0,cs,y,X0,n⟩:=O.cells rp;have E0:(o++[z])[o.length]?=some z:=by simp
 have z1:cs[o.length*3+1]?=some (.int .i64 z.t):=by have:=n _ z E0 1 (by decide);simpa[zK]using this
 have z2:cs[o.length*3+2]?=some (.int .i64 z.v):=by have:=n _ z E0 2 (by decide);simpa[zK]using this
 have t0:IntKind.i64.wrap (o.length:Int)=o.length:=AQ _ (by simp at hl;omega);have hd:(0:Int)<(o.length:Int)+1:=by omega
 obtain⟨g1,g2,g3⟩:=y.facts;have s0:o.length<o.length+1:=by omega
 clear n a0 b0 E0 X0 W0
 by_cases a1:z.t=p.f
 case neg=>
  have d1:(z.t== p.f)=false:=by simpa using a1
  clear a1 hj;go_wp2_with fail
  go_quiet (fail)
  go_wp2_with fail;clear g1 g2 g3 y z1 z2;obtain⟨wr,E⟩:∃wr,wr=(W.alloc (Obj.cells #[.int .i64 p.f,.int .i64 p.t,.int .i64 p.v] 113)).drewN nq:=⟨_,rfl⟩;have D:zj wr Y 248 #[.slice (some ⟨q,0,none⟩) (o.length+1) c]:=by rw[E];exact P.drewN _
  have F:zj wr W.heap.size 113 #[.int .i64 p.f,.int .i64 p.t,.int .i64 p.v]:=by rw[E];exact r.drewN _
  have G:Own zK 3 wr base 113 (.slice (some ⟨q,0,none⟩) (o.length+1) c) (o++[z]):=by rw[E];exact O.drewN _
  have I:Below W.heap.size W wr:=by rw[E];exact zo a _
  rw[<-E];clear E c1 c2 c3 e1 e2 e3 P r O a;obtain⟨S,H⟩:∃S:World->Prop,Hid (S=λJ=>J.cell? ⟨Y,0,none⟩=some (.slice (some ⟨q,0,none⟩) (o.length+1) c)/\J.cell? ⟨W.heap.size,0,none⟩=some (.int .i64 p.f)/\J.cell? ⟨W.heap.size,1,none⟩=some (.int .i64 p.t)/\J.cell? ⟨W.heap.size,2,none⟩=some (.int .i64 p.v)):=⟨_,zc rfl⟩;have M:Hid (∀J:World,zj J Y 248 #[.slice (some ⟨q,0,none⟩) (o.length+1) c]->zj J W.heap.size 113 #[.int .i64 p.f,.int .i64 p.t,.int .i64 p.v]->S J):=zc λJ s d=>by rw[H.out];exact⟨s.cell 0,d.cell 0,d.cell 1,d.cell 2⟩
  have D:=D.drew;have F:=F.drew;have G:=G.drew;have I:=zi I;have L0:=I.size;have J0:=M.out _ D F;refine zV.begin (S:=S) 10 (by kernel_rfl) ?_;refine tN 0 ?_ ?_<|tN 1 ?_ ?_<|tN 2 ?_ ?_<|tN 3 ?_ ?_<|tN 4 ?_ ?_<|tN 5 ?_ ?_ ?_
  iterate 6
   rotate_left;intro w C;rw[H.out]at C;obtain⟨R,T,U,V⟩:=C;(try simp only[pS]);go_simp;try with_reducible rfl
  try simp only[pS]
  refine zV.one (i:=6) rfl (by kernel_rfl) λK L=>?_;go_wp2_with fail;have k:=M.out _ (D.alloc (Obj.cells #[.int .i64 p.f,.int .i64 p.t,.int .i64 p.v] 113)) (F.alloc (Obj.cells #[.int .i64 p.f,.int .i64 p.t,.int .i64 p.v] 113));refine L.out _ _ ⟨λ_=>k,?_⟩;clear L K
  try simp only[pS]
  refine zV.one (i:=7) rfl (by kernel_rfl) λK L=>?_;refine yR (enc:=zK) (.tmp 59) (.tmp 61) 111 rfl base 113 i0 _ 3 24 Tryz.underlying111 hi B0 C0 D0 rfl (by decide) _ (o++[z]) p rfl G #[.int .i64 p.f,.int .i64 p.t,.int .i64 p.v] rfl wr.drew.heap.size rfl rfl rfl mg (by have:=b.out;first|(simp;done)|(simp;omega)) (by decide) (by omega) ?_;intro gn Z w6 N m Q K0
  have X:=Q _ _ _ D (G.other D (by decide));have P6:=Q _ _ _ F (λe=>by have:=(World.ownsRow.lt j.out _ e.symm).2;omega);have l:=M.out _ X P6;refine L.out _ _ ⟨λ_=>l,?_⟩;clear L K
  try simp only[Act.put,List.setIfInBounds_toArray]
  refine tN 8 ?_ ?_ ?_;rotate_left
  ·intro w C;rw[H.out]at C;obtain⟨R,T,U,V⟩:=C;go_simp;try with_reducible rfl
  try simp only[Act.put]
  refine tN 9 ?_ ?_ ?_;rotate_left
  ·intro w C;rw[H.out]at C;obtain⟨R,T,U,V⟩:=C;go_simp;try with_reducible rfl
  try simp only[Act.put]
  refine zV.one (i:=10) rfl (by kernel_rfl) λK L=>?_;obtain⟨y1,y2,y3⟩:=X.facts;go_wp2_with fail;refine L.out _ _ ⟨λh=>by omega,?_⟩;clear L K;refine zV.done (by kernel_rfl) ?_ _;clear y1 y2 y3;go_wp2_with fail;refine⟨rfl,.tuple #[],by simp[results,Tryz.results183],?_⟩;refine⟨rfl,_,by simpa using X.set_ 0 (.slice (some ⟨gn,0,none⟩) (((o++[z])).length+1) Z),by simpa using N.keep (zG X (by decide) 0 _),?_⟩
  exact((I.mono u).trans (m.mono A0)).setCell x _
 have d1:(z.t== p.f)=true:=by simpa using a1
 have d2:(z.v== p.v)=false:=by
  simp only[AH];exact λe=>hj ⟨a1,e⟩
 clear a1 hj;go_wp2_with fail
 go_quiet (fail)
 go_wp2_with fail;clear g1 g2 g3 y z1 z2;obtain⟨wr,E⟩:∃wr,wr=(W.alloc (Obj.cells #[.int .i64 p.f,.int .i64 p.t,.int .i64 p.v] 113)).drewN nq:=⟨_,rfl⟩;have D:zj wr Y 248 #[.slice (some ⟨q,0,none⟩) (o.length+1) c]:=by rw[E];exact P.drewN _
 have F:zj wr W.heap.size 113 #[.int .i64 p.f,.int .i64 p.t,.int .i64 p.v]:=by rw[E];exact r.drewN _
 have G:Own zK 3 wr base 113 (.slice (some ⟨q,0,none⟩) (o.length+1) c) (o++[z]):=by rw[E];exact O.drewN _
 have I:Below W.heap.size W wr:=by rw[E];exact zo a _
 rw[<-E];clear E c1 c2 c3 e1 e2 e3 P r O a;obtain⟨S,H⟩:∃S:World->Prop,Hid (S=λJ=>J.cell? ⟨Y,0,none⟩=some (.slice (some ⟨q,0,none⟩) (o.length+1) c)/\J.cell? ⟨W.heap.size,0,none⟩=some (.int .i64 p.f)/\J.cell? ⟨W.heap.size,1,none⟩=some (.int .i64 p.t)/\J.cell? ⟨W.heap.size,2,none⟩=some (.int .i64 p.v)):=⟨_,zc rfl⟩;have M:Hid (∀J:World,zj J Y 248 #[.slice (some ⟨q,0,none⟩) (o.length+1) c]->zj J W.heap.size 113 #[.int .i64 p.f,.int .i64 p.t,.int .i64 p.v]->S J):=zc λJ s d=>by rw[H.out];exact⟨s.cell 0,d.cell 0,d.cell 1,d.cell 2⟩
 have D:=D.drew;have F:=F.drew;have G:=G.drew;have I:=zi I;have L0:=I.size;have J0:=M.out _ D F;refine zV.begin (S:=S) 10 (by kernel_rfl) ?_;refine tN 0 ?_ ?_<|tN 1 ?_ ?_<|tN 2 ?_ ?_<|tN 3 ?_ ?_<|tN 4 ?_ ?_<|tN 5 ?_ ?_ ?_
 iterate 6
  rotate_left;intro w C;rw[H.out]at C;obtain⟨R,T,U,V⟩:=C;(try simp only[pS]);go_simp;try with_reducible rfl
 try simp only[pS]
 refine zV.one (i:=6) rfl (by kernel_rfl) λK L=>?_;go_wp2_with fail;have k:=M.out _ (D.alloc (Obj.cells #[.int .i64 p.f,.int .i64 p.t,.int .i64 p.v] 113)) (F.alloc (Obj.cells #[.int .i64 p.f,.int .i64 p.t,.int .i64 p.v] 113));refine L.out _ _ ⟨λ_=>k,?_⟩;clear L K
 try simp only[pS]
 refine zV.one (i:=7) rfl (by kernel_rfl) λK L=>?_;refine yR (enc:=zK) (.tmp 59) (.tmp 61) 111 rfl base 113 i0 _ 3 24 Tryz.underlying111 hi B0 C0 D0 rfl (by decide) _ (o++[z]) p rfl G #[.int .i64 p.f,.int .i64 p.t,.int .i64 p.v] rfl wr.drew.heap.size rfl rfl rfl mg (by have:=b.out;first|(simp;done)|(simp;omega)) (by decide) (by omega) ?_;intro gn Z w6 N m Q K0
 have X:=Q _ _ _ D (G.other D (by decide));have P6:=Q _ _ _ F (λe=>by have:=(World.ownsRow.lt j.out _ e.symm).2;omega);have l:=M.out _ X P6;refine L.out _ _ ⟨λ_=>l,?_⟩;clear L K
 try simp only[Act.put,List.setIfInBounds_toArray]
 refine tN 8 ?_ ?_ ?_;rotate_left
 ·intro w C;rw[H.out]at C;obtain⟨R,T,U,V⟩:=C;go_simp;try with_reducible rfl
 try simp only[Act.put]
 refine tN 9 ?_ ?_ ?_;rotate_left
 ·intro w C;rw[H.out]at C;obtain⟨R,T,U,V⟩:=C;go_simp;try with_reducible rfl
 try simp only[Act.put]
 refine zV.one (i:=10) rfl (by kernel_rfl) λK L=>?_;obtain⟨y1,y2,y3⟩:=X.facts;go_wp2_with fail;refine L.out _ _ ⟨λh=>by omega,?_⟩;clear L K;refine zV.done (by kernel_rfl) ?_ _;clear y1 y2 y3;go_wp2_with fail;refine⟨rfl,.tuple #[],by simp[results,Tryz.results183],?_⟩;refine⟨rfl,_,by simpa using X.set_ 0 (.slice (some ⟨gn,0,none⟩) (((o++[z])).length+1) Z),by simpa using N.keep (zG X (by decide) 0 _),?_⟩
 exact((I.mono u).trans (m.mono A0)).setCell x _
theorem RC(B H base:Nat)(v:Value)(o:List zg)(z p:zg)(W:World)(P:zj W H 248 #[v])(R:Own zK 3 W base 113 v (o++[z]))(q:B<=H)(r:B<=base)(_:base<=W.heap.size)(x:(o++[z]).length<=100000)(y:p.f<p.t)
  (X:Xx z p) :
  Calls Tryz.prog 183 #[.pointer (some ⟨H,0,none⟩),dV p] W (Rm B H base (o++[⟨z.f,p.t,z.v⟩]) W):=by
 have dp:decide (p.t<=p.f)=false:=by simp;omega
 obtain⟨A,c,rfl⟩:=R.form;have h:=zj.new W 113 #[.int .i64 p.f,.int .i64 p.t,.int .i64 p.v];have S:=ze (Ae _ W) (Obj.cells #[.int .i64 p.f,.int .i64 p.t,.int .i64 p.v] 113);have D:=P.alloc (Obj.cells #[.int .i64 p.f,.int .i64 p.t,.int .i64 p.v] 113);have E:=R.alloc (Obj.cells #[.int .i64 p.f,.int .i64 p.t,.int .i64 p.v] 113);have a:=P.lt;have Q:B<=W.heap.size:=by omega
 clear P R y;rw[Ag]at D E;simp only[Ap,AC,Nat.zero_add]at D E;obtain⟨c1,c2,c3⟩:=D.facts;obtain⟨e1,e2,e3⟩:=h.facts;obtain⟨O,rfl⟩:∃g,A=some ⟨g,0,none⟩:=by
  rcases E.2 with⟨l,_⟩|⟨g,j,k,d,_⟩
  ·simp at l
  simp only[Value.slice.injEq]at d;exact⟨g,d.1⟩
 obtain⟨Z,V,J,T,I,G,U,C⟩:=E.cells rp;have F:(o++[z])[o.length]?=some z:=by simp
 have z0:I[o.length*3]?=some (.int .i64 z.f):=by have:=C _ z F 0 (by decide);simpa[zK]using this
 have z1:I[o.length*3+1]?=some (.int .i64 z.t):=by have:=C _ z F 1 (by decide);simpa[zK]using this
 have z2:I[o.length*3+2]?=some (.int .i64 z.v):=by have:=C _ z F 2 (by decide);simpa[zK]using this
 have w:IntKind.i64.wrap (o.length:Int)=o.length:=AQ _ (by simp at x;omega);have hd:(0:Int)<(o.length:Int)+1:=by omega
 obtain⟨g1,g2,g3⟩:=G.facts;have u:o.length<o.length+1:=by omega
 have i:=zc C;have K:=zc J;have L:=zc z0;have M:=zc z1;have N:=zc z2;have d1:(z.t== p.f)=true:=by simpa using X.1
 have d2:(z.v== p.v)=true:=by simpa using X.2
 have Y:O≠H:=wv G D (by decide);clear C J Z F X
 go_enter Tryz.func183,Tryz.ntmps183
 go_wp2_with fail
 go_quiet (fail)
 go_wp2_with fail
 go_region
 go_wp2_with fail;refine⟨rfl,.tuple #[],by simp[results,Tryz.results183],?_⟩;have s:=((G.drewN nq).drew).set_ (o.length*3+1) (.int .i64 p.t);have n:=Own.of_cells (enc:=zK) (m:=o++[⟨z.f,p.t,z.v⟩]) rp (by decide) s V (by have:=K.out;simpa using this) T (by simpa using U) (by
  have e:(o++[z]).set o.length ⟨z.f,p.t,z.v⟩=o++[⟨z.f,p.t,z.v⟩]:=by simp
  rw[<-e];refine i.out.set (by simp) (λt b=>by rw[Aj (by omega)]) (λt b=>?_);have k1:o.length*3+1<I.size:=(Array.getElem?_eq_some_iff.1 M.out).1
  match t,b with
  |0,_=>
   show(I.setIfInBounds (o.length*3+1) (.int .i64 p.t))[o.length*3]?=_;rw[Aj (by omega),L.out];rfl
  |1,_=>rw[Ak k1];rfl
  |2,_=>rw[Aj (by omega),N.out];rfl)
 refine⟨rfl,.slice (some ⟨O,0,none⟩) (o.length+1) c,?_,by simpa using n,?_⟩
 ·exact((D.drewN nq).drew).far Y.symm _
 exact((zi (zo S nq)).mono Q).setCell (by show B<=O;omega) _
theorem Tr(C:Nat)(A:Option Addr)(n c:Nat)(W:World)(D:zj W C 248 #[.slice A n c]) :
  Calls Tryz.prog 184 #[.pointer (some ⟨C,0,none⟩)] W λe F=>e=.returned (if 200<n then .tuple #[.slice none 0 0,.int .i64 2] else .tuple #[.slice A n c,.int .i64 0])/\W=F:=by
 obtain⟨G,H,I⟩:=D.facts
 by_cases B:200<n
 ·have E:decide ((n:Int)>200)=true:=by simp;omega
  rw[Aq B];clear B
  go_enter Tryz.func184,Tryz.ntmps184
  go_wp2_with fail;refine AP (v:=.tuple #[.slice none 0 0,.int .i64 2]) (by simp[results,Tryz.results184]) rfl ?_;exact⟨rfl,rfl⟩
 have E:decide ((n:Int)>200)=false:=by simp;omega
 rw[Au B];clear B
 go_enter Tryz.func184,Tryz.ntmps184
 go_wp2_with fail;refine AP (v:=.tuple #[.slice A n c,.int .i64 0]) (by simp[results,Tryz.results184]) rfl ?_;exact⟨rfl,rfl⟩
def sh(fn:Int->Option Int)(D:List Int)(i:Nat)(out:List zg):Prop:=(∀b a,D[0]?=some b->D[i]?=some a->qr fn b a out)/\out.length<=i/\(∀x,x∈out->zM x.f/\zM x.t/\zM x.v)
section
variable {fn:Int->Option Int}{D:List Int}{i:Nat}{out o:List zg}{a c v:Int}{z:zg}
theorem sh.start:sh fn D 0 []:=
 ⟨λb a B A=>by
  obtain rfl:b=a:=by rw[B]at A;simpa using A
  exact qr.start,Ay _,λx h=>by simp at h⟩
theorem sh.skip(h:sh fn D i out)(F:D.Pairwise (· < ·))(G:yA D none fn)(B:D[i]?=some a)(C:D[i+1]?=some c)(I:fn a=none):sh fn D (i+1) out:=
 ⟨λb E H A=>by
  obtain rfl:c=E:=by rw[C]at A;simpa using A
  exact(h.1 b a H B).skip (uT F B C) (G.const i a c B C) I,by have:=h.2.1;omega,h.2.2⟩
theorem sh.grow(h:sh fn D i (o++[z]))(F:D.Pairwise (· < ·))(J:yA D none fn)(C:D[i]?=some a)(E:D[i+1]?=some c)(K:fn a=some v)(H:Xx z ⟨a,c,v⟩)(hi:zM c):sh fn D (i+1) (o++[⟨z.f,c,z.v⟩]):=
 ⟨λb I G A=>by
  obtain rfl:c=I:=by rw[E]at A;simpa using A
  exact(h.1 b a G C).grow (kc F G C) (uT F C E) (J.const i a c C E) (by rw[K,H.2]) H.1,by have:=h.2.1;simp at this⊢;omega,λx B=>by
  rcases AK.1 B with B|B
  ·exact h.2.2 x (List.mem_append_left _ B)
  obtain rfl:x=_:=by simpa using B
  exact⟨(h.2.2 z (by simp)).1,hi,(h.2.2 z (by simp)).2.2⟩⟩
theorem sh.next(h:sh fn D i out)(I:D.Pairwise (· < ·))(L:yA D none fn)(C:D[i]?=some a)(E:D[i+1]?=some c)(M:fn a=some v)(N:∀y,y∈out->y.t=a->y.v≠v)(F:zM a)(G:zM c)(H:zM v):sh fn D (i+1) (out++[⟨a,c,v⟩]):=
 ⟨λb K J A=>by
  obtain rfl:c=K:=by rw[E]at A;simpa using A
  exact(h.1 b a J C).next (kc I J C) (uT I C E) (L.const i a c C E) M N,by have:=h.2.1;simp;omega,λx B=>by
  rcases AK.1 B with B|B
  ·exact h.2.2 x B
  obtain rfl:x=_:=by simpa using B
  exact⟨F,G,H⟩⟩
theorem sh.last(h:sh fn D i (o++[z]))(B:D[i]?=some a)(E:¬Xx z ⟨a,c,v⟩):∀y,y∈o++[z]->y.t=a->y.v≠v:=λy A e C=>by
 obtain⟨b,hb⟩:=nC B;have h1:=h.1 b a hb B;rcases AK.1 A with A|A
 ·have h2:=h1.map.ahead A
  have h3:=h1.low z (by simp);omega
 obtain rfl:y=z:=by simpa using A
 exact E ⟨e,C⟩
theorem sh.fin(h:sh fn D i out)(E:D.Pairwise (· < ·))(B:yA D none fn)(hi:D.length<=i+1)(h0:i<D.length∨(D=[]/\out=[])):wL out/\∀t,xN out t=fn t:=by
 rcases h0 with h0|⟨rfl,rfl⟩
 ·obtain⟨a,A⟩:=zl h0
  obtain⟨b,C⟩:=nC A;exact(h.1 b a C A).fin E B C A (by omega)
 exact⟨.nil,λt=>(B.empty t).symm⟩
end
def nj(fn:Int->Option Int)(er:Int)(out:List zg):Prop:=∃U,wL U/\(∀t,xN U t=fn t)/\er=(if 200<U.length then 2 else 0)/\out=if 200<U.length then [] else U
theorem YS(fn:Nat)(lb:Array Value)(f:Int->Option Int)(eg:∀l w,(callFunc fn l).run Tryz.prog w=.ok (.enter fn l) w)(A:Option Addr)(c:Nat)(D:List Int)(w:World)(hA:zI w A c D)(r0:D.length<=10000)
  (hD:D.Pairwise (· < ·)) (hT:yA D none f) (hv:∀t v,f t=some v->zM v)
  (hp:∀(W:World) (x:Int),Below w.heap.size w W->Calls Tryz.prog fn (#[.int .i64 x]++lb) W λe N=>e=.returned (Pv (f x))/\Below W.heap.size W N) :
  Calls Tryz.prog 170 #[.slice A D.length c,.func (.func fn) #[] lb] w (Rv (nj f) w):=by
 have k:=zc hA.i64;have HP:=zc hp;have Q:=zc hT;have HD:=zc hD;have HV:=zc hv;have I0:=zc hA;have q0:=hA.len;clear hA hp hT hD hv
 go_enter Tryz.func170,Tryz.ntmps170
 go_wp2_with fail
 go_loopw [7] (λv wr=>∃(i:Nat) (out:List zg) (v':Value),v=.int .i64 i/\Hid (i<D.length∨(D=[]/\i=0/\out=[]))/\Hid (sh f D i out)/\zj wr w.heap.size 248 #[v']/\Own zK 3 wr (w.heap.size+1) 113 v' out/\Below w.heap.size w wr/\w.heap.size+1<=wr.heap.size) (λv _=>D.length-(intOf v).toNat)
 case atStart=>exact⟨0,[],_,rfl,zc (by cases D with
  |nil=>exact .inr ⟨rfl,rfl,rfl⟩
  |cons y r=>exact .inl (by simp)),zc sh.start,zj.new w _ _,Own.nil,by go_grown,by simp⟩
 obtain⟨i,out,v',rfl,H0,X,M,J,F,C⟩:=hrel;have t0:i<=D.length:=by rcases H0.out with h|⟨h,h2,_⟩ <;> omega
 have a0:=X.out.2.1
 by_cases V:i+1<D.length
 case neg=>
  have HF:Hid (wL out/\∀t,xN out t=f t):=zc (X.out.fin HD.out Q.out (by omega) (H0.out.imp id λh=>⟨h.1,h.2.2⟩));obtain⟨Ao,co,rfl,Z0⟩:=dS J X.out.2.2;have Z:=Tr w.heap.size Ao out.length co wr M
  by_cases q:200<out.length
  ·rw[Aq q]at Z
   have HS:Hid (nj f 2 []):=zc ⟨out,HF.out.1,HF.out.2,by rw[Aq q],by rw[Aq q]⟩;clear q;go_wp2_with (go_at_call 184;refine Z.mono ?_;rintro e N ⟨rfl,rfl⟩);refine AP (v:=.tuple #[.slice none 0 0,.int .i64 2]) (by simp[results,Tryz.results170]) rfl ?_;exact⟨2,[],none,0,HS,rfl,.nil,F⟩
  rw[Au q]at Z;have HS:Hid (nj f 0 out):=zc ⟨out,HF.out.1,HF.out.2,by rw[Au q],by rw[Au q]⟩;clear q;go_wp2_with (go_at_call 184;refine Z.mono ?_;rintro e N ⟨rfl,rfl⟩);refine AP (v:=.tuple #[.slice Ao out.length co,.int .i64 0]) (by simp[results,Tryz.results170]) rfl ?_;exact⟨0,out,Ao,co,HS,rfl,Z0.since (Nat.le_succ _),F⟩
 obtain⟨a,ha⟩:=zl (show i<D.length by omega);obtain⟨d,hd⟩:=zl V;obtain⟨b,B,rfl,I,x0⟩:=I0.out.get ha;obtain⟨b',O0,e',_,x1⟩:=I0.out.get hd;obtain⟨rfl,rfl⟩:b=b'/\B=O0:=by simpa using e'
 have J0:=zc (k.out a (Ad ha));have u:=zc (k.out d (Ad hd));have s:Hid (a<d):=zc (uT HD.out ha hd);have A0:=zc x0;have B0:=zc x1;rw[<-F.cell (by exact I)]at x0 x1;have HA:=zc ha;have Y:=zc hd;have n:=HP.out wr a F;have h0:i<D.length:=by omega
 have i0:(i:Int)+1<(D.length:Int):=by omega
 have u0:IntKind.i64.wrap ((i:Int)+1)=(i:Int)+1:=AQ _ (by omega);have L:out.length<=100000:=by omega
 have s0:(0:Int)<=(i:Int)+1:=by omega
 clear ha hd e' x1
 cases hq:f a with
 |none=>
  rw[hq]at n;have HQ:=zc hq;unfold Pv at n;simp only[Option.getD_none,Option.isSome_none]at n;clear hq;go_wp2_with fail;refine n.mono ?_;rintro e N ⟨rfl,g⟩;go_wp2_with fail;go_roundw
  case rel=>exact⟨i+1,out,v',by go_num,zc (.inl V),zc (X.out.skip HD.out Q.out HA.out Y.out HQ.out),M.ext g,J.ext g,za F g,Ai C g.size⟩
  case measure=>simp[intOf];omega
 |some y=>
  rw[hq]at n;have HQ:=zc hq;have K0:=zc (HV.out a y hq);unfold Pv at n;simp only[Option.getD_some,Option.isSome_some]at n;clear hq;go_wp2_with fail;refine n.mono ?_;rintro e j ⟨rfl,U⟩;have J:=J.ext U;have M:=M.ext U;have F:=za F U;have C:=Ai C U.size;clear U x0;go_wp2_with fail;rcases List.eq_nil_or_concat out with rfl|⟨o,z,rfl⟩
  ·have P:Hid (sh f D (i+1) ([]++[⟨a,d,y⟩])):=zc (X.out.next HD.out Q.out HA.out Y.out HQ.out (λy hy=>by simp at hy) J0.out u.out K0.out)
   obtain⟨S,E⟩:∃S:World->Prop,Hid (S=λN=>N.cell? ⟨b,B+i,none⟩=some (.int .i64 a)/\N.cell? ⟨b,B+(i+1),none⟩=some (.int .i64 d)):=⟨_,zc rfl⟩;have M:=M.drew;have J:=J.drew;have F:=zi F;have C:w.heap.size+1<=j.drew.heap.size:=C;have T:S j.drew:=by rw[E.out];exact⟨(F.cell (p:=⟨b,B+i,none⟩) I).trans A0.out,(F.cell (p:=⟨b,B+(i+1),none⟩) I).trans B0.out⟩
   refine zV.begin (S:=S) 12 (by kernel_rfl) ?_;refine tN 0 ?_ ?_<|tN 1 ?_ ?_<|tN 2 ?_ ?_<|tN 3 ?_ ?_<|tN 4 ?_ ?_<|tN 5 ?_ ?_<|tN 6 ?_ ?_<|tN 7 ?_ ?_<|tN 8 ?_ ?_<|tN 9 ?_ ?_<|tN 10 ?_ ?_<|tN 11 ?_ ?_ ?_
   iterate 12
    rotate_left;intro w G;rw[E.out]at G;obtain⟨P0,Q0⟩:=G;(try simp only[pS]);go_simp;try with_reducible rfl
   try simp only[pS]
   refine zV.one (i:=12) rfl (by kernel_rfl) λK m=>?_;go_wp2_with fail;refine(bR (w.heap.size) w.heap.size (w.heap.size+1) v' ([]:List zg) ⟨a,d,y⟩ j.drew M J (Ay _) (by omega) (by omega) L s.out (.inl rfl)).mono ?_;rintro e w4 ⟨rfl,v4,O,R,H⟩;refine m.out _ _ ⟨λh=>by omega,?_⟩;refine zV.done (by kernel_rfl) ?_ _;clear m K E T;go_wp2_with fail;go_roundw
   case rel=>exact⟨i+1,[]++[⟨a,d,y⟩],v4,by go_num,zc (.inl V),P,O,R,F.trans (H.mono (by omega)),Ai C H.size⟩
   case measure=>simp[intOf];omega
  rw[List.concat_eq_append]at X J a0 L
  by_cases hj:Xx z ⟨a,d,y⟩
  ·have HJ:=zc hj
   have P:Hid (sh f D (i+1) (o++[⟨z.f,d,z.v⟩])):=zc (X.out.grow HD.out Q.out HA.out Y.out HQ.out hj u.out);clear hj;obtain⟨S,E⟩:∃S:World->Prop,Hid (S=λN=>N.cell? ⟨b,B+i,none⟩=some (.int .i64 a)/\N.cell? ⟨b,B+(i+1),none⟩=some (.int .i64 d)):=⟨_,zc rfl⟩;have M:=M.drew;have J:=J.drew;have F:=zi F;have C:w.heap.size+1<=j.drew.heap.size:=C;have T:S j.drew:=by rw[E.out];exact⟨(F.cell (p:=⟨b,B+i,none⟩) I).trans A0.out,(F.cell (p:=⟨b,B+(i+1),none⟩) I).trans B0.out⟩
   refine zV.begin (S:=S) 12 (by kernel_rfl) ?_;refine tN 0 ?_ ?_<|tN 1 ?_ ?_<|tN 2 ?_ ?_<|tN 3 ?_ ?_<|tN 4 ?_ ?_<|tN 5 ?_ ?_<|tN 6 ?_ ?_<|tN 7 ?_ ?_<|tN 8 ?_ ?_<|tN 9 ?_ ?_<|tN 10 ?_ ?_<|tN 11 ?_ ?_ ?_
   iterate 12
    rotate_left;intro w G;rw[E.out]at G;obtain⟨P0,Q0⟩:=G;(try simp only[pS]);go_simp;try with_reducible rfl
   try simp only[pS]
   refine zV.one (i:=12) rfl (by kernel_rfl) λK m=>?_;go_wp2_with fail;refine(RC (w.heap.size) w.heap.size (w.heap.size+1) v' o z ⟨a,d,y⟩ j.drew M J (Ay _) (by omega) (by omega) L s.out HJ.out).mono ?_;rintro e w4 ⟨rfl,v4,O,R,H⟩;refine m.out _ _ ⟨λh=>by omega,?_⟩;refine zV.done (by kernel_rfl) ?_ _;clear m K E T;go_wp2_with fail;go_roundw
   case rel=>exact⟨i+1,o++[⟨z.f,d,z.v⟩],v4,by go_num,zc (.inl V),P,O,R,F.trans (H.mono (by omega)),Ai C H.size⟩
   case measure=>simp[intOf];omega
  have HJ:=zc hj;have P:Hid (sh f D (i+1) (o++[z]++[⟨a,d,y⟩])):=zc (X.out.next HD.out Q.out HA.out Y.out HQ.out (X.out.last HA.out hj) J0.out u.out K0.out);clear hj;obtain⟨S,E⟩:∃S:World->Prop,Hid (S=λN=>N.cell? ⟨b,B+i,none⟩=some (.int .i64 a)/\N.cell? ⟨b,B+(i+1),none⟩=some (.int .i64 d)):=⟨_,zc rfl⟩;have M:=M.drew;have J:=J.drew;have F:=zi F;have C:w.heap.size+1<=j.drew.heap.size:=C
  have T:S j.drew:=by rw[E.out];exact⟨(F.cell (p:=⟨b,B+i,none⟩) I).trans A0.out,(F.cell (p:=⟨b,B+(i+1),none⟩) I).trans B0.out⟩
  refine zV.begin (S:=S) 12 (by kernel_rfl) ?_;refine tN 0 ?_ ?_<|tN 1 ?_ ?_<|tN 2 ?_ ?_<|tN 3 ?_ ?_<|tN 4 ?_ ?_<|tN 5 ?_ ?_<|tN 6 ?_ ?_<|tN 7 ?_ ?_<|tN 8 ?_ ?_<|tN 9 ?_ ?_<|tN 10 ?_ ?_<|tN 11 ?_ ?_ ?_
  iterate 12
   rotate_left;intro w G;rw[E.out]at G;obtain⟨P0,Q0⟩:=G;(try simp only[pS]);go_simp;try with_reducible rfl
  try simp only[pS]
  refine zV.one (i:=12) rfl (by kernel_rfl) λK m=>?_;go_wp2_with fail;refine(bR (w.heap.size) w.heap.size (w.heap.size+1) v' (o++[z]) ⟨a,d,y⟩ j.drew M J (Ay _) (by omega) (by omega) L s.out (.inr ⟨o,z,rfl,HJ.out⟩)).mono ?_;rintro e w4 ⟨rfl,v4,O,R,H⟩;refine m.out _ _ ⟨λh=>by omega,?_⟩;refine zV.done (by kernel_rfl) ?_ _;clear m K E T;go_wp2_with fail;go_roundw
  case rel=>exact⟨i+1,o++[z]++[⟨a,d,y⟩],v4,by go_num,zc (.inl V),P,O,R,F.trans (H.mono (by omega)),Ai C H.size⟩
  case measure=>simp[intOf];omega
