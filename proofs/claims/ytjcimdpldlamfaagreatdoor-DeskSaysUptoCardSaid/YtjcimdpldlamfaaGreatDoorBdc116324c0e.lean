import Derived.Test.YtjcimdpldlamfaaGreatDoorBd4033c9d843
namespace Go.Proofs.YtjcimdpldlamfaaGreatDoor
set_option maxRecDepth 100000
set_option maxHeartbeats 8000000
open Go.RowKit
theorem PA(A A' Ah:Option Addr)(c Y ch:Nat)(g:zf)(v t:Int)(l:List yy)(w:World)(hG:zv w A c A' Y g)(hH:zU mt 2 w Ah l)(n0:l.length<=maxLen)
  (h0:zm g v t=0) (P:¬500<l.length) (i:zn g v t=true) :
  Calls Tryz.prog 47 #[gV A c A' Y g,.int .i64 v,.int .i64 t,.slice Ah l.length ch] w λe B=>e=.returned (Oy (pE g v t l))/\Below w.heap.size w B:=by
 unfold maxLen at n0;obtain⟨hV,hv,ht⟩:=uR h0;obtain⟨w0,A1⟩:=hv;obtain⟨o1,p1⟩:=ht;have hh:=hV.h1;have m1:=hV.ne;have HN:=zc (λh4=>eX h0 P i h4);have HS:=zc (λa b c h4=>Xf (a:=a) (b:=b) (c:=c) h0 P i h4);obtain⟨bh,oh,I0⟩:=hH
 go_enter Tryz.func47,Tryz.ntmps47
 go_wp2_with fail;refine(vB _ _ _ _ g v t _ (hG.ext (by go_grown))).mono ?_;rintro e w1 ⟨rfl,j⟩;obtain⟨B0,c1,c2,c3⟩:=(zj.new w 68 (gC A c A' Y g)).go j;have m:Below w.heap.size w w1:=za (by go_grown) j;go_wp2_with fail;refine(xM _ _ _ _ g v t _ (hG.ext m) w0 A1).mono ?_;rintro e w2 ⟨rfl,o⟩;have K0:=za m o;have D0:=B0.ext o;go_wp2_with fail
 clear o B0 c1 c2 c3 j i h0
 go_loopw [13,14,15,40] (λa b d k wr=>∃(n:Nat) (x y z:Int),n<=l.length/\k=.int .i64 n/\a=.int .i64 x/\b=.int .i64 y/\d=.int .i64 z/\0<=z/\z<=1000*n/\Hid (fY g x y z (l.drop n)=fY g v t 0 l)/\Below w.heap.size w wr/\zj wr w.heap.size 68 (gC A c A' Y g))
  (λ_ _ _ k _=>l.length-(intOf k).toNat)
 case atStart=>exact⟨0,v,t,0,Nat.zero_le _,rfl,rfl,rfl,rfl,by omega,by omega,zc rfl,K0,D0⟩
 clear K0 D0 m;obtain⟨n,x,y,z,hn,rfl,rfl,rfl,rfl,u1,v1,HI,H,B0⟩:=hrel;obtain⟨b1,b2,b3⟩:=B0.facts
 by_cases t0:n<l.length
 ·obtain⟨h,s⟩:=zl t0
  obtain⟨rfl,g1,⟨⟨x0,x1⟩,t1,Q0⟩⟩:=I0 n h s;have y0:=x0.now H;have y1:=x1.now H;have hd:=xj s;have V:Hid (fY g x y z (h::l.drop (n+1))=fY g v t 0 l):=by rw[<-hd];exact HI
  clear I0 hd s HI x0 x1
  by_cases he:0<=h.edge/\h.edge<=(g.edges.length:Int)-1
  case neg=>
   have HF:=zc (HN.out (V.out.symm.trans (oP (ar (nI he)))));go_wp2_with fail
   all_goals refine bodyPost_ret (yJ rfl _ _ _) rfl ?_
   all_goals exact⟨by rw[HF.out];rfl,ze H _⟩
  have O:=lN he;obtain⟨i1,j1⟩:=he;obtain⟨q,hq⟩:=zl (show h.edge.toNat<g.edges.length by omega);have HF:=zc (λhx=>HN.out (V.out.symm.trans (oP hx)));have W0:=zc (λa b d hx=>V.out.symm.trans (oQ (a:=a) (b:=b) (d:=d) hx));have R:=λh2=>au (v:=x) (t:=y) O hq h2;have J:=λh3=>dd (v:=x) (t:=y) O hq h3;have K:=λto S h2 h3=>kY (v:=x) (t:=y) (to:=to) (l:=S) O hq h2 h3
  have G0:=zc R;have W:=zc J;have X:=zc K;have u:xW g q:=hV.edges q (List.mem_of_getElem? hq);obtain⟨E,G,hE⟩:=hG.edges;obtain⟨rfl,g0,⟨⟨z0,z1,L,cl,z2,o0,p0,hL⟩,_⟩⟩:=hE _ q hq;have k0:=z0.now H;have k1:=z1.now H;have k2:=z2.now H;have Q:=Nat.lt_of_lt_of_le g0 H.size;clear R J K hE hq O z0 z1 z2
  by_cases P0:q.a=x/\y<=h.depart
  case neg=>
   have H9:=zc (HF.out (G0.out P0));go_wp2_with fail
   all_goals refine bodyPost_ret (yJ rfl _ _ _) rfl ?_
   all_goals exact⟨by rw[H9.out];rfl,ze H _⟩
  obtain⟨rfl,v0⟩:=P0;go_wp2_with fail;have N0:q.legs.length<=maxLen:=Nat.le_trans o0 p0;have e0:=b1 0;have e1:=b1 1;have e2:=b1 2;simp at e0 e1 e2;have M:(wr.alloc (Obj.cells #[Value.int IntKind.i64 h.edge,Value.int IntKind.i64 h.depart] 64)).cell? ⟨w.heap.size,0,none⟩=some (.int .i64 g.h)/\(wr.alloc (Obj.cells #[Value.int IntKind.i64 h.edge,Value.int IntKind.i64 h.depart] 64)).cell? ⟨w.heap.size,1,none⟩=some (.slice A g.lives.length c)/\(wr.alloc (Obj.cells #[Value.int IntKind.i64 h.edge,Value.int IntKind.i64 h.depart] 64)).cell? ⟨w.heap.size,2,none⟩=some (.slice (some { block:=E,off:=G }) g.edges.length Y)/\(wr.alloc (Obj.cells #[Value.int IntKind.i64 h.edge,Value.int IntKind.i64 h.depart] 64)).cell? ⟨E,G+h.edge.toNat*3,none⟩=some (.int .i64 q.a)/\(wr.alloc (Obj.cells #[Value.int IntKind.i64 h.edge,Value.int IntKind.i64 h.depart] 64)).cell? ⟨E,G+h.edge.toNat*3+1,none⟩=some (.int .i64 q.b)/\(wr.alloc (Obj.cells #[Value.int IntKind.i64 h.edge,Value.int IntKind.i64 h.depart] 64)).cell? ⟨E,G+h.edge.toNat*3+2,none⟩=some (.slice L q.legs.length cl)/\(wr.alloc (Obj.cells #[Value.int IntKind.i64 h.edge,Value.int IntKind.i64 h.depart] 64)).cell? ⟨wr.heap.size,0,none⟩=some (.int .i64 h.edge)/\(wr.alloc (Obj.cells #[Value.int IntKind.i64 h.edge,Value.int IntKind.i64 h.depart] 64)).cell? ⟨wr.heap.size,1,none⟩=some (.int .i64 h.depart):=by
   refine⟨?_,?_,?_,?_,?_,?_,?_,?_⟩ <;> simp[go_sem,e0,e1,e2,k0,k1,k2,b3,Q]
  have F:Below w.heap.size w (wr.alloc (Obj.cells #[Value.int IntKind.i64 h.edge,Value.int IntKind.i64 h.depart] 64)):=ze H _;have Bq:=B0.alloc (Obj.cells #[Value.int IntKind.i64 h.edge,Value.int IntKind.i64 h.depart] 64);have Z:=hG.ext F;have f:=hL.ext yY.stable F
  generalize O0:wr.heap.size=n17 at M⊢
  generalize B1:wr.alloc (Obj.cells #[Value.int IntKind.i64 h.edge,Value.int IntKind.i64 h.depart] 64)=wq at M F Bq Z f⊢
  clear O0 B1 e0 e1 e2 k0 k1 k2 b1 b2 b3 y0 y1 H B0 Q;have A2:=F.size
  cases C:zF g q h.depart with
  |none=>
   have U:=zc C;have H9:=zc (HF.out (W.out C));clear C
   go_region_held3 (λB=>B.cell? ⟨w.heap.size,0,none⟩=some (.int .i64 g.h)/\B.cell? ⟨w.heap.size,1,none⟩=some (.slice A g.lives.length c)/\B.cell? ⟨w.heap.size,2,none⟩=some (.slice (some { block:=E,off:=G }) g.edges.length Y)/\B.cell? ⟨E,G+h.edge.toNat*3,none⟩=some (.int .i64 q.a)/\B.cell? ⟨E,G+h.edge.toNat*3+1,none⟩=some (.int .i64 q.b)/\B.cell? ⟨E,G+h.edge.toNat*3+2,none⟩=some (.slice L q.legs.length cl)/\B.cell? ⟨n17,0,none⟩=some (.int .i64 h.edge)/\B.cell? ⟨n17,1,none⟩=some (.int .i64 h.depart))
    (first|exact M|(refine dr ?_ M;go_grown))
    (first|(go_at_call 98;refine(kn _ _ L _ _ cl g q h.depart _ (Z.ext (by go_grown)) hV u (f.ext yY.stable (by go_grown)) N0 Q0 U.out).mono ?_;rintro e T ⟨rfl,I⟩;have D:Below wq.heap.size wq T:=za (by go_grown) I;have D1:=D.size;obtain⟨i0,l0⟩:=Oc I))
   all_goals
    have r:Below w.heap.size w T:=za F D;have E1:=r.size;go_wp2_with fail;refine bodyPost_ret (yJ rfl _ _ _) rfl ?_;exact⟨by rw[H9.out];rfl,by go_grown⟩
  |some p=>
   obtain⟨S,to⟩:=p;have U:=zc C;have H9:=zc (W0.out _ _ _ (X.out to S ⟨trivial,v0⟩ C));have ha:=yh C;have s0:=u.legs S ha.1;have c0:0<=S.cost:=by omega
   have c1:S.cost<=1000:=by omega
   have L0:=World.block_lt_of_cell? _ _ M.2.2.2.1;have u0:=World.block_lt_of_cell? _ _ M.2.2.2.2.2.2.1;have m0:=World.block_lt_of_cell? _ _ M.1;simp only at L0 u0 m0;have M1:E≠wq.heap.size:=by omega
   have l1:n17≠wq.heap.size:=by omega
   have N:w.heap.size≠wq.heap.size:=by omega
   clear C ha s0
   go_region_held3 (λB=>B.cell? ⟨w.heap.size,0,none⟩=some (.int .i64 g.h)/\B.cell? ⟨w.heap.size,1,none⟩=some (.slice A g.lives.length c)/\B.cell? ⟨w.heap.size,2,none⟩=some (.slice (some { block:=E,off:=G }) g.edges.length Y)/\B.cell? ⟨E,G+h.edge.toNat*3,none⟩=some (.int .i64 q.a)/\B.cell? ⟨E,G+h.edge.toNat*3+1,none⟩=some (.int .i64 q.b)/\B.cell? ⟨E,G+h.edge.toNat*3+2,none⟩=some (.slice L q.legs.length cl)/\B.cell? ⟨n17,0,none⟩=some (.int .i64 h.edge)/\B.cell? ⟨n17,1,none⟩=some (.int .i64 h.depart))
    (first|exact M|(refine dr ?_ M;go_grown))
    (first|(go_at_call 98;refine(qK _ _ L _ _ cl g q h.depart S to _ (Z.ext (by go_grown)) hV u (f.ext yY.stable (by go_grown)) N0 Q0 U.out).mono ?_;rintro e T ⟨rfl,I⟩;have D:Below wq.heap.size wq T:=za (by go_grown) I;have D1:=D.size;obtain⟨i0,l0⟩:=Oc I;obtain⟨r0,r1,r2,r3,r4,r5,r6,r7⟩:=dr D M))
   all_goals
    have r:Below w.heap.size w T:=za F D;have E1:=r.size;have E0:=Bq.ext D;have q0:E<T.heap.size:=by omega
    have q1:n17<T.heap.size:=by omega
    have q2:w.heap.size<T.heap.size:=by omega
    go_wp2_with fail
    go_quiet (fail)
    go_wp2;go_roundw
    case rel=>
     refine⟨n+1,q.b,to,z+S.cost,by omega,by go_num,rfl,rfl,rfl,by omega,by omega,zc H9.out.symm,zo (by go_grown) _,?_⟩
     first
      |exact(E0.alloc _).drewN _
      |exact((((E0.far N _).far N _).far N _).far N _).drewN _
    case measure=>simp[intOf];omega
 have M0:=zc (HS.out x y z (HI.out.symm.trans (by rw[vg (by omega)];rfl)));go_wp2_with fail;refine bodyPost_ret (yJ rfl _ _ _) rfl ?_;exact⟨by rw[M0.out];rfl,H⟩
end Go.Proofs.YtjcimdpldlamfaaGreatDoor
