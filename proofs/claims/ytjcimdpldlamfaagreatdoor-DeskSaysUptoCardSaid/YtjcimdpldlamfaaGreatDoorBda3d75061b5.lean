import Derived.WideKeyEntry
import Derived.Laws.BitsLemmas
import Derived.Laws.BytesArg
import Derived.Test.YtjcimdpldlamfaaGreatDoorBd30c1e64806
import Derived.Test.YtjcimdpldlamfaaGreatDoorBde1fba3d5b3
namespace Go.Proofs.YtjcimdpldlamfaaGreatDoor
set_option maxRecDepth 100000
set_option maxHeartbeats 4000000
open Go.RowKit
def TT(n:Int):Value:=.int .i64 n
def XT(o:tB):Value:=.agg #[.int .i64 o.v,.int .i64 o.t,.int .i64 o.edge,.int .i64 o.depart,.bool o.hops]
theorem nf(w:World):(zeroValue 3).run Tryz.prog w=.ok (.int .i64 0) w:=by kernel_rfl
theorem Zi(w:World):(zeroValue 204).run Tryz.prog w=.ok (.agg #[.int .i64 0,.int .i64 0,.int .i64 0,.int .i64 0,.bool false]) w:=by kernel_rfl
theorem PH:WideMaps.KeyLaw Tryz.prog 200:=deep_law_laid Tryz.laidOut (m:=2) (by omega) Uk US Tb
section
variable {α:Type}{enc:α->Value}{w:World}{b n:Nat}{F:qI α}
theorem zN.heap(h:zN enc w b n F){B:World}(K:B.heap[b]?=w.heap[b]?):zN enc B b n F:=by
 obtain⟨D,⟨C,A,E,G,H,I⟩,J⟩:=h;exact⟨D,⟨C,A,by rw[K];exact E,G,H,I⟩,J⟩
theorem zN.drewN(h:zN enc w b n F)(k:Nat):zN enc (w.drewN k) b n F:=h
theorem zN.entry(h:zN enc w b n F){t e:TypeId}(M:Tryz.prog.underlying t=some (.map 200 e)){z:Value}(T:∀u:World,(zeroValue e).run Tryz.prog u=.ok z u)(S:n<maxLen){p:Nat×Nat}(L:Yw p) :
  ∃(v0:Value) (st:Nat) (w1:World),(Instr.mapEntry t (.map (some b)) (.agg #[.int .i64 (p.1:Int),.int .i64 (p.2:Int)])).run Tryz.prog w=.ok (.tuple #[v0,goInt st]) w1/\w.mapTurned w1 b /\
   ∀(w2:World) (y:α),w2.heap[b]?=w1.heap[b]?->∃I,(Instr.entryStore t (.map (some b)) (goInt st) (enc y)).run Tryz.prog w2=.ok () I/\zN enc I b (n+1) (jo F p y)/\w2.mapTurned I b:=by
 have P:=h;obtain⟨D,⟨O,C,H,Q,a,c⟩,d⟩:=h;obtain⟨v0,st,A,G,U,_,V⟩:=WideElems.entry_then_store PH M T H Q (gu L);have R:(ChangeMaps.setBlock w b (.map A G)).heap[b]?=some (.map A G):=ChangeMaps.heap_setBlock_same H _;refine⟨v0,st,_,U,⟨O,C,A,G,H,rfl⟩,λw2 y B=>?_⟩;rw[R]at B;obtain⟨E,J,W,X⟩:=V w2 (enc y) B;obtain⟨N,Y,Z,f⟩:=P.store M S L y
 have e:N=ChangeMaps.setBlock w b (.map E J):=by
  have K:(Instr.mapUpdate t (.map (some b)) (OR p) (enc y)).run Tryz.prog w=.ok () N:=Y;rw[X]at K;injection K with _ h9;exact h9.symm
 refine⟨_,W,Z.heap ?_,⟨A,G,E,J,B,rfl⟩⟩;rw[ChangeMaps.heap_setBlock_same B,e,ChangeMaps.heap_setBlock_same H]
end
theorem pQ{P:Program}{o:Oper}{a:Act}{K:Act->World->Prop}{Q:Exit->Act->World->Prop}{w w1:World}{v C B:Value}(m x:Operand)(t:TypeId)(E:o.op=.mapEntry t m x)(D:a.eval m=C)(F:a.eval x=B)
  (A:(Instr.mapEntry t C B).run P w=.ok v w1) (h:K (a.put o.dst v) w1):Oper.wp P o a w K Q:=by
 unfold Oper.wp;simp[execOp,E,D,F,A,Result.andThen];exact h
theorem rE{P:Program}{o:Oper}{a:Act}{K:Act->World->Prop}{Q:Exit->Act->World->Prop}{w w1:World}{B C D:Value}(m s x:Operand)(t:TypeId)(F:o.op=.entryStore t m s x)(E:a.eval m=B)(G:a.eval s=C)(H:a.eval x=D)
  (A:(Instr.entryStore t B C D).run P w=.ok () w1) (h:K (a.put o.dst undef) w1):Oper.wp P o a w K Q:=by
 unfold Oper.wp;simp[execOp,F,E,G,H,A,Result.andThen];exact h
structure eh(tb b1 b2 n:Nat)(B:qI Int)(O:qI tB)(p:Nat×Nat)(m:Int)(o:tB)(w w':World):Prop where
 best:zN TT w' b1 (n+1) (yS B B p m m)
 orig:zN XT w' b2 (n+1) (yS B O p m o)
 blks:∀g t cs,zj w g t cs->zj w' g t cs
 below:∀k (w0:World),Below k w0 w->k<=b1->k<=b2->k<=w.heap.size->Below k w0 w'
def wW(tb b1 b2 gp:Nat)(p:Nat×Nat)(o:tB)(w:World):Prop:=w.cell? ⟨tb,0,none⟩=some (.map (some b1))/\w.cell? ⟨tb,1,none⟩=some (.map (some b2))/\w.cell? ⟨gp,0,none⟩=some (.int .i64 (p.1:Int))/\w.cell? ⟨gp,1,none⟩=some (.int .i64 (p.2:Int)) /\
 w.cell? ⟨gp+1,0,none⟩=some (.int .i64 o.v)/\w.cell? ⟨gp+1,1,none⟩=some (.int .i64 o.t)/\w.cell? ⟨gp+1,2,none⟩=some (.int .i64 o.edge)/\w.cell? ⟨gp+1,3,none⟩=some (.int .i64 o.depart)/\w.cell? ⟨gp+1,4,none⟩=some (.bool o.hops)
theorem less_any(tb b1 b2 n:Nat)(B:qI Int)(O:qI tB)(p:Nat×Nat)(m:Int)(o:tB)(w:World)(hT:zj w tb 198 #[.map (some b1),.map (some b2)])(hB:zN TT w b1 n B)(hO:zN XT w b2 n O)(x:b1≠b2)(hp:Yw p)(hn:n<1000000)(hm:m<zq) :
  Calls Tryz.prog 153 #[.pointer (some ⟨tb,0,none⟩),.agg #[.int .i64 (p.1:Int),.int .i64 (p.2:Int)],.int .i64 m,.agg #[.int .i64 o.v,.int .i64 o.t,.int .i64 o.edge,.int .i64 o.depart,.bool o.hops]] w (λe w'=>e=.returned (.tuple #[])/\eh tb b1 b2 n B O p m o w w'):=by
 have V0:n<maxLen:=by unfold maxLen;omega
 have Y1:=hT
 go_enter Tryz.func153,Tryz.ntmps153
 go_wp2_with fail;have HT:=(hT.alloc (Obj.cells #[.int .i64 (p.1:Int),.int .i64 (p.2:Int)] 200)).alloc (Obj.cells #[.int .i64 o.v,.int .i64 o.t,.int .i64 o.edge,.int .i64 o.depart,.bool o.hops] 204);have BP:=(zj.new w 200 #[.int .i64 (p.1:Int),.int .i64 (p.2:Int)]).alloc (Obj.cells #[.int .i64 o.v,.int .i64 o.t,.int .i64 o.edge,.int .i64 o.depart,.bool o.hops] 204);have BO:zj ((w.alloc (Obj.cells #[.int .i64 (p.1:Int),.int .i64 (p.2:Int)] 200)).alloc (Obj.cells #[.int .i64 o.v,.int .i64 o.t,.int .i64 o.edge,.int .i64 o.depart,.bool o.hops] 204)) (w.heap.size+1) 204 #[.int .i64 o.v,.int .i64 o.t,.int .i64 o.edge,.int .i64 o.depart,.bool o.hops]:=zj.new_ (by simp)
 have HB:=(hB.alloc (Obj.cells #[.int .i64 (p.1:Int),.int .i64 (p.2:Int)] 200)).alloc (Obj.cells #[.int .i64 o.v,.int .i64 o.t,.int .i64 o.edge,.int .i64 o.depart,.bool o.hops] 204);have HO:=(hO.alloc (Obj.cells #[.int .i64 (p.1:Int),.int .i64 (p.2:Int)] 200)).alloc (Obj.cells #[.int .i64 o.v,.int .i64 o.t,.int .i64 o.edge,.int .i64 o.depart,.bool o.hops] 204);have E0:∀g t U,zj w g t U->zj ((w.alloc (Obj.cells #[.int .i64 (p.1:Int),.int .i64 (p.2:Int)] 200)).alloc (Obj.cells #[.int .i64 o.v,.int .i64 o.t,.int .i64 o.edge,.int .i64 o.depart,.bool o.hops] 204)) g t U:=λg t U h=>(h.alloc _).alloc _
 have D0:∀k (u:World),k<=w.heap.size->Below k u w->Below k u ((w.alloc (Obj.cells #[.int .i64 (p.1:Int),.int .i64 (p.2:Int)] 200)).alloc (Obj.cells #[.int .i64 o.v,.int .i64 o.t,.int .i64 o.edge,.int .i64 o.depart,.bool o.hops] 204)):=λk u hk h=>(h.alloc hk _).alloc (by simp;omega) _;have i0:w.heap.size<=((w.alloc (Obj.cells #[.int .i64 (p.1:Int),.int .i64 (p.2:Int)] 200)).alloc (Obj.cells #[.int .i64 o.v,.int .i64 o.t,.int .i64 o.edge,.int .i64 o.depart,.bool o.hops] 204)).heap.size:=by simp;omega
 obtain⟨gp,p0⟩:∃gp,gp=w.heap.size:=⟨_,rfl⟩;rw[<-p0]at BP BO⊢;clear p0;obtain⟨wa,u0⟩:∃wa:World,wa=(w.alloc (Obj.cells #[.int .i64 (p.1:Int),.int .i64 (p.2:Int)] 200)).alloc (Obj.cells #[.int .i64 o.v,.int .i64 o.t,.int .i64 o.edge,.int .i64 o.depart,.bool o.hops] 204):=⟨_,rfl⟩;rw[<-u0]at HT BP BO HB HO E0 D0 i0⊢;clear u0;have b:=λn=>(HB.drewN n).look Tryz.underlying195 (nf _) hp
 obtain⟨t1,t2,t3⟩:=HT.facts;obtain⟨p1,p2,p3⟩:=BP.facts;obtain⟨o1,o2,o3⟩:=BO.facts;have B0:Hid (m<vT B p↔(B p=none∨∃k,B p=some k/\m<k)):=zc (by
  cases hB:B p with
  |none=>rw[kh hB];simp[hm]
  |some k=>rw[qx hB];simp)
 by_cases c:m<vT B p
 case neg=>
  obtain⟨k,hk,r0⟩:∃k,B p=some k/\¬m<k:=by
   cases hB:B p with
   |none=>rw[kh hB]at c;omega
   |some k=>rw[qx hB]at c;exact⟨k,rfl,c⟩
  rw[hk]at b;simp only[Option.map_some,Option.getD_some,Option.isSome_some,TT]at b;have hd:decide (m<k)=false:=by simpa using r0
  have j:Hid (yS B B p m m=B/\yS B O p m o=O):=zc ⟨by unfold yS;rw[if_neg c],by unfold yS;rw[if_neg c]⟩;clear c hk r0 B0;go_wp2_with fail
  go_quiet (fail)
  go_wp2_with fail;refine⟨rfl,.tuple #[],by simp[results,Tryz.results153],?_⟩;exact⟨rfl,by rw[j.out.1];exact HB.mono (by omega),by rw[j.out.2];exact HO.mono (by omega),λg t U h=>E0 g t U h,λk u h1 h2 h3 h4=>zo (D0 k u h4 h1) _⟩
 have j:Hid (yS B B p m m=jo B p m/\yS B O p m o=jo O p o):=zc ⟨by unfold yS;rw[if_pos c],by unfold yS;rw[if_pos c]⟩;obtain⟨uv,ub,q0,F0⟩:∃(uv:Int) (ub:Bool),((B p).map TT).getD (.int .i64 0)=.int .i64 uv/\(B p).isSome=ub/\(ub=true->decide (m<uv)=true):=by
  rcases B0.out.1 c with h|⟨k,h,h2⟩
  ·rw[h];exact⟨0,false,rfl,rfl,by simp⟩
  rw[h];exact⟨k,true,rfl,rfl,λ_=>by simpa using h2⟩
 rw[q0,F0.1]at b;have F0:=F0.2;clear c q0 B0;have o0:∀w',zj w' tb 198 #[.map (some b1),.map (some b2)]->zj w' gp 200 #[.int .i64 (p.1:Int),.int .i64 (p.2:Int)]->zj w' (gp+1) 204 #[.int .i64 o.v,.int .i64 o.t,.int .i64 o.edge,.int .i64 o.depart,.bool o.hops]->wW tb b1 b2 gp p o w':=λw' h1 h2 h3=>
  ⟨by rw[h1.cell];rfl,by rw[h1.cell];rfl,by rw[h2.cell];rfl,by rw[h2.cell];rfl,by rw[h3.cell];rfl,by rw[h3.cell];rfl,by rw[h3.cell];rfl,by rw[h3.cell];rfl,by rw[h3.cell];rfl⟩
 have q:=zc o0;clear o0;obtain⟨S,C⟩:∃S:World->Prop,Hid (S=wW tb b1 b2 gp p o):=⟨_,zc rfl⟩;rw[<-C.out]at q
 cases ub
 case false=>
  clear F0;go_wp2_with fail
  go_quiet (fail)
  go_wp2_with fail;have Y:=HT.drewN nq;have W:=BP.drewN nq;have V:=BO.drewN nq;have P:=HB.drewN nq;have l:=HO.drewN nq;have D:∀g t U,zj w g t U->zj (wa.drewN nq).drew g t U:=λg t U h=>(E0 g t U h).drewN nq;have a:∀k (u:World),k<=w.heap.size->Below k u w->Below k u (wa.drewN nq).drew:=λk u hk h=>zi (zo (D0 k u hk h) nq);have y:w.heap.size<=(wa.drewN nq).drew.heap.size:=i0
  obtain⟨v0,I1,wb,e0,Q,R0⟩:=(zN.drew P).entry Tryz.underlying195 nf V0 hp;have E1:=q.out _ Y.drew W.drew V.drew;have C0:=Y.drew.turned Q (zN.noBlk P Y);have A0:=W.drew.turned Q (zN.noBlk P W);have z:=V.drew.turned Q (zN.noBlk P V);have K0:=(zN.drew l).grown Q.grown (by simpa using x.symm);have b0:=q.out _ C0 A0 z;obtain⟨wc,f0,N0,R⟩:=R0 wb m rfl
  have r:=C0.turned R (zN.noBlk P Y);have f:=A0.turned R (zN.noBlk P W);have d:=z.turned R (zN.noBlk P V);have X:=K0.grown R.grown (by simpa using x.symm);have c0:=q.out _ r f d;obtain⟨v1,J1,wd,g0,T,S0⟩:=X.entry Tryz.underlying196 Zi V0 hp;have L0:=r.turned T (zN.noBlk X r);have I0:=f.turned T (zN.noBlk X f)
  have H0:=d.turned T (zN.noBlk X d);have O0:=N0.grown T.grown (by simpa using x);have d0:=q.out _ L0 I0 H0;obtain⟨we,h0,Q0,s⟩:=S0 wd o rfl;have P0:=O0.grown s.grown (by simpa using x);have J0:Hid (eh tb b1 b2 n B O p m o w we):=zc ⟨by rw[j.out.1];exact P0,by rw[j.out.2];exact Q0,
   λg t U h=>(((((D g t U h).turned Q (zN.noBlk P (D g t U h))).turned R (zN.noBlk P (D g t U h))).turned T (zN.noBlk l (D g t U h))).turned s (zN.noBlk l (D g t U h))),
   λk u h1 h2 h3 h4=>by
    have s0:k<=(wa.drewN nq).drew.heap.size:=Nat.le_trans h4 y;have k1:=wE (a k u h4 h1) Q s0 h2;have s1:k<=wb.heap.size:=Nat.le_trans s0 Q.grown.size;have k2:=wE k1 R s1 h2;have s2:k<=wc.heap.size:=Nat.le_trans s1 R.grown.size;have k3:=wE k2 T s2 h3;exact wE k3 s (Nat.le_trans s2 T.grown.size) h3⟩
  clear Y W V P l D a y C0 A0 z K0 r f d X L0 I0 H0 O0 P0 Q0 N0 Q R T s R0 S0 j b t1 t2 t3 p1 p2 p3 o1 o2 o3;refine zV.begin (S:=S) 17 (by kernel_rfl) ?_;refine tN 0 ?_ ?_ ?_;rotate_left
  ·intro w A;rw[C.out]at A;unfold wW at A;obtain⟨E,F,G,H,I,J,L,M,N⟩:=A;go_simp;try with_reducible rfl
  simp only[pS];refine tN 1 ?_ ?_ ?_;rotate_left
  ·intro w A;rw[C.out]at A;unfold wW at A;obtain⟨E,F,G,H,I,J,L,M,N⟩:=A;go_simp;try with_reducible rfl
  simp only[pS];refine tN 2 ?_ ?_ ?_;rotate_left
  ·intro w A;rw[C.out]at A;unfold wW at A;obtain⟨E,F,G,H,I,J,L,M,N⟩:=A;go_simp;try with_reducible rfl
  simp only[pS];refine tN 3 ?_ ?_ ?_;rotate_left
  ·intro w A;rw[C.out]at A;unfold wW at A;obtain⟨E,F,G,H,I,J,L,M,N⟩:=A;go_simp;try with_reducible rfl
  simp only[pS];refine tN 4 ?_ ?_ ?_;rotate_left
  ·intro w A;rw[C.out]at A;unfold wW at A;obtain⟨E,F,G,H,I,J,L,M,N⟩:=A;go_simp;try with_reducible rfl
  simp only[pS];refine tN 5 ?_ ?_ ?_;rotate_left
  ·intro w A;rw[C.out]at A;unfold wW at A;obtain⟨E,F,G,H,I,J,L,M,N⟩:=A;go_simp;try with_reducible rfl
  simp only[pS];refine tN 6 ?_ ?_ ?_;rotate_left
  ·intro w A;rw[C.out]at A;unfold wW at A;obtain⟨E,F,G,H,I,J,L,M,N⟩:=A;go_simp;try with_reducible rfl
  simp only[pS];refine tN 7 ?_ ?_ ?_;rotate_left
  ·intro w A;rw[C.out]at A;unfold wW at A;obtain⟨E,F,G,H,I,J,L,M,N⟩:=A;go_simp;try with_reducible rfl
  simp only[pS];refine tN 8 ?_ ?_ ?_;rotate_left
  ·intro w A;rw[C.out]at A;unfold wW at A;obtain⟨E,F,G,H,I,J,L,M,N⟩:=A;go_simp;try with_reducible rfl
  simp only[pS];refine tN 9 ?_ ?_ ?_;rotate_left
  ·intro w A;rw[C.out]at A;unfold wW at A;obtain⟨E,F,G,H,I,J,L,M,N⟩:=A;go_simp;try with_reducible rfl
  simp only[pS];refine tN 10 ?_ ?_ ?_;rotate_left
  ·intro w A;rw[C.out]at A;unfold wW at A;obtain⟨E,F,G,H,I,J,L,M,N⟩:=A;go_simp;try with_reducible rfl
  simp only[pS];refine tN 11 ?_ ?_ ?_;rotate_left
  ·intro w A;rw[C.out]at A;unfold wW at A;obtain⟨E,F,G,H,I,J,L,M,N⟩:=A;go_simp;try with_reducible rfl
  simp only[pS];refine zV.one (i:=12) rfl (by kernel_rfl) λK Z=>?_;refine pQ (.tmp 29) (.tmp 30) 195 rfl rfl rfl e0 ?_;refine Z.out _ _ ⟨λ_=>b0,?_⟩;clear Z K
  try simp only[Act.put,List.setIfInBounds_toArray]
  refine tN 13 ?_ ?_ ?_;rotate_left
  ·intro w A;rw[C.out]at A;unfold wW at A;obtain⟨E,F,G,H,I,J,L,M,N⟩:=A;go_simp;try with_reducible rfl
  simp only[Act.put];refine zV.one (i:=14) rfl (by kernel_rfl) λK Z=>?_;refine rE (.tmp 29) (.tmp 39) (.tmp 36) 195 rfl rfl rfl rfl f0 ?_;refine Z.out _ _ ⟨λ_=>c0,?_⟩;clear Z K
  try simp only[Act.put]
  refine zV.one (i:=15) rfl (by kernel_rfl) λK Z=>?_;refine pQ (.tmp 34) (.tmp 35) 196 rfl rfl rfl g0 ?_;refine Z.out _ _ ⟨λ_=>d0,?_⟩;clear Z K
  try simp only[Act.put]
  refine tN 16 ?_ ?_ ?_;rotate_left
  ·intro w A;rw[C.out]at A;unfold wW at A;obtain⟨E,F,G,H,I,J,L,M,N⟩:=A;go_simp;try with_reducible rfl
  simp only[Act.put];refine zV.one (i:=17) rfl (by kernel_rfl) λK Z=>?_;refine rE (.tmp 34) (.tmp 41) (.tmp 37) 196 rfl rfl rfl rfl h0 ?_;refine Z.out _ _ ⟨λh=>by omega,?_⟩;clear Z K;refine zV.done (by kernel_rfl) ?_ _;go_wp2_with fail;refine⟨rfl,.tuple #[],by simp[results,Tryz.results153],?_⟩;exact⟨rfl,J0.out⟩
 case true=>
  have hd:=F0 rfl;clear F0;go_wp2_with fail
  go_quiet (fail)
  go_wp2_with fail;have Y:=HT.drewN nq;have W:=BP.drewN nq;have V:=BO.drewN nq;have P:=HB.drewN nq;have l:=HO.drewN nq;have D:∀g t U,zj w g t U->zj (wa.drewN nq).drew g t U:=λg t U h=>(E0 g t U h).drewN nq;have a:∀k (u:World),k<=w.heap.size->Below k u w->Below k u (wa.drewN nq).drew:=λk u hk h=>zi (zo (D0 k u hk h) nq);have y:w.heap.size<=(wa.drewN nq).drew.heap.size:=i0
  obtain⟨v0,I1,wb,e0,Q,R0⟩:=(zN.drew P).entry Tryz.underlying195 nf V0 hp;have E1:=q.out _ Y.drew W.drew V.drew;have C0:=Y.drew.turned Q (zN.noBlk P Y);have A0:=W.drew.turned Q (zN.noBlk P W);have z:=V.drew.turned Q (zN.noBlk P V);have K0:=(zN.drew l).grown Q.grown (by simpa using x.symm);have b0:=q.out _ C0 A0 z;obtain⟨wc,f0,N0,R⟩:=R0 wb m rfl
  have r:=C0.turned R (zN.noBlk P Y);have f:=A0.turned R (zN.noBlk P W);have d:=z.turned R (zN.noBlk P V);have X:=K0.grown R.grown (by simpa using x.symm);have c0:=q.out _ r f d;obtain⟨v1,J1,wd,g0,T,S0⟩:=X.entry Tryz.underlying196 Zi V0 hp;have L0:=r.turned T (zN.noBlk X r);have I0:=f.turned T (zN.noBlk X f)
  have H0:=d.turned T (zN.noBlk X d);have O0:=N0.grown T.grown (by simpa using x);have d0:=q.out _ L0 I0 H0;obtain⟨we,h0,Q0,s⟩:=S0 wd o rfl;have P0:=O0.grown s.grown (by simpa using x);have J0:Hid (eh tb b1 b2 n B O p m o w we):=zc ⟨by rw[j.out.1];exact P0,by rw[j.out.2];exact Q0,
   λg t U h=>(((((D g t U h).turned Q (zN.noBlk P (D g t U h))).turned R (zN.noBlk P (D g t U h))).turned T (zN.noBlk l (D g t U h))).turned s (zN.noBlk l (D g t U h))),
   λk u h1 h2 h3 h4=>by
    have s0:k<=(wa.drewN nq).drew.heap.size:=Nat.le_trans h4 y;have k1:=wE (a k u h4 h1) Q s0 h2;have s1:k<=wb.heap.size:=Nat.le_trans s0 Q.grown.size;have k2:=wE k1 R s1 h2;have s2:k<=wc.heap.size:=Nat.le_trans s1 R.grown.size;have k3:=wE k2 T s2 h3;exact wE k3 s (Nat.le_trans s2 T.grown.size) h3⟩
  clear Y W V P l D a y C0 A0 z K0 r f d X L0 I0 H0 O0 P0 Q0 N0 Q R T s R0 S0 j b t1 t2 t3 p1 p2 p3 o1 o2 o3;refine zV.begin (S:=S) 17 (by kernel_rfl) ?_;refine tN 0 ?_ ?_ ?_;rotate_left
  ·intro w A;rw[C.out]at A;unfold wW at A;obtain⟨E,F,G,H,I,J,L,M,N⟩:=A;go_simp;try with_reducible rfl
  simp only[pS];refine tN 1 ?_ ?_ ?_;rotate_left
  ·intro w A;rw[C.out]at A;unfold wW at A;obtain⟨E,F,G,H,I,J,L,M,N⟩:=A;go_simp;try with_reducible rfl
  simp only[pS];refine tN 2 ?_ ?_ ?_;rotate_left
  ·intro w A;rw[C.out]at A;unfold wW at A;obtain⟨E,F,G,H,I,J,L,M,N⟩:=A;go_simp;try with_reducible rfl
  simp only[pS];refine tN 3 ?_ ?_ ?_;rotate_left
  ·intro w A;rw[C.out]at A;unfold wW at A;obtain⟨E,F,G,H,I,J,L,M,N⟩:=A;go_simp;try with_reducible rfl
  simp only[pS];refine tN 4 ?_ ?_ ?_;rotate_left
  ·intro w A;rw[C.out]at A;unfold wW at A;obtain⟨E,F,G,H,I,J,L,M,N⟩:=A;go_simp;try with_reducible rfl
  simp only[pS];refine tN 5 ?_ ?_ ?_;rotate_left
  ·intro w A;rw[C.out]at A;unfold wW at A;obtain⟨E,F,G,H,I,J,L,M,N⟩:=A;go_simp;try with_reducible rfl
  simp only[pS];refine tN 6 ?_ ?_ ?_;rotate_left
  ·intro w A;rw[C.out]at A;unfold wW at A;obtain⟨E,F,G,H,I,J,L,M,N⟩:=A;go_simp;try with_reducible rfl
  simp only[pS];refine tN 7 ?_ ?_ ?_;rotate_left
  ·intro w A;rw[C.out]at A;unfold wW at A;obtain⟨E,F,G,H,I,J,L,M,N⟩:=A;go_simp;try with_reducible rfl
  simp only[pS];refine tN 8 ?_ ?_ ?_;rotate_left
  ·intro w A;rw[C.out]at A;unfold wW at A;obtain⟨E,F,G,H,I,J,L,M,N⟩:=A;go_simp;try with_reducible rfl
  simp only[pS];refine tN 9 ?_ ?_ ?_;rotate_left
  ·intro w A;rw[C.out]at A;unfold wW at A;obtain⟨E,F,G,H,I,J,L,M,N⟩:=A;go_simp;try with_reducible rfl
  simp only[pS];refine tN 10 ?_ ?_ ?_;rotate_left
  ·intro w A;rw[C.out]at A;unfold wW at A;obtain⟨E,F,G,H,I,J,L,M,N⟩:=A;go_simp;try with_reducible rfl
  simp only[pS];refine tN 11 ?_ ?_ ?_;rotate_left
  ·intro w A;rw[C.out]at A;unfold wW at A;obtain⟨E,F,G,H,I,J,L,M,N⟩:=A;go_simp;try with_reducible rfl
  simp only[pS];refine zV.one (i:=12) rfl (by kernel_rfl) λK Z=>?_;refine pQ (.tmp 29) (.tmp 30) 195 rfl rfl rfl e0 ?_;refine Z.out _ _ ⟨λ_=>b0,?_⟩;clear Z K
  try simp only[Act.put,List.setIfInBounds_toArray]
  refine tN 13 ?_ ?_ ?_;rotate_left
  ·intro w A;rw[C.out]at A;unfold wW at A;obtain⟨E,F,G,H,I,J,L,M,N⟩:=A;go_simp;try with_reducible rfl
  simp only[Act.put];refine zV.one (i:=14) rfl (by kernel_rfl) λK Z=>?_;refine rE (.tmp 29) (.tmp 39) (.tmp 36) 195 rfl rfl rfl rfl f0 ?_;refine Z.out _ _ ⟨λ_=>c0,?_⟩;clear Z K
  try simp only[Act.put]
  refine zV.one (i:=15) rfl (by kernel_rfl) λK Z=>?_;refine pQ (.tmp 34) (.tmp 35) 196 rfl rfl rfl g0 ?_;refine Z.out _ _ ⟨λ_=>d0,?_⟩;clear Z K
  try simp only[Act.put]
  refine tN 16 ?_ ?_ ?_;rotate_left
  ·intro w A;rw[C.out]at A;unfold wW at A;obtain⟨E,F,G,H,I,J,L,M,N⟩:=A;go_simp;try with_reducible rfl
  simp only[Act.put];refine zV.one (i:=17) rfl (by kernel_rfl) λK Z=>?_;refine rE (.tmp 34) (.tmp 41) (.tmp 37) 196 rfl rfl rfl rfl h0 ?_;refine Z.out _ _ ⟨λh=>by omega,?_⟩;clear Z K;refine zV.done (by kernel_rfl) ?_ _;go_wp2_with fail;refine⟨rfl,.tuple #[],by simp[results,Tryz.results153],?_⟩;exact⟨rfl,J0.out⟩
section
variable {g:zf}{wt:zR->Int}{v s:Int}{t u i:Nat}{B:qI Int}{O:qI tB}
theorem zQ.putWait(h:zQ g wt v s t u false 0 B O){m:Int}(A:B (u,t)=some m)(E:u<g.lives.length)(h1:(t:Int)+1<g.h)(D:zn g u ((t:Int)+1)=true) :
  zQ g wt v s t u true 0 (yS B B (u,t+1) m m) (yS B O (u,t+1) m ⟨u,t,0,0,false⟩)/\yS B B (u,t+1) m m (u,t)=some m:=by
 obtain⟨_,_,_,_,I,J⟩:=h.told _ _ A;obtain⟨F,G,H⟩:=h.put A (p:=(u,t+1)) (n:=m) (f:=λn=>n) (.inl ⟨u,t,rfl,E,h1,D⟩) rfl E (by simp only;omega) (by simp only;omega) (by simpa using D) I (by simp only at J⊢;omega) (o:=⟨u,t,0,0,false⟩)
  (.inl ⟨rfl,rfl,by simp,by simp,rfl,rfl,by simpa using A⟩) (by simp)
 have C:=H (u,t) (Nat.le_refl _);refine⟨F.wait λ_ _=>?_,by rw[C];exact A⟩;rw[qx (show yS B B (u,t+1) m m (u,t)=some m by rw[C];exact A)];exact G
theorem zQ.putEdge(L:zx g)(S:py g wt)(h:zQ g wt v s t u true i B O){m:Int}(D:B (u,t)=some m){x:zA}(G:g.edges[i]?=some x)(H:x.a=u){l:zR}{to:Int}(A:zF g x t=some (l,to)) :
  zQ g wt v s t u true (i+1) (yS B B (x.b.toNat,to.toNat) (m+wt l) (m+wt l)) (yS B O (x.b.toNat,to.toNat) (m+wt l) ⟨u,t,i,t,true⟩)/\yS B B (x.b.toNat,to.toNat) (m+wt l) (m+wt l) (u,t)=some m:=by
 obtain⟨_,_,_,_,X,U⟩:=h.told _ _ D;have C:=List.mem_of_getElem? G;have F:=L.edges x C;have b0:=F.b0;have b1:=F.b1;have W:=zT L F A;have M:=yh A;have T:=S x C l M.1;have N:u=x.a.toNat:=by omega
 have J:((x.b.toNat:Nat):Int)=x.b:=by omega
 have K:((to.toNat:Nat):Int)=to:=by omega
 obtain⟨P,Q,R⟩:=h.put D (p:=(x.b.toNat,to.toNat)) (n:=m+wt l) (f:=λn=>n+wt l) (.inr ⟨x,l,to,t,C,A,by rw[<-N]⟩) rfl (by simp only;omega) (by simp only;omega) (by simp only;omega) (by simp only[J,K];exact M.2.2.2.2.2.2) (by omega) (by simp only at U⊢;omega) (o:=⟨u,t,i,t,true⟩)
  (.inr ⟨rfl,i,x,l,m,rfl,G,H.symm,J.symm,rfl,by simp,by simp only[K];exact A,by rw[<-N];simpa using D,rfl⟩) (by simp)
 have I:=R (u,t) (Nat.le_refl _);refine⟨P.edge G λ_ Y V E=>?_,by rw[I];exact D⟩;rw[A]at E;simp only[Option.some.injEq,Prod.mk.injEq]at E;obtain⟨rfl,rfl⟩:=E;rw[qx (show yS B B (x.b.toNat,to.toNat) (m+wt l) (m+wt l) (u,t)=some m by rw[I];exact D)];exact Q
theorem zQ.small{D:Bool}(A:zx g)(h:zQ g wt v s t u D i B O){p:Nat×Nat}{m:Int}(C:B p=some m):0<=m/\m<=100000:=by
 obtain⟨_,_,k,_,E,F⟩:=h.told _ _ C;have:=A.h1;omega
end
structure tZ(g0 tb b1 b2 n:Nat)(gc:Array Value)(w0:World)(B:qI Int)(O:qI tB)(w:World):Prop where
 tab:zj w tb 198 #[.map (some b1),.map (some b2)]
 best:zN TT w b1 n B
 orig:zN XT w b2 n O
 gr:zj w g0 68 gc
 bel:Below w0.heap.size w0 w
section
variable {g0 tb b1 b2 n:Nat}{gc:Array Value}{w0 w w':World}{B:qI Int}{O:qI tB}
theorem tZ.alloc(h:tZ g0 tb b1 b2 n gc w0 B O w)(o:Obj):tZ g0 tb b1 b2 n gc w0 B O (w.alloc o):=⟨h.tab.alloc o,h.best.alloc o,h.orig.alloc o,h.gr.alloc o,ze h.bel o⟩
theorem tZ.mono(h:tZ g0 tb b1 b2 n gc w0 B O w){m:Nat}(hn:n<=m):tZ g0 tb b1 b2 m gc w0 B O w:=⟨h.tab,h.best.mono hn,h.orig.mono hn,h.gr,h.bel⟩
theorem zN.ext{α:Type}{enc:α->Value}{b:Nat}{F:qI α}(h:zN enc w b n F)(hb:Below w.heap.size w w'):zN enc w' b n F:=h.heap (hb.block b h.lt)
theorem tZ.ext(h:tZ g0 tb b1 b2 n gc w0 B O w)(hb:Below w.heap.size w w'):tZ g0 tb b1 b2 n gc w0 B O w':=⟨h.tab.ext hb,h.best.ext hb,h.orig.ext hb,h.gr.ext hb,za h.bel hb⟩
theorem tZ.turned(h:tZ g0 tb b1 b2 n gc w0 B O w)(hT:w.mapTurned w' b1){m:Nat}{B':qI Int}(hB:zN TT w' b1 m B')(hn:n<=m)(hne:b1≠b2)(h1:w0.heap.size<=b1):tZ g0 tb b1 b2 m gc w0 B' O w':=
 ⟨h.tab.turned hT (zN.noBlk h.best h.tab),hB,(h.orig.mono hn).grown hT.grown (by simpa using hne.symm),h.gr.turned hT (zN.noBlk h.best h.gr),wE h.bel hT h.bel.size h1⟩
theorem tZ.made{gc:Array Value}(w:World):tZ w.heap.size (w.heap.size+1+1+1) (w.heap.size+1) (w.heap.size+1+1) 0 gc w (λ_=>none) (λ_=>none)
  ((((w.alloc (Obj.cells gc 68)).alloc (Obj.map #[] 0)).alloc (Obj.map #[] 0)).alloc (Obj.cells #[.map (some (w.heap.size+1)),.map (some (w.heap.size+1+1))] 198)):=by
 refine⟨zj.new_ (by simp),?_,?_,(((zj.new w 68 gc).alloc _).alloc _).alloc _,by go_grown⟩
 ·have:=zN.made TT (w.alloc (Obj.cells gc 68))
  rw[show(w.alloc (Obj.cells gc 68)).heap.size=w.heap.size+1 by simp]at this;exact(this.alloc _).alloc _
 have:=zN.made XT ((w.alloc (Obj.cells gc 68)).alloc (Obj.map #[] 0));rw[show((w.alloc (Obj.cells gc 68)).alloc (Obj.map #[] 0)).heap.size=w.heap.size+1+1 by simp]at this;exact this.alloc _
theorem tZ.less(h:tZ g0 tb b1 b2 n gc w0 B O w)(h1:w0.heap.size<=b1)(h2:w0.heap.size<=b2){p:Nat×Nat}{m:Int}{o:tB}(hL:eh tb b1 b2 n B O p m o w w'):tZ g0 tb b1 b2 (n+1) gc w0 (yS B B p m m) (yS B O p m o) w':=
 ⟨hL.blks _ _ _ h.tab,hL.best,hL.orig,hL.blks _ _ _ h.gr,hL.below _ _ h.bel h1 h2 h.bel.size⟩
theorem tZ.less_any(h:tZ g0 tb b1 b2 n gc w0 B O w)(h1:w0.heap.size<=b1)(E:w0.heap.size<=b2)(A:b1≠b2)(G:n<1000000){p:Nat×Nat}{m:Int}{o:tB}(H:Yw p)(F:m<zq){kx kt:Int}(J:kx=(p.1:Int))(I:kt=(p.2:Int)) :
  Calls Tryz.prog 153 #[.pointer (some ⟨tb,0,none⟩),.agg #[.int .i64 kx,.int .i64 kt],.int .i64 m,.agg #[.int .i64 o.v,.int .i64 o.t,.int .i64 o.edge,.int .i64 o.depart,.bool o.hops]] w
   (λe C=>e=.returned (.tuple #[])/\tZ g0 tb b1 b2 (n+1) gc w0 (yS B B p m m) (yS B O p m o) C/\∀g t D,zj w g t D->zj C g t D):=by
 subst J I;exact(YtjcimdpldlamfaaGreatDoor.less_any tb b1 b2 n B O p m o w h.tab h.best h.orig A H G F).mono λe C ⟨he,hL⟩=>⟨he,h.less h1 E hL,hL.blks⟩
theorem tZ.look(h:tZ g0 tb b1 b2 n gc w0 B O w){p:Nat×Nat}(A:Yw p){kx kt:Int}(D:kx=(p.1:Int))(C:kt=(p.2:Int)) :
  (Instr.lookup 195 (.map (some b1)) (.agg #[.int .i64 kx,.int .i64 kt]) true).run Tryz.prog w=.ok (.tuple #[((B p).map TT).getD (.int .i64 0),.bool (B p).isSome]) w:=by
 subst D C;exact h.best.look Tryz.underlying195 (nf w) A
end
def yl(s:ByteArray)(k:Nat):Nat:=if h:k<s.size then s[k].toNat else 0
theorem rf{s:ByteArray}{k:Nat}(h:k<s.size):yl s k=s[k].toNat:=by simp[yl,h]
theorem lF(s:ByteArray)(k:Nat):yl s k<256:=by
 unfold yl
 split
 ·exact UInt8.toNat_lt _
 omega
def QB(l:zw):List Int:=[l.f,l.t]
def PI(l:zR):List Int:=[l.f,l.t,l.time,l.cost]
def RW(x:zA):List Int:=[x.a,x.b,(x.legs.length:Int)]++x.legs.flatMap PI
def Nb(g:zf):List Int:=[g.h,(g.lives.length:Int),(g.edges.length:Int)]++(g.lives.flatMap QB++g.edges.flatMap RW)
def sJ(l:List Int):List Int:=l.flatMap λn=>[n / 256,n % 256]
theorem Xr{i:Option TypeInfo}{v:Value}{a b:Nat}(h:i.map (λi=>(i.zero,i.size,i.bytes))=some (some v,a,b)):∃A,i=some A/\A.zero=some v/\A.size=a/\A.bytes=b:=by
 cases i with
 |none=>simp at h
 |some A=>simp at h;exact⟨A,rfl,h⟩
def vi(n:Int):List Value:=[.int .i64 n]
theorem rl{a:Int}:∀u∈(#[.int .i64 a]:Array Value).toList,u.oneCell'=true:=by simp[Value.oneCell']
theorem lX{w:World}{base:Nat}{v:Value}{l:List Int}(h:Own vi 1 w base 3 v l)(hi:∀x,x∈l->zM x):∃A c,v=.slice A l.length c/\zU ra 1 w A l:=
 h.slAt (λ_=>rfl) λx hx b o hc=>⟨by simpa using hc 0 _ rfl,hi x hx⟩
structure gZ(g:zf)(v u k b a:Int):Prop where
 a0:0<=a
 a1:a<k
 b0:0<=b
 b1:b<=100
 here:∃l,yv g v a l/\gi l u.toNat=a+b
 least:∀t l,0<=t->t<k->yv g v t l->b<=gi l u.toNat-t/\(gi l u.toNat-t=b->a<=t)
def Rr(g:zf)(v u k:Int):Prop:=∀t l,0<=t->t<k->yv g v t l->gi l u.toNat=zq
def sa(g:zf)(v u k b a:Int):Prop:=(b=zq/\a=0/\Rr g v u k)∨gZ g v u k b a
section
variable {g:zf}{v u k b a x:Int}{l:List Int}
theorem sa.start:sa g v u 0 zq 0:=.inl ⟨rfl,rfl,λt l h0 h1=>by omega⟩
theorem sa.skip(h:sa g v u k b a)(I:0<=k/\k<=100)(C:yv g v k l)(D:gi l u.toNat=zq):sa g v u (k+1) b a:=by
 rcases h with⟨E,F,G⟩|h
 ·refine .inl ⟨E,F,λt r B H A=>?_⟩
  by_cases e:t=k
  ·rw[e]at A;rw[A.eq C];exact D
  exact G t r B (by omega) A
 refine .inr ⟨h.a0,by have:=h.a1;omega,h.b0,h.b1,h.here,λt r B H A=>?_⟩
 by_cases e:t=k
 ·rw[e]at A;rw[A.eq C,D];have:=h.b1;simp only[zq];omega
 exact h.least t r B (by omega) A
theorem sa.stay(h:sa g v u k b a)(J:0<=k/\k<=100)(C:yv g v k l)(E:gi l u.toNat=x)(K:x<zq)(D:¬x-k<b):sa g v u (k+1) b a:=by
 rcases h with⟨F,G,H⟩|h
 ·omega
 refine .inr ⟨h.a0,by have:=h.a1;omega,h.b0,h.b1,h.here,λt r B I A=>?_⟩
 by_cases e:t=k
 ·rw[e]at A;rw[A.eq C,E];have:=h.a1;omega
 exact h.least t r B (by omega) A
theorem sa.take(F:zx g)(h:sa g v u k b a)(G:0<=k/\k<g.h)(I:0<=v/\v<g.lives.length)(P:0<=u/\u<g.lives.length)(C:yv g v k l)(D:gi l u.toNat=x)(L:x<zq)(K:x-k<b):sa g v u (k+1) (x-k) k:=by
 have O:=F.h1;have A:=C.low F (by omega) (k:=u.toNat) (by omega);have E:=C.here F ⟨I.1,I.2,G.1,G.2⟩ (k:=u.toNat) (by omega) (by rw[D];exact L);have E:=E.2.2.2.1;rw[D]at E A;refine .inr ⟨G.1,by omega,by omega,by omega,⟨l,C,by rw[D];omega⟩,λt r H N B=>?_⟩
 by_cases e:t=k
 ·rw[e]at B⊢;rw[B.eq C,D];omega
 rcases h with⟨h1,M,J⟩|h
 ·rw[J t r H (by omega) B];simp only[zq];omega
 have:=(h.least t r H (by omega) B).1;omega
end
inductive xX(g:zf)(v u:Int):Int->Int->Int->Prop
 |bad (h:¬zz g=0):xX g v u 0 0 (zz g)
 |out (h:zz g=0) (h2:¬((0<=v/\v<g.lives.length)/\0<=u/\u<g.lives.length)):xX g v u 0 0 4
 |none (h:zz g=0) (hv:0<=v/\v<g.lives.length) (hu:0<=u/\u<g.lives.length) (h2:Rr g v u g.h):xX g v u 0 0 4
 |some {b a:Int} (h:zz g=0) (hv:0<=v/\v<g.lives.length) (hu:0<=u/\u<g.lives.length) (h2:gZ g v u g.h b a):xX g v u b a 0
theorem xX.zero{g:zf}{v u d a A:Int}(h:xX g v u d a A)(h0:¬A=0):d=0/\a=0:=by
 cases h with
 |bad _=>exact⟨rfl,rfl⟩
 |out _ _=>exact⟨rfl,rfl⟩
 |none _ _ _ _=>exact⟨rfl,rfl⟩
 |some _ _ _ _=>exact absurd rfl h0
theorem xX.best{g:zf}{v u d a A:Int}(h:xX g v u d a A)(h0:A=0):zz g=0/\(0<=v/\v<g.lives.length)/\(0<=u/\u<g.lives.length)/\gZ g v u g.h d a:=by
 cases h with
 |bad h=>exact absurd h0 h
 |out _ _=>simp at h0
 |none _ _ _ _=>simp at h0
 |some h1 h2 h3 h4=>exact⟨h1,h2,h3,h4⟩
theorem xX.never{g:zf}{v u d a C t:Int}{l:List Int}(h:xX g v u d a C)(h0:¬C=0)(F:zm g v t=0)(G:0<=u/\u<g.lives.length)(E:yv g v t l):gi l u.toNat=zq:=by
 obtain⟨D,H,A,B⟩:=uR F
 cases h with
 |bad h=>exact absurd (xK D) h
 |out _ h2=>exact absurd ⟨H,G⟩ h2
 |none _ _ _ h2=>exact h2 t l A B E
 |some _ _ _ _=>exact absurd rfl h0
theorem gZ.eq{g:zf}{v u k b a C B:Int}(h:gZ g v u k b a)(A:gZ g v u k C B):b=C/\a=B:=by
 obtain⟨l,F,G⟩:=h.here;obtain⟨J,H,I⟩:=A.here;have D:=h.least B J A.a0 A.a1 H;have E:=A.least a l h.a0 h.a1 F;rw[I]at D;rw[G]at E;have e:b=C:=by omega
 refine⟨e,?_⟩;have K:=D.2 (by omega);have L:=E.2 (by omega);omega
theorem gZ.none{g:zf}{v u k b a:Int}(h:gZ g v u k b a)(D:k<=100)(A:Rr g v u k):False:=by
 obtain⟨l,B,C⟩:=h.here;have:=A a l h.a0 h.a1 B;have:=h.a1;have:=h.b1;simp only[zq]at *;omega
theorem xX.eq{g:zf}{v u d a E D C A:Int}(h:xX g v u d a E)(B:xX g v u D C A):d=D/\a=C/\E=A:=by
 cases h with
 |bad h=>
  cases B with
  |bad _=>exact⟨rfl,rfl,rfl⟩
  |out h1 _=>exact absurd h1 h
  |none h1 _ _ _=>exact absurd h1 h
  |some h1 _ _ _=>exact absurd h1 h
 |out h h2=>
  cases B with
  |bad h1=>exact absurd h h1
  |out _ _=>exact⟨rfl,rfl,rfl⟩
  |none _ _ _ _=>exact⟨rfl,rfl,rfl⟩
  |some _ hv hu _=>exact absurd ⟨hv,hu⟩ h2
 |none h hv hu h2=>
  cases B with
  |bad h1=>exact absurd h h1
  |out _ _=>exact⟨rfl,rfl,rfl⟩
  |none _ _ _ _=>exact⟨rfl,rfl,rfl⟩
  |some _ _ _ hb=>exact(hb.none (by have:=(uX h).h1;omega) h2).elim
 |some h hv hu hb=>
  cases B with
  |bad h1=>exact absurd h h1
  |out _ h3=>exact absurd ⟨hv,hu⟩ h3
  |none _ _ _ h2=>exact(hb.none (by have:=(uX h).h1;omega) h2).elim
  |some _ _ _ hb'=>
   obtain⟨F,G⟩:=hb.eq hb';exact⟨F,G,rfl⟩
end Go.Proofs.YtjcimdpldlamfaaGreatDoor
