import Derived.Test.YtjcimdpldlamfaaGreatDoorBd413311eb0e
namespace Go.Proofs.YtjcimdpldlamfaaGreatDoor
set_option maxRecDepth 100000
set_option maxHeartbeats 4000000
open Go.RowKit
theorem cC(s:zH):zM (zW s):=by
 unfold zW
 repeat (first|split|exact zt (by decide) (by decide))
theorem PE(E F f:Option Addr)(cs G Q L:Nat)(s:zH)(n:List Int)(w:World)(R:wY w E cs F G s)(m:zI w f Q n)(r:n.length=2)(W:L<w.heap.size/\w.cell? ⟨L,0,none⟩=some (.slice f n.length Q)) :
  Calls Tryz.prog 53 #[sx E cs F G s,.pointer (some ⟨L,0,none⟩)] w (tQ (xu s gS (rG n 1)) (yk s (rG n 1)) w):=by
 obtain⟨x,y,rfl⟩:=vI r;obtain⟨b,o,rfl,V,x0,v⟩:=m.two;have T:=zc R;have g:Hid (w.cell? ⟨b,o+1,none⟩=some (.int .i64 y)/\w.cell? ⟨L,0,none⟩=some (.slice (some ⟨b,o,none⟩) 2 Q)):=zc ⟨v,W.2⟩;have X:=W.1;clear R m r W x0 v
 go_enter Tryz.func53,Tryz.ntmps53
 go_wp2_with fail;have S:=zj.new w 86 #[.slice E s.alive.length cs,.slice F s.arcs.length G];have C:=ze (Ae w.heap.size w) (Obj.cells #[.slice E s.alive.length cs,.slice F s.arcs.length G] 86);change Code.wp _ _ _ _ (w.alloc (Obj.cells #[.slice E s.alive.length cs,.slice F s.arcs.length G] 86));obtain⟨D,t⟩:∃D,w.alloc (Obj.cells #[.slice E s.alive.length cs,.slice F s.arcs.length G] 86)=D:=⟨_,rfl⟩
 rw[t]at S C⊢;obtain⟨O,I⟩:∃O:World->Prop,Hid (O=λH=>H.cell? ⟨w.heap.size,0,none⟩=some (.slice E s.alive.length cs)/\H.cell? ⟨w.heap.size,1,none⟩=some (.slice F s.arcs.length G)/\H.cell? ⟨b,o+1,none⟩=some (.int .i64 y)/\H.cell? ⟨L,0,none⟩=some (.slice (some ⟨b,o,none⟩) 2 Q)):=⟨_,zc rfl⟩;have M:Hid (∀H,Below D.heap.size D H->O H):=zc λH h=>by
  have j:=S.ext h;have u:=za C h;rw[I.out];exact⟨j.cell 0,j.cell 1,(u.cell (p:=⟨b,o+1,none⟩) V).trans g.out.1,(u.cell (p:=⟨L,0,none⟩) X).trans g.out.2⟩
 have N:=zc C;have J:=zi (Ae D.heap.size D);have U:O D.drew:=M.out _ J;clear S C t;refine zB O (by kernel_rfl) ?_;refine tH 0 ?_ ?_<|tH 1 ?_ ?_<|tH 2 ?_ ?_<|tH 3 ?_ ?_ ?_
 iterate 4
  rotate_left;intro w A;rw[I.out]at A;obtain⟨Z,a,c,d⟩:=A;(try simp only[pS]);go_simp;try with_reducible rfl
 try simp only[pS]
 refine zu (i:=4) rfl (by kernel_rfl) λK k=>?_;go_wp2_with fail;refine(Qm E F cs G s y _ (T.out.ext (za N.out J))).mono ?_;rintro e w3 ⟨l,z,cl,q,rfl,R,Y,B⟩;have B:Below D.heap.size D w3:=za J B;have P:=M.out _ B;have HL:=zc q;refine k.out _ _ ⟨P,?_⟩;clear k K U q
 try simp only[pS]
 refine tH 5 ?_ ?_<|tH 6 ?_ ?_<|tH 7 ?_ ?_<|tH 8 ?_ ?_ ?_
 iterate 4
  rotate_left;intro w A;rw[I.out]at A;obtain⟨Z,a,c,d⟩:=A;(try simp only[pS]);go_simp;try with_reducible rfl
 try simp only[pS]
 refine wpAnyH_done (by kernel_rfl) ?_ _
 try simp only[pS]
 clear P;go_wp2_with fail;go_ret2;exact⟨l,z,cl,HL.out,rfl,R,Y,za N.out B⟩
theorem ZD:Enters Tryz.prog 53:=enters_of Tryz.func53 (by kernel_rfl) rfl
theorem TS(A F v:Option Addr)(c G I:Nat)(g:zf)(n:List Int)(w:World)(hG:zv w A c F G g)(hV:zx g)(a:zI w v I n)(hn:n.length=2)(ht:ITab w) :
  Calls Tryz.prog 51 #[gV A c F G g,.slice v n.length I] w λe C=>e=.returned (.string (bs (tT g n)))/\(tT g n).length<=100000/\Below w.heap.size w C:=by
 have hmf:∀(fn:Fn) (first cap:Array Value) (w:World),(Instr.makeFunc fn first cap).run Tryz.prog w=.ok (.func fn first cap) w:=λ_ _ _ _=>rfl;have HN:=zc a;obtain⟨x,y,rfl⟩:=vI hn;obtain⟨b,o,rfl,j,x0,x1⟩:=a.two;have HG:=zc hG;have HT:=zc ht;have HV:=zc hV;have HX:=zc x0;clear hG ht hV a hn x0 x1
 go_enter Tryz.func51,Tryz.ntmps51
 go_wp2_with fail;have T:=(zj.new w 68 (gC A c F G g)).alloc (Obj.cells #[.slice (some ⟨b,o,none⟩) 2 I] 55);have N:=zj.new (w.alloc (Obj.cells (gC A c F G g) 68)) 55 #[.slice (some ⟨b,o,none⟩) 2 I];rw[show(w.alloc (Obj.cells (gC A c F G g) 68)).heap.size=w.heap.size+1 by simp]at N;have B:=ze (ze (Ae w.heap.size w) (Obj.cells (gC A c F G g) 68)) (Obj.cells #[.slice (some ⟨b,o,none⟩) 2 I] 55)
 change Code.wp _ _ _ _ ((w.alloc (Obj.cells (gC A c F G g) 68)).alloc (Obj.cells #[.slice (some ⟨b,o,none⟩) 2 I] 55));obtain⟨E,hq⟩:∃E,(w.alloc (Obj.cells (gC A c F G g) 68)).alloc (Obj.cells #[.slice (some ⟨b,o,none⟩) 2 I] 55)=E:=⟨_,rfl⟩;rw[hq]at T N B⊢;obtain⟨P,L⟩:∃P:World->Prop,Hid (P=λC=>C.cell? ⟨w.heap.size,0,none⟩=some (.int .i64 g.h)/\C.cell? ⟨w.heap.size,1,none⟩=some (.slice A g.lives.length c)/\C.cell? ⟨w.heap.size,2,none⟩=some (.slice F g.edges.length G)/\C.cell? ⟨b,o,none⟩=some (.int .i64 x)/\C.cell? ⟨w.heap.size+1,0,none⟩=some (.slice (some ⟨b,o,none⟩) 2 I)):=⟨_,zc rfl⟩
 have O:Hid (∀C,Below E.heap.size E C->P C):=zc λC h=>by
  have M:=T.ext h;have Z:=N.ext h;have hw:=za B h;rw[L.out];exact⟨M.cell 0,M.cell 1,M.cell 2,(hw.cell (p:=⟨b,o,none⟩) j).trans HX.out,Z.cell 0⟩
 have X:=zc B;have U:=zc N;have D:=zi (Ae E.heap.size E);have d:P E.drew:=O.out _ D;have S:Calls Tryz.prog 52 #[gV A c F G g,.int .i64 x,.func (.func 53) #[] #[.pointer (some ⟨w.heap.size+1,0,none⟩)]] E.drew λe C=>e=.returned (.string (bs (tT g [x,y])))/\(tT g [x,y]).length<=100000/\Below E.drew.heap.size E.drew C:=by
  refine(lk 53 #[.pointer (some ⟨w.heap.size+1,0,none⟩)] (λs=>(the (xu s gS y),yk s y)) A F c G g x E.drew (HG.out.ext (za B D)) (HT.out.ext (za B D)) ZD ?_);intro W As cs Bs ds hW f;have M:=U.out.ext (za D hW);refine(PE As Bs (some ⟨b,o,none⟩) cs ds I (w.heap.size+1) (pu g x) [x,y] W f (HN.out.ext (za B (za D hW))) rfl ⟨M.lt,M.cell 0⟩).mono ?_
  rintro e C ⟨l,Al,cl,hl,rfl,hS,k,hb⟩;refine⟨l,Al,cl,⟨(iP hl).symm,?_,?_⟩,rfl,hS,k,hb⟩
  ·have h1:=WC hl
   have h2:=Zu g x HV.out;omega
  by_cases Y:zW (pu g x)=0
  ·by_cases z:0<=y/\y<(pu g x).alive.length
   ·show zM (yk (pu g x) y)
    rw[pl Y z];exact zt (by decide) (by decide)
   show zM (yk (pu g x) y);rw[sT Y z];exact zt (by decide) (by decide)
  show zM (yk (pu g x) y);rw[lu Y];exact cC _
 have V:=zc S;clear T N B hq S;refine zB P (by kernel_rfl) ?_;refine tH 0 ?_ ?_<|tH 1 ?_ ?_<|tH 2 ?_ ?_<|tH 3 ?_ ?_<|tH 4 ?_ ?_ ?_
 iterate 5
  rotate_left;intro w H;rw[L.out]at H;obtain⟨m,q,r,t,u⟩:=H;(try simp only[pS]);go_simp;try with_reducible rfl
 try simp only[pS]
 refine zu (i:=5) rfl (by kernel_rfl) λK hK=>?_;go_wp2_with fail;refine V.out.mono ?_;rintro e w3 ⟨rfl,R,J⟩;have J:Below E.heap.size E w3:=za D J;have Q:=O.out _ J;refine hK.out _ _ ⟨Q,?_⟩;clear hK K d
 try simp only[pS]
 refine tH 6 ?_ ?_ ?_;rotate_left
 ·intro w H;rw[L.out]at H;obtain⟨m,q,r,t,u⟩:=H;(try simp only[pS]);go_simp;try with_reducible rfl
 try simp only[pS]
 refine wpAnyH_done (by kernel_rfl) ?_ _
 try simp only[pS]
 clear Q;go_wp2_with fail;go_ret;exact⟨rfl,R,za X.out J⟩
theorem SK(E F f:Option Addr)(cs G Q L:Nat)(s:zH)(n:List Int)(w:World)(R:wY w E cs F G s)(m:zI w f Q n)(r:n.length=2)(W:L<w.heap.size/\w.cell? ⟨L,0,none⟩=some (.slice f n.length Q)) :
  Calls Tryz.prog 56 #[sx E cs F G s,.pointer (some ⟨L,0,none⟩)] w (tQ (xu s mq (rG n 1)) (yk s (rG n 1)) w):=by
 obtain⟨x,y,rfl⟩:=vI r;obtain⟨b,o,rfl,V,x0,v⟩:=m.two;have T:=zc R;have g:Hid (w.cell? ⟨b,o+1,none⟩=some (.int .i64 y)/\w.cell? ⟨L,0,none⟩=some (.slice (some ⟨b,o,none⟩) 2 Q)):=zc ⟨v,W.2⟩;have X:=W.1;clear R m r W x0 v
 go_enter Tryz.func56,Tryz.ntmps56
 go_wp2_with fail;have S:=zj.new w 86 #[.slice E s.alive.length cs,.slice F s.arcs.length G];have C:=ze (Ae w.heap.size w) (Obj.cells #[.slice E s.alive.length cs,.slice F s.arcs.length G] 86);change Code.wp _ _ _ _ (w.alloc (Obj.cells #[.slice E s.alive.length cs,.slice F s.arcs.length G] 86));obtain⟨D,t⟩:∃D,w.alloc (Obj.cells #[.slice E s.alive.length cs,.slice F s.arcs.length G] 86)=D:=⟨_,rfl⟩
 rw[t]at S C⊢;obtain⟨O,I⟩:∃O:World->Prop,Hid (O=λH=>H.cell? ⟨w.heap.size,0,none⟩=some (.slice E s.alive.length cs)/\H.cell? ⟨w.heap.size,1,none⟩=some (.slice F s.arcs.length G)/\H.cell? ⟨b,o+1,none⟩=some (.int .i64 y)/\H.cell? ⟨L,0,none⟩=some (.slice (some ⟨b,o,none⟩) 2 Q)):=⟨_,zc rfl⟩;have M:Hid (∀H,Below D.heap.size D H->O H):=zc λH h=>by
  have j:=S.ext h;have u:=za C h;rw[I.out];exact⟨j.cell 0,j.cell 1,(u.cell (p:=⟨b,o+1,none⟩) V).trans g.out.1,(u.cell (p:=⟨L,0,none⟩) X).trans g.out.2⟩
 have N:=zc C;have J:=zi (Ae D.heap.size D);have U:O D.drew:=M.out _ J;clear S C t;refine zB O (by kernel_rfl) ?_;refine tH 0 ?_ ?_<|tH 1 ?_ ?_<|tH 2 ?_ ?_<|tH 3 ?_ ?_ ?_
 iterate 4
  rotate_left;intro w A;rw[I.out]at A;obtain⟨Z,a,c,d⟩:=A;(try simp only[pS]);go_simp;try with_reducible rfl
 try simp only[pS]
 refine zu (i:=4) rfl (by kernel_rfl) λK k=>?_;go_wp2_with fail;refine(ce E F cs G s y _ (T.out.ext (za N.out J))).mono ?_;rintro e w3 ⟨l,z,cl,q,rfl,R,Y,B⟩;have B:Below D.heap.size D w3:=za J B;have P:=M.out _ B;have HL:=zc q;refine k.out _ _ ⟨P,?_⟩;clear k K U q
 try simp only[pS]
 refine tH 5 ?_ ?_<|tH 6 ?_ ?_<|tH 7 ?_ ?_<|tH 8 ?_ ?_ ?_
 iterate 4
  rotate_left;intro w A;rw[I.out]at A;obtain⟨Z,a,c,d⟩:=A;(try simp only[pS]);go_simp;try with_reducible rfl
 try simp only[pS]
 refine wpAnyH_done (by kernel_rfl) ?_ _
 try simp only[pS]
 clear P;go_wp2_with fail;go_ret2;exact⟨l,z,cl,HL.out,rfl,R,Y,za N.out B⟩
theorem eI:Enters Tryz.prog 56:=enters_of Tryz.func56 (by kernel_rfl) rfl
theorem XV(A F v:Option Addr)(c G I:Nat)(g:zf)(n:List Int)(w:World)(hG:zv w A c F G g)(hV:zx g)(a:zI w v I n)(hn:n.length=2)(ht:ITab w) :
  Calls Tryz.prog 55 #[gV A c F G g,.slice v n.length I] w λe C=>e=.returned (.string (bs (uj g n)))/\(uj g n).length<=100000/\Below w.heap.size w C:=by
 have hmf:∀(fn:Fn) (first cap:Array Value) (w:World),(Instr.makeFunc fn first cap).run Tryz.prog w=.ok (.func fn first cap) w:=λ_ _ _ _=>rfl;have HN:=zc a;obtain⟨x,y,rfl⟩:=vI hn;obtain⟨b,o,rfl,j,x0,x1⟩:=a.two;have HG:=zc hG;have HT:=zc ht;have HV:=zc hV;have HX:=zc x0;clear hG ht hV a hn x0 x1
 go_enter Tryz.func55,Tryz.ntmps55
 go_wp2_with fail;have T:=(zj.new w 68 (gC A c F G g)).alloc (Obj.cells #[.slice (some ⟨b,o,none⟩) 2 I] 55);have N:=zj.new (w.alloc (Obj.cells (gC A c F G g) 68)) 55 #[.slice (some ⟨b,o,none⟩) 2 I];rw[show(w.alloc (Obj.cells (gC A c F G g) 68)).heap.size=w.heap.size+1 by simp]at N;have B:=ze (ze (Ae w.heap.size w) (Obj.cells (gC A c F G g) 68)) (Obj.cells #[.slice (some ⟨b,o,none⟩) 2 I] 55)
 change Code.wp _ _ _ _ ((w.alloc (Obj.cells (gC A c F G g) 68)).alloc (Obj.cells #[.slice (some ⟨b,o,none⟩) 2 I] 55));obtain⟨E,hq⟩:∃E,(w.alloc (Obj.cells (gC A c F G g) 68)).alloc (Obj.cells #[.slice (some ⟨b,o,none⟩) 2 I] 55)=E:=⟨_,rfl⟩;rw[hq]at T N B⊢;obtain⟨P,L⟩:∃P:World->Prop,Hid (P=λC=>C.cell? ⟨w.heap.size,0,none⟩=some (.int .i64 g.h)/\C.cell? ⟨w.heap.size,1,none⟩=some (.slice A g.lives.length c)/\C.cell? ⟨w.heap.size,2,none⟩=some (.slice F g.edges.length G)/\C.cell? ⟨b,o,none⟩=some (.int .i64 x)/\C.cell? ⟨w.heap.size+1,0,none⟩=some (.slice (some ⟨b,o,none⟩) 2 I)):=⟨_,zc rfl⟩
 have O:Hid (∀C,Below E.heap.size E C->P C):=zc λC h=>by
  have M:=T.ext h;have Z:=N.ext h;have hw:=za B h;rw[L.out];exact⟨M.cell 0,M.cell 1,M.cell 2,(hw.cell (p:=⟨b,o,none⟩) j).trans HX.out,Z.cell 0⟩
 have X:=zc B;have U:=zc N;have D:=zi (Ae E.heap.size E);have d:P E.drew:=O.out _ D;have S:Calls Tryz.prog 52 #[gV A c F G g,.int .i64 x,.func (.func 56) #[] #[.pointer (some ⟨w.heap.size+1,0,none⟩)]] E.drew λe C=>e=.returned (.string (bs (uj g [x,y])))/\(uj g [x,y]).length<=100000/\Below E.drew.heap.size E.drew C:=by
  refine(lk 56 #[.pointer (some ⟨w.heap.size+1,0,none⟩)] (λs=>(the (xu s mq y),yk s y)) A F c G g x E.drew (HG.out.ext (za B D)) (HT.out.ext (za B D)) eI ?_);intro W As cs Bs ds hW f;have M:=U.out.ext (za D hW);refine(SK As Bs (some ⟨b,o,none⟩) cs ds I (w.heap.size+1) (pu g x) [x,y] W f (HN.out.ext (za B (za D hW))) rfl ⟨M.lt,M.cell 0⟩).mono ?_
  rintro e C ⟨l,Al,cl,hl,rfl,hS,k,hb⟩;refine⟨l,Al,cl,⟨(iP hl).symm,?_,?_⟩,rfl,hS,k,hb⟩
  ·have h1:=WC hl
   have h2:=Zu g x HV.out;omega
  by_cases Y:zW (pu g x)=0
  ·by_cases z:0<=y/\y<(pu g x).alive.length
   ·show zM (yk (pu g x) y)
    rw[pl Y z];exact zt (by decide) (by decide)
   show zM (yk (pu g x) y);rw[sT Y z];exact zt (by decide) (by decide)
  show zM (yk (pu g x) y);rw[lu Y];exact cC _
 have V:=zc S;clear T N B hq S;refine zB P (by kernel_rfl) ?_;refine tH 0 ?_ ?_<|tH 1 ?_ ?_<|tH 2 ?_ ?_<|tH 3 ?_ ?_<|tH 4 ?_ ?_ ?_
 iterate 5
  rotate_left;intro w H;rw[L.out]at H;obtain⟨m,q,r,t,u⟩:=H;(try simp only[pS]);go_simp;try with_reducible rfl
 try simp only[pS]
 refine zu (i:=5) rfl (by kernel_rfl) λK hK=>?_;go_wp2_with fail;refine V.out.mono ?_;rintro e w3 ⟨rfl,R,J⟩;have J:Below E.heap.size E w3:=za D J;have Q:=O.out _ J;refine hK.out _ _ ⟨Q,?_⟩;clear hK K d
 try simp only[pS]
 refine tH 6 ?_ ?_ ?_;rotate_left
 ·intro w H;rw[L.out]at H;obtain⟨m,q,r,t,u⟩:=H;(try simp only[pS]);go_simp;try with_reducible rfl
 try simp only[pS]
 refine wpAnyH_done (by kernel_rfl) ?_ _
 try simp only[pS]
 clear Q;go_wp2_with fail;go_ret;exact⟨rfl,R,za X.out J⟩
theorem OE{n:List Int}(h:n.length=1):∃x,n=[x]:=by
 match n,h with
 |[x],_=>exact⟨x,rfl⟩
theorem eH:Enters Tryz.prog 59:=enters_of Tryz.func59 (by kernel_rfl) rfl
theorem Xz(A F q:Option Addr)(c G r:Nat)(g:zf)(n:List Int)(w:World)(t:zv w A c F G g)(v:zx g)(U:zI w q r n)(z:n.length=1)(ht:ITab w) :
  Calls Tryz.prog 58 #[gV A c F G g,.slice q n.length r] w λe C=>e=.returned (.string (bs (vA g n)))/\(vA g n).length<=100000/\Below w.heap.size w C:=by
 have HN:=zc U;obtain⟨x,rfl⟩:=OE z;obtain⟨b,o,rfl,Y,m⟩:=U.get (k:=0) (x:=x) rfl;rw[Nat.add_zero]at m;have HG:=zc t;have HT:=zc ht;have HV:=zc v;have HX:=zc m;clear t ht v U z m
 go_enter Tryz.func58,Tryz.ntmps58
 go_wp2_with fail;have Q:=zj.new w 68 (gC A c F G g);have B:=ze (Ae w.heap.size w) (Obj.cells (gC A c F G g) 68);change Code.wp _ _ _ _ (w.alloc (Obj.cells (gC A c F G g) 68));obtain⟨D,hq⟩:∃D,w.alloc (Obj.cells (gC A c F G g) 68)=D:=⟨_,rfl⟩;rw[hq]at Q B⊢;obtain⟨M,J⟩:∃M:World->Prop,Hid (M=λC=>C.cell? ⟨w.heap.size,0,none⟩=some (.int .i64 g.h)/\C.cell? ⟨w.heap.size,1,none⟩=some (.slice A g.lives.length c)/\C.cell? ⟨w.heap.size,2,none⟩=some (.slice F g.edges.length G)/\C.cell? ⟨b,o,none⟩=some (.int .i64 x)):=⟨_,zc rfl⟩
 have L:Hid (∀C,Below D.heap.size D C->M C):=zc λC h=>by
  have T:=Q.ext h;have hw:=za B h;rw[J.out];exact⟨T.cell 0,T.cell 1,T.cell 2,(hw.cell (p:=⟨b,o,none⟩) Y).trans HX.out⟩
 have S:=zc B;have I:=zi (Ae D.heap.size D);have V:M D.drew:=L.out _ I;have P:Calls Tryz.prog 52 #[gV A c F G g,.int .i64 x,.func (.func 59) #[] #[]] D.drew λe C=>e=.returned (.string (bs (vA g [x])))/\(vA g [x]).length<=100000/\Below D.drew.heap.size D.drew C:=by
  refine(lk 59 #[] (λs=>(the (vc s),zW s)) A F c G g x D.drew (HG.out.ext (za B I)) (HT.out.ext (za B I)) eH ?_);intro W As cs Bs ds hW X;refine(VD As Bs cs ds (pu g x) W X).mono ?_;rintro e C ⟨l,Al,cl,y,rfl,hS,Z,hb⟩;refine⟨l,Al,cl,⟨(du y).symm,?_,cC _⟩,rfl,hS,Z,hb⟩;have h1:=VE y;have h2:=Zu g x HV.out
  omega
 have R:=zc P;clear Q B hq P;refine zB M (by kernel_rfl) ?_;refine tH 0 ?_ ?_<|tH 1 ?_ ?_<|tH 2 ?_ ?_<|tH 3 ?_ ?_ ?_
 iterate 4
  rotate_left;intro w E;rw[J.out]at E;obtain⟨a,d,f,j⟩:=E;(try simp only[pS]);go_simp;try with_reducible rfl
 try simp only[pS]
 refine zu (i:=4) rfl (by kernel_rfl) λK u=>?_;go_wp2_with fail;refine R.out.mono ?_;rintro e w3 ⟨rfl,O,H⟩;have H:Below D.heap.size D w3:=za I H;have N:=L.out _ H;refine u.out _ _ ⟨N,?_⟩;clear u K V
 try simp only[pS]
 refine tH 5 ?_ ?_ ?_;rotate_left
 ·intro w E;rw[J.out]at E;obtain⟨a,d,f,j⟩:=E;(try simp only[pS]);go_simp;try with_reducible rfl
 try simp only[pS]
 refine wpAnyH_done (by kernel_rfl) ?_ _
 try simp only[pS]
 clear N;go_wp2_with fail;go_ret;exact⟨rfl,O,za S.out H⟩
set_option maxHeartbeats 8000000
theorem VW(A:Option Addr)(c:Nat)(m:List zg)(w:World)(hA:PiecesAt w A c m)(hl:m.length<=100000)(ht:ITab w) :
  Calls Tryz.prog 107 #[.slice A m.length c] w λe H=>e=.returned (.string (bs (xe m)))/\Below w.heap.size w H:=by
 have HA:=zc hA;have HT:=zc ht;have m1:m.length<=9223372036854775807:=Ai hA.lc hA.cm;clear hA ht;obtain⟨i0,hi,v0,w0,z0⟩:=td
 go_enter Tryz.func107,Tryz.ntmps107
 go_wp2_with fail
 go_loopw [3,8] (λu v wr=>∃k:Nat,k<=m.length/\v=.int .i64 k/\Own yp 1 wr w.heap.size 9 u ((m.take k).map ux)/\Below w.heap.size w wr) (λ_ v _=>m.length-(intOf v).toNat)
 case atStart=>exact⟨0,AA _,rfl,Own.nil,Ae _ _⟩
 obtain⟨k,hk,rfl,M,Y⟩:=hrel;have Y1:=Y.size;have s:((m.take k).map ux).length+1<=1000000:=by rw[Az,AE];omega
 by_cases u0:k<m.length
 case neg=>
  obtain rfl:k=m.length:=by omega
  rw[AL]at M s;obtain⟨out,L⟩:∃out,m.map ux=out:=⟨_,rfl⟩;have V:out.length=m.length:=by rw[<-L,Az]
  rw[L]at M s;obtain⟨Ao,co,rfl,hS⟩:=vG M;have HO:=zc L
  cases m with
  |nil=>
   obtain rfl:out=[]:=by rw[<-L];rfl
   clear M L V;go_wp2_with fail;go_ret;exact⟨rfl,Y⟩
  |cons x r=>
   have X1:(((out.length:Nat):Int)== 0)=false:=by rw[V];simp;omega
   have hj:=ie Ao co out 44 wr hS (by
    have h1:=si (c:=44) (m:=65) (l:=out) λy hy=>by
     rw[<-L]at hy;obtain⟨p,hp,rfl⟩:=AD.1 hy;obtain⟨j,hj⟩:=AM hp;have h9:=HA.out.i64 hj;exact dU h9.1 h9.2.1 h9.2.2
    rw[V]at h1;omega)
   have HR:Hid (xe (x::r)=zO 44 out):=zc (by rw[<-L];unfold xe;rw[Au (by simp)]);clear M L V hS;go_wp2_with fail;refine hj.mono ?_;rintro e w2 ⟨rfl,s0⟩;clear hj;go_wp2_with fail;go_ret;exact⟨by rw[HR.out];rfl,za Y s0⟩
 obtain⟨p,hp⟩:=zl u0;obtain⟨b,H0,rfl,n,y0,y1,y2⟩:=HA.out.get hp;obtain⟨q0,q1,q2⟩:=HA.out.i64 hp;have x0:=(Y.cell (p:=⟨b,H0+k*3,none⟩) n).trans y0;have x1:=(Y.cell (p:=⟨b,H0+k*3+1,none⟩) n).trans y1;have x2:=(Y.cell (p:=⟨b,H0+k*3+2,none⟩) n).trans y2;clear y0 y1 y2;have A0:=λW (h:ITab W)=>wO p.f q0 W h;have uF:=λW (h:ITab W)=>wO p.t q1 W h;have B0:=λW (h:ITab W)=>wO p.v q2 W h
 have l0:=Lib.itoa_length_le p.f q0.1 q0.2;have l1:=Lib.itoa_length_le p.t q1.1 q1.2;have l2:=Lib.itoa_length_le p.v q2.1 q2.2;obtain⟨out,L⟩:∃out,(m.take k).map ux=out:=⟨_,rfl⟩;have C:Hid (out++[ux p]=(m.take (k+1)).map ux):=zc (by rw[<-L];exact lT hp);rw[L]at M s;have W0:ux p=Lib.itoa p.f++[45]++Lib.itoa p.t++[58]++Lib.itoa p.v:=rfl;rw[W0]at C;obtain⟨Z,E0⟩:∃Z,Lib.itoa p.f=Z:=⟨_,rfl⟩
 obtain⟨tt,F0⟩:∃tt,Lib.itoa p.t=tt:=⟨_,rfl⟩;obtain⟨tv,G0⟩:∃tv,Lib.itoa p.v=tv:=⟨_,rfl⟩;rw[E0]at l0 C;rw[F0]at l1 C;rw[G0]at l2 C;simp only[E0]at A0;simp only[F0]at uF;simp only[G0]at B0;have U0:=wl Z [45] (by simp;omega);have q:=wl (Z++[45]) tt (by simp;omega);have U:=wl (Z++[45]++tt) [58] (by simp;omega);have N:=wl (Z++[45]++tt++[58]) tv (by simp;omega)
 obtain⟨u1,X0⟩:∃u,Z++[45]=u:=⟨_,rfl⟩;rw[X0]at U0 q U N C;obtain⟨u2,Y0⟩:∃u,u1++tt=u:=⟨_,rfl⟩;rw[Y0]at q U N C;obtain⟨u3,Z0⟩:∃u,u2++[58]=u:=⟨_,rfl⟩;rw[Z0]at U N C;obtain⟨u4,a0⟩:∃u,u3++tv=u:=⟨_,rfl⟩;rw[a0]at N C;have HN:=C;have k0:=zc (HT.out.ext Y);clear hp L W0 E0 F0 G0 X0 Y0 Z0 a0 C;go_upto_region 5 with fail;have BP:=zj.new wr 113 #[.int .i64 p.f,.int .i64 p.t,.int .i64 p.v]
 have g:Below wr.heap.size wr (wr.alloc (Obj.cells #[.int .i64 p.f,.int .i64 p.t,.int .i64 p.v] 113)):=ze (Ae _ _) _;have T:=ze Y (Obj.cells #[.int .i64 p.f,.int .i64 p.t,.int .i64 p.v] 113);have M:=M.alloc (Obj.cells #[.int .i64 p.f,.int .i64 p.t,.int .i64 p.v] 113);obtain⟨D,b0⟩:∃D,wr.alloc (Obj.cells #[.int .i64 p.f,.int .i64 p.t,.int .i64 p.v] 113)=D:=⟨_,rfl⟩;obtain⟨gp,V0⟩:∃gp,wr.heap.size=gp:=⟨_,rfl⟩
 rw[b0]at BP g T M⊢;rw[V0]at BP⊢;have a:=zc (k0.out.ext g);have HO:=zc M;have L0:=zc BP;have j0:=zc T;have HZ:Hid (w.heap.size<=D.heap.size):=zc T.size;have HF:Hid (∀W,Below D.heap.size D W->Calls Tryz.prog 36 #[.int .i64 p.f] W λe H=>e=.returned (.string (bs Z))/\Below W.heap.size W H):=zc λW h=>A0 W (a.out.ext h);have m0:Hid (∀W,Below D.heap.size D W->Calls Tryz.prog 36 #[.int .i64 p.t] W λe H=>e=.returned (.string (bs tt))/\Below W.heap.size W H):=zc λW h=>uF W (a.out.ext h)
 have HV:Hid (∀W,Below D.heap.size D W->Calls Tryz.prog 36 #[.int .i64 p.v] W λe H=>e=.returned (.string (bs tv))/\Below W.heap.size W H):=zc λW h=>B0 W (a.out.ext h);obtain⟨S1,F⟩:∃S1:World->Prop,Hid (S1=λH=>H.cell? ⟨gp,0,none⟩=some (.int .i64 p.f)/\H.cell? ⟨gp,1,none⟩=some (.int .i64 p.t)/\H.cell? ⟨gp,2,none⟩=some (.int .i64 p.v)):=⟨_,zc rfl⟩;have E:Hid (∀H,Below D.heap.size D H->S1 H):=zc λH h=>by
  have d:=L0.out.ext h;rw[F.out];exact⟨d.cell 0,d.cell 1,d.cell 2⟩
 have z:=zi (Ae D.heap.size D);have o0:S1 D.drew:=E.out _ z;clear M BP T A0 uF B0 b0 V0 g x0 x1 x2;refine zB S1 (by kernel_rfl) ?_;refine tH 0 ?_ ?_<|tH 1 ?_ ?_<|tH 2 ?_ ?_<|tH 5 ?_ ?_<|tH 6 ?_ ?_<|tH 10 ?_ ?_<|tH 11 ?_ ?_ ?_
 iterate 7
  rotate_left;intro w B;rw[F.out]at B;obtain⟨O,P,Q⟩:=B;(try simp only[pS]);go_simp;try with_reducible rfl
 try simp only[pS]
 refine zu (i:=3) rfl (by kernel_rfl) λK I=>?_;go_wp2_with fail;refine(HF.out _ z).mono ?_;rintro e w3 ⟨rfl,S0⟩;have R:Below D.heap.size D w3:=za z S0;refine I.out _ _ ⟨E.out _ R,?_⟩;have p0:=E.out _ R;clear I K
 try simp only[pS]
 refine tH 4 ?_ ?_ ?_;rotate_left
 ·intro w B;rw[F.out]at B;obtain⟨O,P,Q⟩:=B;have hc:=U0 w;(try simp only[pS]);go_simp;try with_reducible rfl
 try simp only[pS]
 refine zu (i:=7) rfl (by kernel_rfl) λK I=>?_;go_wp2_with fail;refine(m0.out _ R).mono ?_;rintro e w4 ⟨rfl,T0⟩;have S:Below D.heap.size D w4:=za R T0;refine I.out _ _ ⟨E.out _ S,?_⟩;have r0:=E.out _ S;clear I K
 try simp only[pS]
 refine tH 8 ?_ ?_ ?_;rotate_left
 ·intro w B;rw[F.out]at B;obtain⟨O,P,Q⟩:=B;have hc:=q w;(try simp only[pS]);go_simp;try with_reducible rfl
 try simp only[pS]
 refine tH 9 ?_ ?_ ?_;rotate_left
 ·intro w B;rw[F.out]at B;obtain⟨O,P,Q⟩:=B;have hc:=U w;(try simp only[pS]);go_simp;try with_reducible rfl
 try simp only[pS]
 refine zu (i:=12) rfl (by kernel_rfl) λK I=>?_;go_wp2_with fail;refine(HV.out _ S).mono ?_;rintro e w5 ⟨rfl,o⟩;have J:Below D.heap.size D w5:=za S o;refine I.out _ _ ⟨E.out _ J,?_⟩;have O0:=E.out _ J;clear I K
 try simp only[pS]
 refine tH 13 ?_ ?_ ?_;rotate_left
 ·intro w B;rw[F.out]at B;obtain⟨O,P,Q⟩:=B;have hc:=N w;(try simp only[pS]);go_simp;try with_reducible rfl
 try simp only[pS]
 refine zu (i:=14) rfl (by kernel_rfl) λK I=>?_;go_wp2_with fail;have G:=ze J (Obj.cells #[.string (bs u4)] 9);refine I.out _ _ ⟨E.out _ G,?_⟩;have P0:=E.out _ G;clear I K
 try simp only[pS]
 refine zu (i:=15) rfl (by kernel_rfl) λK I=>?_;have N0:=(HO.out.ext J).alloc (Obj.cells #[.string (bs u4)] 9);refine rD (enc:=yp) (.tmp 12) (.tmp 26) 23 rfl w.heap.size 9 i0 _ 1 16 Tryz.underlying23 hi v0 w0 z0 rfl (by decide) _ out u4 rfl N0 #[.string (bs u4)] rfl w5.heap.size (zj.new _ _ _) rfl rfl uE (by unfold maxLen;omega) (by omega) (Ai HZ.out G.size) ?_
 intro v9 w9 D0 R0 C0;have Q0:Below w.heap.size D w9:=(G.mono HZ.out).trans R0;have X:S1 w9:=by
  have d:=C0 _ _ _ (L0.out.ext G) (by decide);rw[F.out];exact⟨d.cell 0,d.cell 1,d.cell 2⟩
 refine I.out _ _ ⟨X,?_⟩;clear I K P0
 try simp only[pS]
 refine tH 16 ?_ ?_ ?_;rotate_left
 ·intro w B;rw[F.out]at B;obtain⟨O,P,Q⟩:=B;(try simp only[pS]);go_simp;try with_reducible rfl
 try simp only[pS]
 refine wpAnyH_done (by kernel_rfl) ?_ _
 try simp only[pS]
 clear o0 p0 r0 O0 X N0;go_wp2_with fail;go_roundw
 case rel=>exact⟨k+1,by omega,by go_num,by rw[<-HN.out];exact D0,j0.out.trans Q0⟩
 case measure=>simp[intOf];omega
def bO(w:World)(b o:Nat)(x:yZ):Prop:=zJ w b o (sV x)
theorem bO.stable:rT bO:=λ_ _ _ _ _ hb hlt h=>zJ.ext hb hlt h
theorem SI{w:World}{base:Nat}{A:Option Addr}{c:Nat}{l:List yZ}(h:Own Wq 1 w base 111 (.slice A l.length c) l):zU bO 1 w A l:=by
 obtain⟨F,G,B,E⟩:=Own.slAt (R:=bO) (enc:=Wq) (λ_=>rfl) (λx _ b o D=>by have C:=D 0 _ rfl;show zJ w b o (sV x);simpa using C) h;simp only[Value.slice.injEq]at B;obtain⟨rfl,_⟩:=B;exact E
theorem zU.side{w C:World}{A:Option Addr}{l:List yZ}{i:Nat}{x:yZ}(h:zU bO 1 C A l)(H:l[i]?=some x)(E:Below C.heap.size C w):∃b o,A=some ⟨b,o,none⟩/\b<w.heap.size/\w.cell? ⟨b,o+i,none⟩=some (.slice x.2.1 x.1.length x.2.2):=by
 obtain⟨b,o,G⟩:=h;obtain⟨F,D,B⟩:=G i x H;unfold bO zJ at B;rw[Nat.mul_one]at B;exact⟨b,o,F,AV D E.size,(E.cell (p:=⟨b,o+i,none⟩) D).trans B⟩
def ju(w:World)(l:List yZ):Prop:=∀x,x∈l->PiecesAt w x.2.1 x.2.2 x.1
theorem tC.at_{w:World}{base:Nat}{l:List yZ}{h:Int}(hS:tC w base 113 l)(hl:∀m,m∈l.map Prod.fst->wK h m)(hh:h<=100):ju w l:=λx hx=>qw (hS.own x hx) (dA (hl _ (AD.2 ⟨x,hx,rfl⟩))) hh
theorem ju.ext{w w':World}{l:List yZ}(h:ju w l)(hb:Below w.heap.size w w'):ju w' l:=λx hx=>(h x hx).ext hb
theorem RD(A S An:Option Addr)(c T cn:Nat)(g:zf)(n:List Int)(w:World)(hG:zv w A c S T g)(hV:zx g)(hN:zI w An cn n)(hn:n.length=2)(ht:ITab w) :
  Calls Tryz.prog 60 #[gV A c S T g,.slice An n.length cn] w λe M=>e=.returned (.string (bs (rb g n)))/\(rb g n).length<=100000/\Below w.heap.size w M:=by
 obtain⟨i0,hi,e0,f0,g0⟩:=td;obtain⟨x,y,rfl⟩:=vI hn;obtain⟨b,o,rfl,C0,x0,x1⟩:=hN.two;have HG:=zc hG;have HT:=zc ht;have r:=zc hV;clear hG ht hV hN hn
 go_enter Tryz.func60,Tryz.ntmps60
 go_wp2_with fail;have BG:=zj.new w 68 (gC A c S T g);have R:=ze (Ae w.heap.size w) (Obj.cells (gC A c S T g) 68);change Code.wp _ _ _ _ (w.alloc (Obj.cells (gC A c S T g) 68));obtain⟨N,V⟩:∃N,w.alloc (Obj.cells (gC A c S T g) 68)=N:=⟨_,rfl⟩;rw[V]at BG R⊢;obtain⟨S1,O⟩:∃S1:World->Prop,Hid (S1=λM=>M.cell? ⟨w.heap.size,0,none⟩=some (.int .i64 g.h)/\M.cell? ⟨w.heap.size,1,none⟩=some (.slice A g.lives.length c)/\M.cell? ⟨w.heap.size,2,none⟩=some (.slice S g.edges.length T)/\M.cell? ⟨b,o,none⟩=some (.int .i64 x)/\M.cell? ⟨b,o+1,none⟩=some (.int .i64 y)):=⟨_,zc rfl⟩
 have HX:Hid (w.cell? ⟨b,o,none⟩=some (.int .i64 x)/\w.cell? ⟨b,o+1,none⟩=some (.int .i64 y)):=zc ⟨x0,x1⟩;have X:Hid (∀M,Below N.heap.size N M->S1 M):=zc λM h=>by
  have hB:=BG.ext h;have hw:=za R h;rw[O.out];exact⟨hB.cell 0,hB.cell 1,hB.cell 2,(hw.cell (p:=⟨b,o,none⟩) C0).trans HX.out.1,(hw.cell (p:=⟨b,o+1,none⟩) C0).trans HX.out.2⟩
 have Y:=zc R;have P:=zi (Ae N.heap.size N);have B0:S1 N.drew:=X.out _ P;clear x0 x1 BG R V;refine zB S1 (by kernel_rfl) ?_;refine tH 0 ?_ ?_<|tH 1 ?_ ?_<|tH 2 ?_ ?_<|tH 3 ?_ ?_<|tH 4 ?_ ?_<|tH 5 ?_ ?_<|tH 6 ?_ ?_ ?_
 iterate 7
  rotate_left;intro w C;rw[O.out]at C;obtain⟨H0,I0,J0,K0,L0⟩:=C;(try simp only[pS]);go_simp;try with_reducible rfl
 try simp only[pS]
 refine zu (i:=7) rfl (by kernel_rfl) λK hK=>?_;go_wp2_with fail;refine(eC A S c T g x y _ (HG.out.ext (za Y.out P))).mono ?_;rintro e W (⟨h0,rfl,B⟩|⟨h0,Ao,co,k,sides,rfl,hO,hS,HR,B⟩)
 ·have B:Below N.heap.size N W:=za P B
  have G:=X.out _ B;refine hK.out _ _ ⟨G,?_⟩;clear hK K B0
  try simp only[pS]
  refine tH 8 ?_ ?_<|tH 9 ?_ ?_<|tH 10 ?_ ?_<|tH 11 ?_ ?_<|tH 12 ?_ ?_<|tH 13 ?_ ?_<|tH 14 ?_ ?_ ?_
  iterate 7
   rotate_left;intro w C;rw[O.out]at C;obtain⟨H0,I0,J0,K0,L0⟩:=C;(try simp only[pS]);go_simp;try with_reducible rfl
  try simp only[pS]
  refine wpAnyH_done (by kernel_rfl) ?_ _
  try simp only[pS]
  clear G;have E:=za Y.out B;have E0:(zZ g x y != 0)=true:=by simp[h0]
  have D:Hid (rb g [x,y]=yO (zZ g x y)):=zc (by show(if zZ g x y=0 then _ else yO (zZ g x y))=_;rw[Au h0]);have HE:Hid (zM (zZ g x y)):=zc (by have:=iD g x y;exact zt (by omega) (by omega));obtain⟨er,hr⟩:∃er,zZ g x y=er:=⟨_,rfl⟩;rw[hr]at E0 D HE⊢;have hf:=xg er HE.out W (HT.out.ext E);clear h0 hr;go_wp2_with fail;refine hf.mono ?_
  rintro e w4 ⟨rfl,V0⟩;clear hf;go_wp2_with fail;go_ret;exact⟨by rw[D.out];rfl,by rw[D.out];exact wJ HE.out,za E V0⟩
 have B:Below N.heap.size N W:=za P B;have G:=X.out _ B;refine hK.out _ _ ⟨G,?_⟩;clear hK K B0
 try simp only[pS]
 refine tH 8 ?_ ?_<|tH 9 ?_ ?_<|tH 10 ?_ ?_<|tH 11 ?_ ?_<|tH 12 ?_ ?_<|tH 13 ?_ ?_<|tH 14 ?_ ?_ ?_
 iterate 7
  rotate_left;intro w C;rw[O.out]at C;obtain⟨H0,I0,J0,K0,L0⟩:=C;(try simp only[pS]);go_simp;try with_reducible rfl
 try simp only[pS]
 refine wpAnyH_done (by kernel_rfl) ?_ _
 try simp only[pS]
 clear G;have E:=za Y.out B;have c0:sides.length=g.lives.length:=by
  have h1:=HR.out.len
  rwa[Az]at h1
 have b0:=r.out.nl;have z0:sides.length<=12:=by omega
 have HO:=zc (SI hO);have P0:=zc (hS.at_ (h:=g.h) HR.out.lies r.out.h1);have D:Hid (rb g [x,y]=if sides.map Prod.fst=[] then cU else zO 32 ((sides.map Prod.fst).map xe)):=zc (by
  show(if zZ g x y=0 then (if Ul g x y=[] then cU else zO 32 ((Ul g x y).map xe)) else _)=_;rw[Aq h0,UY HR.out])
 have R0:Hid (∀m,m∈sides.map Prod.fst->(xe m).length<=6601):=zc λm hm=>by
  have hl:=HR.out.lies m hm;have h1:=hl.len (by have:=r.out.h0;omega);have h2:=r.out.h1;have h3:=fG (m:=m) λq V=>by
   have h4:=hl.in_ q V;have h5:=hl.map.2 q V;exact⟨zt (by omega) (by omega),zt (by omega) (by omega),zt (by omega) (by omega)⟩
  omega
 clear hO hS c0 b0 h0;have s:=zc E;go_wp2_with fail
 go_loopw [8,29] (λu z wt=>∃i:Nat,z=.int .i64 i/\i<=sides.length/\Own yp 1 wt W.heap.size 9 u (((sides.map Prod.fst).map xe).take i)/\Below W.heap.size W wt) (λ_ z _=>sides.length-(intOf z).toNat)
 case atStart=>exact⟨0,rfl,AA _,Own.nil,Ae _ _⟩
 obtain⟨i,rfl,P1,F,I⟩:=hrel;have R1:=I.size;obtain⟨out,L⟩:∃out,((sides.map Prod.fst).map xe).take i=out:=⟨_,rfl⟩;have X0:out.length+1<=1000000:=by rw[<-L,AE,Az,Az];omega
 rw[L]at F;have J:=za s.out I
 by_cases Z0:i<sides.length
 case neg=>
  obtain rfl:i=sides.length:=by omega
  rw[AJ (by rw[Az,Az];omega)]at L;obtain⟨Aw,cw,rfl,Z⟩:=vG F;have d:out.length=sides.length:=by rw[<-L,Az,Az]
  cases Q:sides with
  |nil=>
   subst Q;obtain rfl:out=[]:=by rw[<-L];rfl
   clear F L d Z;go_wp2_with fail;go_ret;exact⟨by rw[D.out];rfl,by rw[D.out];decide,J⟩
  |cons s0 sr=>
   have F0:0<sides.length:=by rw[Q];simp
   have E0:(((out.length:Nat):Int)== 0)=false:=by rw[d];exact AH.2 (by omega)
   have t:Hid ((zO 32 out).length<=100000):=zc (by
    have h1:=si (c:=32) (m:=6601) (l:=out) λq V=>by
     rw[<-L]at V;obtain⟨m,hm,rfl⟩:=AD.1 V;exact R0.out m hm
    omega)
   have hj:=ie Aw cw out 32 wr Z (by have:=t.out;omega);have v:Hid (rb g [x,y]=zO 32 out):=zc (by rw[D.out,Au (by rw[Q];simp),L]);clear F L d Z Q F0;go_wp2_with fail;refine hj.mono ?_;rintro e w5 ⟨rfl,H⟩;clear hj;go_wp2_with fail;go_ret;exact⟨by rw[v.out];rfl,by rw[v.out];exact t.out,za J H⟩
 obtain⟨z,hz⟩:=zl Z0;have a:(sides.map Prod.fst)[i]?=some z.1:=by rw[AU,hz];rfl
 obtain⟨bz,oz,rfl,lz,cz⟩:=HO.out.side hz I;have pz:=(P0.out.ext I) z (Ad hz);have D0:z.1.length<=100000:=by
  have h1:=(HR.out.lies z.1 (Ad a)).len (by have:=r.out.h0;omega);have h2:=r.out.h1;omega
 have j:=VW z.2.1 z.2.2 z.1 wr pz D0 (HT.out.ext J);have HN:Hid (out++[xe z.1]=((sides.map Prod.fst).map xe).take (i+1)):=zc (by rw[<-L,AO,AU,a];rfl);obtain⟨tz,G0⟩:∃tz,xe z.1=tz:=⟨_,rfl⟩;rw[G0]at j HN;clear hz a pz D0 L G0;go_wp2_with fail;refine j.mono ?_;rintro e w5 ⟨rfl,H⟩;have U0:=F.ext H;have U:=za I H
 have d0:W.heap.size<=w5.heap.size:=U.size;clear j F H cz;go_wp2_with (at_builtin;refine zr (enc:=yp) rfl (.tmp 33) (.tmp 36) 23 rfl W.heap.size 9 i0 _ 1 16 Tryz.underlying23 hi e0 f0 g0 rfl (by decide) _ out tz rfl U0 _ rfl w5.heap.size rfl rfl rfl uE X0 (by decide) d0 ?_;intro gn J1 w6 f W0 Q1 N1);go_roundw
 case rel=>exact⟨i+1,by go_num,by omega,by rw[<-HN.out];exact f,U.trans W0⟩
 case measure=>simp[intOf];omega
