import Derived.Test.YtjcimdpldlamfaaGreatDoorBdcff4fabb7e
import Derived.Test.YtjcimdpldlamfaaGreatDoorBd3b933c0500
namespace Go.Proofs.YtjcimdpldlamfaaGreatDoor
set_option maxRecDepth 100000
set_option maxHeartbeats 4000000
open Go.RowKit
theorem TN(A A' Ah:Option Addr)(c c' ch:Nat)(g:zf)(v t:Int)(l:List yy)(w:World)(hG:zv w A c A' c' g)(hH:zU mt 2 w Ah l)(hhl:l.length<=maxLen) :
  Calls Tryz.prog 47 #[gV A c A' c' g,.int .i64 v,.int .i64 t,.slice Ah l.length ch] w λe w'=>e=.returned (Oy (pE g v t l))/\Below w.heap.size w w':=
 Qg A A' Ah c c' ch g v t l w hG hH hhl λh0 h5 ha=>PA A A' Ah c c' ch g v t l w hG hH hhl h0 h5 ha
theorem vI{n:List Int}(h:n.length=2):∃x y,n=[x,y]:=by
 match n,h with
 |[x,y],_=>exact⟨x,y,rfl⟩
theorem zI.two{w:World}{A:Option Addr}{c:Nat}{x y:Int}(h:zI w A c [x,y]):∃b o,A=some ⟨b,o,none⟩/\b<w.heap.size/\w.cell? ⟨b,o,none⟩=some (.int .i64 x)/\w.cell? ⟨b,o+1,none⟩=some (.int .i64 y):=by
 obtain⟨b,o,rfl,B,D⟩:=h.get (k:=0) (x:=x) rfl;obtain⟨F,G,C,_,E⟩:=h.get (k:=1) (x:=y) rfl;simp only[Option.some.injEq,Addr.mk.injEq,and_true]at C;obtain⟨rfl,rfl⟩:=C;exact⟨b,o,rfl,B,by simpa using D,E⟩
theorem xZ{w:World}{A:Option Addr}{l:List Int}(h:zU ra 1 w A l)(hm:l.length<=maxLen):zI w A l.length l:=⟨Ay _,hm,h⟩
theorem Vc(A I j:Option Addr)(c J r:Nat)(g:zf)(n:List Int)(w:World)(t:zv w A c I J g)(z:zx g)(u:zI w j r n)(hn:n.length=2)(ht:ITab w) :
  Calls Tryz.prog 61 #[gV A c I J g,.slice j n.length r] w λe D=>e=.returned (.string (bs (tG g n)))/\(tG g n).length<=100000/\Below w.heap.size w D:=by
 obtain⟨x,y,rfl⟩:=vI hn;obtain⟨b,o,rfl,S,x0,x1⟩:=u.two;have HG:=zc t;have HT:=zc ht;have m:=zc z;clear t ht z u hn
 go_enter Tryz.func61,Tryz.ntmps61
 go_wp2_with fail;have Z:=zj.new w 68 (gC A c I J g);have G:=ze (Ae w.heap.size w) (Obj.cells (gC A c I J g) 68);change Code.wp _ _ _ _ (w.alloc (Obj.cells (gC A c I J g) 68));obtain⟨H,hq⟩:∃H,w.alloc (Obj.cells (gC A c I J g) 68)=H:=⟨_,rfl⟩;rw[hq]at Z G⊢;obtain⟨O,E⟩:∃O:World->Prop,Hid (O=λD=>D.cell? ⟨w.heap.size,0,none⟩=some (.int .i64 g.h)/\D.cell? ⟨w.heap.size,1,none⟩=some (.slice A g.lives.length c)/\D.cell? ⟨w.heap.size,2,none⟩=some (.slice I g.edges.length J)/\D.cell? ⟨b,o,none⟩=some (.int .i64 x)/\D.cell? ⟨b,o+1,none⟩=some (.int .i64 y)):=⟨_,zc rfl⟩
 have q:Hid (w.cell? ⟨b,o,none⟩=some (.int .i64 x)/\w.cell? ⟨b,o+1,none⟩=some (.int .i64 y)):=zc ⟨x0,x1⟩;have L:Hid (∀D,Below H.heap.size H D->O D):=zc λD h=>by
  have d:=Z.ext h;have hw:=za G h;rw[E.out];exact⟨d.cell 0,d.cell 1,d.cell 2,(hw.cell (p:=⟨b,o,none⟩) S).trans q.out.1,(hw.cell (p:=⟨b,o+1,none⟩) S).trans q.out.2⟩
 have M:=zc G;have N:=zi (Ae H.heap.size H);have f:O H.drew:=L.out _ N;clear x0 x1 Z G hq;refine zB O (by kernel_rfl) ?_;refine tH 0 ?_ ?_<|tH 1 ?_ ?_<|tH 2 ?_ ?_<|tH 3 ?_ ?_<|tH 4 ?_ ?_<|tH 5 ?_ ?_<|tH 6 ?_ ?_ ?_
 iterate 7
  rotate_left;intro w B;rw[E.out]at B;obtain⟨U,V,W,X,Y⟩:=B;(try simp only[pS]);go_simp;try with_reducible rfl
 try simp only[pS]
 refine zu (i:=7) rfl (by kernel_rfl) λK P=>?_;go_wp2_with fail;refine(jC A I c J g x y _ (HG.out.ext (za M.out N))).mono ?_;rintro e w3 ⟨l,Al,cl,hl,rfl,v,T,C⟩;have C:Below H.heap.size H w3:=za N C;have Q:=L.out _ C;have k:Hid (tq g x y l):=zc hl;have a:Hid ((yb l (zm g x y)).length<=100000):=zc (by
  have s:=rt (xZ v T).i64 (e:=zm g x y) (by have:=yo g x y;exact zt (by omega) (by omega));have h2:=UH hl;have h3:=m.out.nl;omega)
 refine P.out _ _ ⟨Q,?_⟩;clear P K f
 try simp only[pS]
 refine tH 8 ?_ ?_<|tH 9 ?_ ?_ ?_
 iterate 2
  rotate_left;intro w B;rw[E.out]at B;obtain⟨U,V,W,X,Y⟩:=B;(try simp only[pS]);go_simp;try with_reducible rfl
 try simp only[pS]
 refine zu (i:=10) rfl (by kernel_rfl) λK P=>?_;go_wp2_with fail;refine(pi Al l.length cl l (zm g x y) w3 (xZ v T) (by have:=UH k.out;have:=m.out.nl;omega) (by have:=yo g x y;exact zt (by omega) (by omega)) (HT.out.ext (za M.out C))).mono ?_;rintro e w4 ⟨rfl,F⟩;have F:=za C F;have R:=L.out _ F;refine P.out _ _ ⟨R,?_⟩
 clear P K Q
 try simp only[pS]
 refine tH 11 ?_ ?_ ?_;rotate_left
 ·intro w B;rw[E.out]at B;obtain⟨U,V,W,X,Y⟩:=B;(try simp only[pS]);go_simp;try with_reducible rfl
 try simp only[pS]
 refine wpAnyH_done (by kernel_rfl) ?_ _
 try simp only[pS]
 clear R;go_wp2_with fail;go_ret;have hR:tG g [x,y]=yb l (zm g x y):=by
  have s:=UI k.out;show yb (the (tq g x y)) (zm g x y)=_;rw[s]
 rw[hR];exact⟨rfl,a.out,za M.out F⟩
theorem Sn(A I j:Option Addr)(c J r:Nat)(g:zf)(n:List Int)(w:World)(t:zv w A c I J g)(z:zx g)(u:zI w j r n)(hn:n.length=2)(ht:ITab w) :
  Calls Tryz.prog 63 #[gV A c I J g,.slice j n.length r] w λe D=>e=.returned (.string (bs (ry g n)))/\(ry g n).length<=100000/\Below w.heap.size w D:=by
 obtain⟨x,y,rfl⟩:=vI hn;obtain⟨b,o,rfl,S,x0,x1⟩:=u.two;have HG:=zc t;have HT:=zc ht;have m:=zc z;clear t ht z u hn
 go_enter Tryz.func63,Tryz.ntmps63
 go_wp2_with fail;have Z:=zj.new w 68 (gC A c I J g);have G:=ze (Ae w.heap.size w) (Obj.cells (gC A c I J g) 68);change Code.wp _ _ _ _ (w.alloc (Obj.cells (gC A c I J g) 68));obtain⟨H,hq⟩:∃H,w.alloc (Obj.cells (gC A c I J g) 68)=H:=⟨_,rfl⟩;rw[hq]at Z G⊢;obtain⟨O,E⟩:∃O:World->Prop,Hid (O=λD=>D.cell? ⟨w.heap.size,0,none⟩=some (.int .i64 g.h)/\D.cell? ⟨w.heap.size,1,none⟩=some (.slice A g.lives.length c)/\D.cell? ⟨w.heap.size,2,none⟩=some (.slice I g.edges.length J)/\D.cell? ⟨b,o,none⟩=some (.int .i64 x)/\D.cell? ⟨b,o+1,none⟩=some (.int .i64 y)):=⟨_,zc rfl⟩
 have q:Hid (w.cell? ⟨b,o,none⟩=some (.int .i64 x)/\w.cell? ⟨b,o+1,none⟩=some (.int .i64 y)):=zc ⟨x0,x1⟩;have L:Hid (∀D,Below H.heap.size H D->O D):=zc λD h=>by
  have d:=Z.ext h;have hw:=za G h;rw[E.out];exact⟨d.cell 0,d.cell 1,d.cell 2,(hw.cell (p:=⟨b,o,none⟩) S).trans q.out.1,(hw.cell (p:=⟨b,o+1,none⟩) S).trans q.out.2⟩
 have M:=zc G;have N:=zi (Ae H.heap.size H);have f:O H.drew:=L.out _ N;clear x0 x1 Z G hq;refine zB O (by kernel_rfl) ?_;refine tH 0 ?_ ?_<|tH 1 ?_ ?_<|tH 2 ?_ ?_<|tH 3 ?_ ?_<|tH 4 ?_ ?_<|tH 5 ?_ ?_<|tH 6 ?_ ?_ ?_
 iterate 7
  rotate_left;intro w B;rw[E.out]at B;obtain⟨U,V,W,X,Y⟩:=B;(try simp only[pS]);go_simp;try with_reducible rfl
 try simp only[pS]
 refine zu (i:=7) rfl (by kernel_rfl) λK P=>?_;go_wp2_with fail;refine(mM A I c J g x y _ (HG.out.ext (za M.out N))).mono ?_;rintro e w3 ⟨l,Al,cl,hl,rfl,v,T,C⟩;have C:Below H.heap.size H w3:=za N C;have Q:=L.out _ C;have k:Hid (vn g x y l):=zc hl;have a:Hid ((yb l (zm g x y)).length<=100000):=zc (by
  have s:=rt (xZ v T).i64 (e:=zm g x y) (by have:=yo g x y;exact zt (by omega) (by omega));have h2:=ZA hl;have h3:=m.out.nl;omega)
 refine P.out _ _ ⟨Q,?_⟩;clear P K f
 try simp only[pS]
 refine tH 8 ?_ ?_<|tH 9 ?_ ?_ ?_
 iterate 2
  rotate_left;intro w B;rw[E.out]at B;obtain⟨U,V,W,X,Y⟩:=B;(try simp only[pS]);go_simp;try with_reducible rfl
 try simp only[pS]
 refine zu (i:=10) rfl (by kernel_rfl) λK P=>?_;go_wp2_with fail;refine(pi Al l.length cl l (zm g x y) w3 (xZ v T) (by have:=ZA k.out;have:=m.out.nl;omega) (by have:=yo g x y;exact zt (by omega) (by omega)) (HT.out.ext (za M.out C))).mono ?_;rintro e w4 ⟨rfl,F⟩;have F:=za C F;have R:=L.out _ F;refine P.out _ _ ⟨R,?_⟩
 clear P K Q
 try simp only[pS]
 refine tH 11 ?_ ?_ ?_;rotate_left
 ·intro w B;rw[E.out]at B;obtain⟨U,V,W,X,Y⟩:=B;(try simp only[pS]);go_simp;try with_reducible rfl
 try simp only[pS]
 refine wpAnyH_done (by kernel_rfl) ?_ _
 try simp only[pS]
 clear R;go_wp2_with fail;go_ret;have hR:ry g [x,y]=yb l (zm g x y):=by
  have s:=ZB k.out;show yb (the (vn g x y)) (zm g x y)=_;rw[s]
 rw[hR];exact⟨rfl,a.out,za M.out F⟩
theorem WW(A I j:Option Addr)(c J r:Nat)(g:zf)(n:List Int)(w:World)(t:zv w A c I J g)(z:zx g)(u:zI w j r n)(hn:n.length=2)(ht:ITab w) :
  Calls Tryz.prog 65 #[gV A c I J g,.slice j n.length r] w λe D=>e=.returned (.string (bs (tF g n)))/\(tF g n).length<=100000/\Below w.heap.size w D:=by
 obtain⟨x,y,rfl⟩:=vI hn;obtain⟨b,o,rfl,S,x0,x1⟩:=u.two;have HG:=zc t;have HT:=zc ht;have m:=zc z;clear t ht z u hn
 go_enter Tryz.func65,Tryz.ntmps65
 go_wp2_with fail;have Z:=zj.new w 68 (gC A c I J g);have G:=ze (Ae w.heap.size w) (Obj.cells (gC A c I J g) 68);change Code.wp _ _ _ _ (w.alloc (Obj.cells (gC A c I J g) 68));obtain⟨H,hq⟩:∃H,w.alloc (Obj.cells (gC A c I J g) 68)=H:=⟨_,rfl⟩;rw[hq]at Z G⊢;obtain⟨O,E⟩:∃O:World->Prop,Hid (O=λD=>D.cell? ⟨w.heap.size,0,none⟩=some (.int .i64 g.h)/\D.cell? ⟨w.heap.size,1,none⟩=some (.slice A g.lives.length c)/\D.cell? ⟨w.heap.size,2,none⟩=some (.slice I g.edges.length J)/\D.cell? ⟨b,o,none⟩=some (.int .i64 x)/\D.cell? ⟨b,o+1,none⟩=some (.int .i64 y)):=⟨_,zc rfl⟩
 have q:Hid (w.cell? ⟨b,o,none⟩=some (.int .i64 x)/\w.cell? ⟨b,o+1,none⟩=some (.int .i64 y)):=zc ⟨x0,x1⟩;have L:Hid (∀D,Below H.heap.size H D->O D):=zc λD h=>by
  have d:=Z.ext h;have hw:=za G h;rw[E.out];exact⟨d.cell 0,d.cell 1,d.cell 2,(hw.cell (p:=⟨b,o,none⟩) S).trans q.out.1,(hw.cell (p:=⟨b,o+1,none⟩) S).trans q.out.2⟩
 have M:=zc G;have N:=zi (Ae H.heap.size H);have f:O H.drew:=L.out _ N;clear x0 x1 Z G hq;refine zB O (by kernel_rfl) ?_;refine tH 0 ?_ ?_<|tH 1 ?_ ?_<|tH 2 ?_ ?_<|tH 3 ?_ ?_<|tH 4 ?_ ?_<|tH 5 ?_ ?_<|tH 6 ?_ ?_ ?_
 iterate 7
  rotate_left;intro w B;rw[E.out]at B;obtain⟨U,V,W,X,Y⟩:=B;(try simp only[pS]);go_simp;try with_reducible rfl
 try simp only[pS]
 refine zu (i:=7) rfl (by kernel_rfl) λK P=>?_;go_wp2_with fail;refine(Tw A I c J g x y _ (HG.out.ext (za M.out N))).mono ?_;rintro e w3 ⟨l,Al,cl,hl,rfl,v,T,C⟩;have C:Below H.heap.size H w3:=za N C;have Q:=L.out _ C;have k:Hid (yN g ul x y l):=zc hl;have a:Hid ((yb l (zm g x y)).length<=100000):=zc (by
  have s:=rt (xZ v T).i64 (e:=zm g x y) (by have:=yo g x y;exact zt (by omega) (by omega));have h2:=lG hl;have h3:=m.out.nl;omega)
 refine P.out _ _ ⟨Q,?_⟩;clear P K f
 try simp only[pS]
 refine tH 8 ?_ ?_<|tH 9 ?_ ?_ ?_
 iterate 2
  rotate_left;intro w B;rw[E.out]at B;obtain⟨U,V,W,X,Y⟩:=B;(try simp only[pS]);go_simp;try with_reducible rfl
 try simp only[pS]
 refine zu (i:=10) rfl (by kernel_rfl) λK P=>?_;go_wp2_with fail;refine(pi Al l.length cl l (zm g x y) w3 (xZ v T) (by have:=lG k.out;have:=m.out.nl;omega) (by have:=yo g x y;exact zt (by omega) (by omega)) (HT.out.ext (za M.out C))).mono ?_;rintro e w4 ⟨rfl,F⟩;have F:=za C F;have R:=L.out _ F;refine P.out _ _ ⟨R,?_⟩
 clear P K Q
 try simp only[pS]
 refine tH 11 ?_ ?_ ?_;rotate_left
 ·intro w B;rw[E.out]at B;obtain⟨U,V,W,X,Y⟩:=B;(try simp only[pS]);go_simp;try with_reducible rfl
 try simp only[pS]
 refine wpAnyH_done (by kernel_rfl) ?_ _
 try simp only[pS]
 clear R;go_wp2_with fail;go_ret;have hR:tF g [x,y]=yb l (zm g x y):=by
  have s:=lH k.out;show yb (the (yN g ul x y)) (zm g x y)=_;rw[s]
 rw[hR];exact⟨rfl,a.out,za M.out F⟩
theorem RY(A I j:Option Addr)(c J r:Nat)(g:zf)(n:List Int)(w:World)(t:zv w A c I J g)(z:zx g)(u:zI w j r n)(hn:n.length=2)(ht:ITab w) :
  Calls Tryz.prog 67 #[gV A c I J g,.slice j n.length r] w λe D=>e=.returned (.string (bs (od g n)))/\(od g n).length<=100000/\Below w.heap.size w D:=by
 obtain⟨x,y,rfl⟩:=vI hn;obtain⟨b,o,rfl,S,x0,x1⟩:=u.two;have HG:=zc t;have HT:=zc ht;have m:=zc z;clear t ht z u hn
 go_enter Tryz.func67,Tryz.ntmps67
 go_wp2_with fail;have Z:=zj.new w 68 (gC A c I J g);have G:=ze (Ae w.heap.size w) (Obj.cells (gC A c I J g) 68);change Code.wp _ _ _ _ (w.alloc (Obj.cells (gC A c I J g) 68));obtain⟨H,hq⟩:∃H,w.alloc (Obj.cells (gC A c I J g) 68)=H:=⟨_,rfl⟩;rw[hq]at Z G⊢;obtain⟨O,E⟩:∃O:World->Prop,Hid (O=λD=>D.cell? ⟨w.heap.size,0,none⟩=some (.int .i64 g.h)/\D.cell? ⟨w.heap.size,1,none⟩=some (.slice A g.lives.length c)/\D.cell? ⟨w.heap.size,2,none⟩=some (.slice I g.edges.length J)/\D.cell? ⟨b,o,none⟩=some (.int .i64 x)/\D.cell? ⟨b,o+1,none⟩=some (.int .i64 y)):=⟨_,zc rfl⟩
 have q:Hid (w.cell? ⟨b,o,none⟩=some (.int .i64 x)/\w.cell? ⟨b,o+1,none⟩=some (.int .i64 y)):=zc ⟨x0,x1⟩;have L:Hid (∀D,Below H.heap.size H D->O D):=zc λD h=>by
  have d:=Z.ext h;have hw:=za G h;rw[E.out];exact⟨d.cell 0,d.cell 1,d.cell 2,(hw.cell (p:=⟨b,o,none⟩) S).trans q.out.1,(hw.cell (p:=⟨b,o+1,none⟩) S).trans q.out.2⟩
 have M:=zc G;have N:=zi (Ae H.heap.size H);have f:O H.drew:=L.out _ N;clear x0 x1 Z G hq;refine zB O (by kernel_rfl) ?_;refine tH 0 ?_ ?_<|tH 1 ?_ ?_<|tH 2 ?_ ?_<|tH 3 ?_ ?_<|tH 4 ?_ ?_<|tH 5 ?_ ?_<|tH 6 ?_ ?_ ?_
 iterate 7
  rotate_left;intro w B;rw[E.out]at B;obtain⟨U,V,W,X,Y⟩:=B;(try simp only[pS]);go_simp;try with_reducible rfl
 try simp only[pS]
 refine zu (i:=7) rfl (by kernel_rfl) λK P=>?_;go_wp2_with fail;refine(Vv A I c J g x y _ (HG.out.ext (za M.out N))).mono ?_;rintro e w3 ⟨l,Al,cl,hl,rfl,v,T,C⟩;have C:Below H.heap.size H w3:=za N C;have Q:=L.out _ C;have k:Hid (yN g qu x y l):=zc hl;have a:Hid ((yb l (zm g x y)).length<=100000):=zc (by
  have s:=rt (xZ v T).i64 (e:=zm g x y) (by have:=yo g x y;exact zt (by omega) (by omega));have h2:=lG hl;have h3:=m.out.nl;omega)
 refine P.out _ _ ⟨Q,?_⟩;clear P K f
 try simp only[pS]
 refine tH 8 ?_ ?_<|tH 9 ?_ ?_ ?_
 iterate 2
  rotate_left;intro w B;rw[E.out]at B;obtain⟨U,V,W,X,Y⟩:=B;(try simp only[pS]);go_simp;try with_reducible rfl
 try simp only[pS]
 refine zu (i:=10) rfl (by kernel_rfl) λK P=>?_;go_wp2_with fail;refine(pi Al l.length cl l (zm g x y) w3 (xZ v T) (by have:=lG k.out;have:=m.out.nl;omega) (by have:=yo g x y;exact zt (by omega) (by omega)) (HT.out.ext (za M.out C))).mono ?_;rintro e w4 ⟨rfl,F⟩;have F:=za C F;have R:=L.out _ F;refine P.out _ _ ⟨R,?_⟩
 clear P K Q
 try simp only[pS]
 refine tH 11 ?_ ?_ ?_;rotate_left
 ·intro w B;rw[E.out]at B;obtain⟨U,V,W,X,Y⟩:=B;(try simp only[pS]);go_simp;try with_reducible rfl
 try simp only[pS]
 refine wpAnyH_done (by kernel_rfl) ?_ _
 try simp only[pS]
 clear R;go_wp2_with fail;go_ret;have hR:od g [x,y]=yb l (zm g x y):=by
  have s:=lH k.out;show yb (the (yN g qu x y)) (zm g x y)=_;rw[s]
 rw[hR];exact⟨rfl,a.out,za M.out F⟩
theorem jX{w:World}{k:Nat}{l:List Int}(h:zj w k 3 (l.map (Value.int .i64)).toArray)(C:∀n,n∈l->zM n)(D:l.length<=maxLen):zI w (some ⟨k,0,none⟩) l.length l:=by
 refine⟨Ay _,D,k,0,λi x A=>?_⟩;refine⟨rfl,h.lt,?_,C x (Ad A)⟩;unfold zJ;have B:=h.cell (0+i*1);rw[B];simp[A]
theorem TH(A G s:Option Addr)(c H z:Nat)(g:zf)(n:List Int)(w:World)(hG:zv w A c G H g)(hV:zx g)(hN:zI w s z n)(Q:n.length=2)(ht:ITab w) :
  Calls Tryz.prog 69 #[gV A c G H g,.slice s n.length z] w λe D=>e=.returned (.string (bs (sG g n)))/\(sG g n).length<=100000/\Below w.heap.size w D:=by
 obtain⟨x,y,rfl⟩:=vI Q;obtain⟨b,o,rfl,P,x0,x1⟩:=hN.two;have HG:=zc hG;have HT:=zc ht;have HV:=zc hV;clear hG ht hV hN Q
 go_enter Tryz.func69,Tryz.ntmps69
 go_wp2_with fail;have U:=zj.new w 68 (gC A c G H g);have E:=ze (Ae w.heap.size w) (Obj.cells (gC A c G H g) 68);change Code.wp _ _ _ _ (w.alloc (Obj.cells (gC A c G H g) 68));obtain⟨F,hq⟩:∃F,w.alloc (Obj.cells (gC A c G H g) 68)=F:=⟨_,rfl⟩;rw[hq]at U E⊢;obtain⟨N,J⟩:∃N:World->Prop,Hid (N=λD=>D.cell? ⟨w.heap.size,0,none⟩=some (.int .i64 g.h)/\D.cell? ⟨w.heap.size,1,none⟩=some (.slice A g.lives.length c)/\D.cell? ⟨w.heap.size,2,none⟩=some (.slice G g.edges.length H)/\D.cell? ⟨b,o,none⟩=some (.int .i64 x)/\D.cell? ⟨b,o+1,none⟩=some (.int .i64 y)):=⟨_,zc rfl⟩
 have v:Hid (w.cell? ⟨b,o,none⟩=some (.int .i64 x)/\w.cell? ⟨b,o+1,none⟩=some (.int .i64 y)):=zc ⟨x0,x1⟩;have M:Hid (∀D,Below F.heap.size F D->N D):=zc λD h=>by
  have Y:=U.ext h;have hw:=za E h;rw[J.out];exact⟨Y.cell 0,Y.cell 1,Y.cell 2,(hw.cell (p:=⟨b,o,none⟩) P).trans v.out.1,(hw.cell (p:=⟨b,o+1,none⟩) P).trans v.out.2⟩
 have I:=zc E;have L:=zi (Ae F.heap.size F);have Z:N F.drew:=M.out _ L;clear x0 x1 U E hq;refine zB N (by kernel_rfl) ?_;refine tH 0 ?_ ?_<|tH 1 ?_ ?_<|tH 2 ?_ ?_<|tH 3 ?_ ?_<|tH 4 ?_ ?_<|tH 5 ?_ ?_<|tH 6 ?_ ?_ ?_
 iterate 7
  rotate_left;intro w B;rw[J.out]at B;obtain⟨k,l,m,q,r⟩:=B;(try simp only[pS]);go_simp;try with_reducible rfl
 try simp only[pS]
 refine zu (i:=7) rfl (by kernel_rfl) λK hK=>?_;go_wp2_with fail;refine(Xb A G c H g x y _ (HG.out.ext (za I.out L))).mono ?_;rintro e T ⟨d,a,X,u,rfl,C⟩;have C:Below F.heap.size F T:=za L C;have O:=M.out _ C;have S:Hid ((∀n,n∈[d,a]->zM n)/\zM X):=zc (by have h:=eQ HV.out u.out;exact⟨λn Q=>by simp at Q;rcases Q with rfl|rfl <;> first|exact h.1|exact h.2.1,h.2.2⟩)
 refine hK.out _ _ ⟨O,?_⟩;clear hK K Z
 try simp only[pS]
 refine tH 8 ?_ ?_<|tH 9 ?_ ?_<|tH 10 ?_ ?_<|tH 11 ?_ ?_<|tH 12 ?_ ?_<|tH 13 ?_ ?_<|tH 14 ?_ ?_ ?_
 iterate 7
  rotate_left;intro w B;rw[J.out]at B;obtain⟨k,l,m,q,r⟩:=B;(try simp only[pS]);go_simp;try with_reducible rfl
 try simp only[pS]
 refine wpAnyH_done (by kernel_rfl) ?_ _
 try simp only[pS]
 clear O;have W:=zc (HT.out.ext (za I.out C));have t:=zj.new T 3 #[.int .i64 d,.int .i64 a];have R:=pi (some ⟨T.heap.size,0,none⟩) 2 2 [d,a] X (T.alloc (Obj.cells #[.int .i64 d,.int .i64 a] 3)) (jX t S.out.1 (by unfold maxLen;simp)) (by simp) S.out.2 (W.out.ext (ze (Ae _ _) _));have V:=zc R;have f:=ze C (Obj.cells #[.int .i64 d,.int .i64 a] 3)
 clear t R;go_wp2_with fail;refine V.out.mono ?_;rintro e w4 ⟨rfl,j⟩;go_wp2_with fail;go_ret;have hR:sG g [x,y]=yb [d,a] X:=by
  have h1:=jQ u.out;show yb [(qk g x y).1,(qk g x y).2.1] (qk g x y).2.2=_;rw[h1]
 rw[hR];exact⟨rfl,by have h9:=rt S.out.1 S.out.2;simp only[Ap,AC]at h9;omega,za I.out (za f j)⟩
theorem UQ(A I An:Option Addr)(c J cn:Nat)(g:zf)(n:List Int)(a:Option Addr)(Q R:Nat)(h:List yy)(w:World)(hG:zv w A c I J g)(U:R<w.heap.size/\w.cell? ⟨R,0,none⟩=some (.slice a h.length Q))(hH:h.length<=Q/\Q<=maxLen/\zU mt 2 w a h)(hV:zx g)(hN:zI w An cn n)(V:n.length=2)(ht:ITab w) :
  Calls Tryz.prog 46 #[gV A c I J g,.slice An n.length cn,.pointer (some ⟨R,0,none⟩)] w λe B=>e=.returned (.string (bs (qi h g n)))/\(qi h g n).length<=100000/\Below w.heap.size w B:=by
 obtain⟨x,y,rfl⟩:=vI V;obtain⟨b,o,rfl,T,x0,x1⟩:=hN.two;have HG:=zc hG;have HT:=zc ht;have HV:=zc hV;have j:=zc U.2;have l:=zc hH;clear hG ht hV hN V hH
 go_enter Tryz.func46,Tryz.ntmps46
 go_wp2_with fail;have f:=zj.new w 68 (gC A c I J g);have G:=ze (Ae w.heap.size w) (Obj.cells (gC A c I J g) 68);change Code.wp _ _ _ _ (w.alloc (Obj.cells (gC A c I J g) 68));obtain⟨H,hq⟩:∃H,w.alloc (Obj.cells (gC A c I J g) 68)=H:=⟨_,rfl⟩;rw[hq]at f G⊢;obtain⟨P,L⟩:∃P:World->Prop,Hid (P=λB=>B.cell? ⟨w.heap.size,0,none⟩=some (.int .i64 g.h)/\B.cell? ⟨w.heap.size,1,none⟩=some (.slice A g.lives.length c)/\B.cell? ⟨w.heap.size,2,none⟩=some (.slice I g.edges.length J)/\B.cell? ⟨b,o,none⟩=some (.int .i64 x)/\B.cell? ⟨b,o+1,none⟩=some (.int .i64 y)/\B.cell? ⟨R,0,none⟩=some (.slice a h.length Q)):=⟨_,zc rfl⟩
 have HX:Hid (w.cell? ⟨b,o,none⟩=some (.int .i64 x)/\w.cell? ⟨b,o+1,none⟩=some (.int .i64 y)):=zc ⟨x0,x1⟩;have O:Hid (∀B,Below H.heap.size H B->P B):=zc λB h=>by
  have u:=f.ext h;have hw:=za G h;rw[L.out];exact⟨u.cell 0,u.cell 1,u.cell 2,(hw.cell (p:=⟨b,o,none⟩) T).trans HX.out.1,(hw.cell (p:=⟨b,o+1,none⟩) T).trans HX.out.2,(hw.cell (p:=⟨R,0,none⟩) U.1).trans j.out⟩
 have E:=zc G;have F:=zi (Ae H.heap.size H);have z:P H.drew:=O.out _ F;clear x0 x1 f G hq;refine zB P (by kernel_rfl) ?_;refine tH 0 ?_ ?_<|tH 1 ?_ ?_<|tH 2 ?_ ?_<|tH 3 ?_ ?_<|tH 4 ?_ ?_<|tH 5 ?_ ?_<|tH 6 ?_ ?_<|tH 7 ?_ ?_ ?_
 iterate 8
  rotate_left;intro w C;rw[L.out]at C;obtain⟨D0,E0,F0,G0,H0,I0⟩:=C;(try simp only[pS]);go_simp;try with_reducible rfl
 try simp only[pS]
 refine zu (i:=8) rfl (by kernel_rfl) λK hK=>?_;go_wp2_with fail;refine(TN A I a c J Q g x y h _ (HG.out.ext (za E.out F)) (l.out.2.2.ext mt.stable (za E.out F)) (Ai l.out.1 l.out.2.1)).mono ?_;rintro e d ⟨rfl,D⟩;have D:Below H.heap.size H d:=za F D;have S:=O.out _ D;have N:Hid ((∀n,n∈[(pE g x y h).1,(pE g x y h).2.1,(pE g x y h).2.2.1]->zM n)/\zM (pE g x y h).2.2.2):=zc (by have k:=ao (v:=x) (t:=y) HV.out h;exact⟨λn V=>by simp at V;rcases V with rfl|rfl|rfl <;> first|exact k.1|exact k.2.1|exact k.2.2.1,k.2.2.2⟩)
 obtain⟨r0,M⟩:∃r,pE g x y h=r:=⟨_,rfl⟩;rw[M]at N⊢;have m:=zc M;obtain⟨X,Y,Z,r4⟩:=r0;unfold Oy;simp only at N⊢;clear M;refine hK.out _ _ ⟨S,?_⟩;clear hK K z
 try simp only[pS]
 refine tH 9 ?_ ?_<|tH 10 ?_ ?_<|tH 11 ?_ ?_<|tH 12 ?_ ?_<|tH 13 ?_ ?_<|tH 14 ?_ ?_<|tH 15 ?_ ?_<|tH 16 ?_ ?_<|tH 17 ?_ ?_ ?_
 iterate 9
  rotate_left;intro w C;rw[L.out]at C;obtain⟨D0,E0,F0,G0,H0,I0⟩:=C;(try simp only[pS]);go_simp;try with_reducible rfl
 try simp only[pS]
 refine wpAnyH_done (by kernel_rfl) ?_ _
 try simp only[pS]
 clear S;have s:=zc (HT.out.ext (za E.out D));have BI:=zj.new d 3 #[.int .i64 X,.int .i64 Y,.int .i64 Z];have W:=pi (some ⟨d.heap.size,0,none⟩) 3 3 [X,Y,Z] r4 (d.alloc (Obj.cells #[.int .i64 X,.int .i64 Y,.int .i64 Z] 3)) (jX BI N.out.1 (by unfold maxLen;simp)) (by simp) N.out.2 (s.out.ext (ze (Ae _ _) _));have q:=zc W;have A0:=ze D (Obj.cells #[.int .i64 X,.int .i64 Y,.int .i64 Z] 3)
 clear BI W;go_wp2_with fail;refine q.out.mono ?_;rintro e w4 ⟨rfl,B0⟩;go_wp2_with fail;go_ret;have hR:qi h g [x,y]=yb [X,Y,Z] r4:=by
  show yb [(pE g x y h).1,(pE g x y h).2.1,(pE g x y h).2.2.1] (pE g x y h).2.2.2=_;rw[m.out]
 rw[hR];exact⟨rfl,by have h9:=rt N.out.1 N.out.2;simp only[Ap,AC]at h9;omega,za E.out (za A0 B0)⟩
theorem lk(h:Nat)(y:Array Value)(B:zH->List Int×Int)(A Y:Option Addr)(c f:Nat)(g:zf)(t:Int)(w:World)(p:zv w A c Y f g)(x:ITab w)(eg:Enters Tryz.prog h)
  (v:∀W I K J L,Below w.heap.size w W->wY W I K J L (pu g t)->Calls Tryz.prog h (#[sx I K J L (pu g t)]++y) W (tQ (λl=>l=(B (pu g t)).1/\l.length<=1000/\zM (B (pu g t)).2) (B (pu g t)).2 W)) :
  Calls Tryz.prog 52 #[gV A c Y f g,.int .i64 t,.func (.func h) #[] y] w λe w'=>e=.returned (.string (bs (uo g t B)))/\(uo g t B).length<=100000/\Below w.heap.size w w':=by
 unfold Enters at eg;have HG:=zc p;have o:=zc x;have n:=zc v;have S:=YF g t;clear p x v
 go_enter Tryz.func52,Tryz.ntmps52
 go_wp2_with fail;refine(On A Y c f g t _ (HG.out.ext (by go_grown))).mono ?_;rintro e w1 ⟨I,K,J,L,rfl,N,O⟩;have Q:Below w.heap.size w w1:=za (by go_grown) O;have b:=zc N;clear N O
 by_cases M:wF g t=0
 case neg=>
  have m:(wF g t != 0)=true:=by simp[M]
  have G:Hid (uo g t B=yO (wF g t)):=zc (by unfold uo;rw[Au M]);have Z:Hid (zM (wF g t)):=zc (zt (by omega) (by omega));obtain⟨E,u⟩:∃E,wF g t=E:=⟨_,rfl⟩;rw[u]at m G Z⊢;have D:=ze Q (Obj.cells #[.slice I (pu g t).alive.length K,.slice J (pu g t).arcs.length L] 86);have r:=xg E Z.out _ (o.out.ext D);clear M S u;go_wp2_with fail
  refine r.mono ?_;rintro e z ⟨rfl,F⟩;clear r;go_wp2_with fail;go_ret;exact⟨by rw[G.out];rfl,by rw[G.out];exact wJ Z.out,za D F⟩
 have G:Hid (uo g t B=yb (B (pu g t)).1 (B (pu g t)).2):=zc (by unfold uo;rw[Aq M]);rw[M];have D:=ze Q (Obj.cells #[.slice I (pu g t).alive.length K,.slice J (pu g t).arcs.length L] 86);have C:=n.out _ I K J L D (b.out.1.ext (ze (Ae _ _) _));clear M S;obtain⟨l,s⟩:∃l,(B (pu g t)).1=l:=⟨_,rfl⟩;obtain⟨E,q⟩:∃E,(B (pu g t)).2=E:=⟨_,rfl⟩
 rw[s,q]at C G;clear s q n;go_wp2_with fail;refine C.mono ?_;rintro e z ⟨X,Al,cl,⟨k,T,R⟩,rfl,i,H,F⟩;subst k;have V:=zc (⟨T,R⟩:X.length<=1000/\zM E);have P:=za D F;have U:=pi Al X.length cl X E z (xZ i H) (by have:=V.out.1;omega) V.out.2 (o.out.ext P);have d:=zc U;have a:Hid ((yb X E).length<=100000):=zc (by have h1:=rt (xZ i H).i64 V.out.2;have h2:=V.out.1;omega)
 clear C i H F U T R;go_wp2_with fail;refine d.out.mono ?_;rintro e w3 ⟨rfl,j⟩;go_wp2_with fail;go_ret;exact⟨by rw[G.out];rfl,by rw[G.out];exact a.out,za P j⟩
