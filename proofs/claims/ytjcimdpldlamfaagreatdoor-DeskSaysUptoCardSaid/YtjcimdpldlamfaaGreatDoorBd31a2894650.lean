import Derived.Test.YtjcimdpldlamfaaGreatDoorBdb562c162d9
import Derived.Test.YtjcimdpldlamfaaGreatDoorBde1fba3d5b3
namespace Go.Proofs.YtjcimdpldlamfaaGreatDoor
set_option maxRecDepth 100000
set_option maxHeartbeats 8000000
open Go.RowKit
theorem Xs:(Tryz.prog.info? 192).map (λi=>(i.zero,i.size,i.bytes))=some (some (.agg #[.slice none 0 0,.slice none 0 0]),2,48):=by kernel_rfl
theorem ZM:∃i,Tryz.prog.info? 192=some i/\i.zero=some (.agg #[.slice none 0 0,.slice none 0 0])/\i.size=2/\i.bytes=48:=by
 obtain⟨C,B,A⟩:=Option.map_eq_some_iff.1 Xs;simp only[Prod.mk.injEq]at A;exact⟨C,B,A.1,A.2.1,A.2.2⟩
theorem lr:∀(i:Nat) u,(Value.agg #[.slice none 0 0,.slice none 0 0]).cells[i]?=some u->kN u:=λi u h=>by
 match i,h with
 |0,h=>exact⟨none,0,0,by simpa[Value.cells]using h.symm⟩
 |1,h=>exact⟨none,0,0,by simpa[Value.cells]using h.symm⟩
 |i+2,h=>simp[Value.cells]at h
theorem Yj(items:List xQ):∀u∈items.flatMap gQ,kN u:=λu hu=>by
 obtain⟨it,_,hu⟩:=List.mem_flatMap.1 hu;simp only[gQ,List.mem_cons,List.not_mem_nil,or_false]at hu;rcases hu with rfl|rfl <;> exact⟨_,_,_,rfl⟩
def RB(g:zf)(p v:Int)(A:Option Addr)(c:Nat)(A':Option Addr)(c':Nat)(w:World)(e:Ending)(w':World):Prop:=∃(eb:Nat) (Av:Option Addr) (cv:Nat) (items:List xQ),
 e=.returned (.pointer (some ⟨eb,0,none⟩))/\cX w' w.heap.size eb A c A' c' g p Av cv items/\Hid (pg items=uU g p v/\yV items=uU g p v)/\Below w.heap.size w w'
def nr(g:zf)(p v:Int)(i:Nat)(items:List xQ):Prop:=pg items=(uU g p v).take i/\yV items=(uU g p v).take i
theorem nr.zero{g:zf}{p v:Int}:nr g p v 0 []:=⟨rfl,rfl⟩
theorem nr.next{g:zf}{p v:Int}{i:Nat}{A:List xQ}{l:zw}{x:yZ}(h:nr g p v i A)(C:g.lives[i]?=some l)(D:x.1=xI p v i l):nr g p v (i+1) (A++[(x,x)]):=by
 have e:=nY (p:=p) (v:=v) C;have B:(uU g p v).take (i+1)=(uU g p v).take i++[x.1]:=by rw[AO,e,D];rfl
 unfold nr pg yV at *;rw[B,List.map_append,List.map_append,h.1,h.2];exact⟨rfl,rfl⟩
theorem po.far{Z:Value->Prop}{w:World}{v:Value}{k i:Nat}{u:Value}(h:po Z w v)(hne:some k≠v.ownBlock):po Z (w.setCell ⟨k,i,none⟩ u) v:=λj hj cs t fr hh=>by
 rw[Below.heap_setCell w ⟨k,i,none⟩ u j (λe=>hne (by rw[hj,e]))]at hh;exact h j hj cs t fr hh
theorem cX.more{w E:World}{base e c I P D:Nat}{A H O C:Option Addr}{g:zf}{p:Int}{B:List xQ}{x:yZ}(h:cX w base e A c H I g p O P B)
  (J:zj E e 190 #[.int .i64 g.h,.slice A g.lives.length c,.slice H g.edges.length I,.int .i64 p,.slice C (B.length+1) D]) (S:Own gQ 2 E base 192 (.slice C (B.length+1) D) (B++[(x,x)]))
  (R:po kN E (.slice C (B.length+1) D)) (K:Own zK 3 E w.heap.size 113 (sV x) x.1) (F:base<=w.heap.size) (M:∀b L,zj w b 113 L->zj E b 113 L) (Q:zv E A c H I g) :
  cX E base e A c H I g p C D (B++[(x,x)]):=by
 refine⟨by rw[Ag];exact J,h.eb,by rw[Ag];exact S,by rw[Ag];exact R,?_,λN G=>?_,Q⟩
 ·rw[List.map_append]
  exact h.st.snoc (K.since F) (λz T=>(h.st.own z T).keep M) λb J=>(ti K J).1
 rcases AK.1 G with G|G
 ·exact(h.fr N G).keep M
 obtain rfl:N=(x,x):=by simpa using G
 exact K.since F
theorem Rc(A A':Option Addr)(c c':Nat)(g:zf)(p v:Int)(w:World)(hG:zv w A c A' c' g)(hV:zx g) :
  Calls Tryz.prog 135 #[gV A c A' c' g,.int .i64 p,.int .i64 v] w (RB g p v A c A' c' w):=by
 obtain⟨i0,hi,N0,O0,P0⟩:=ZM;have m1:g.lives.length<=9223372036854775807:=Ai hG.lc hG.cm;have D1:=hV.nl;have HG:=zc hG;obtain⟨bl,ol,X0⟩:=hG.lives;have f0:=zc X0;clear X0 hG hV
 go_enter Tryz.func135,Tryz.ntmps135
 go_wp2_with fail;obtain⟨wi,A0⟩:∃wi:World,(w.alloc (Obj.cells (gC A c A' c' g) 68)).alloc (Obj.cells #[.int .i64 g.h,.slice A g.lives.length c,.slice A' g.edges.length c',.int .i64 p,.slice none 0 0] 190)=wi:=⟨_,rfl⟩;have L0:Below w.heap.size w wi:=by rw[<-A0];go_grown
 have K0:cX wi w.heap.size (w.heap.size+1) A c A' c' g p none 0 []:=⟨by rw[<-A0];exact zj.new_ (by simp),by omega,Own.nil,λk hk=>by simp[Value.ownBlock]at hk,tC.nil,λit h=>by simp at h,HG.out.ext L0⟩;rw[A0];obtain⟨S,Z0⟩:∃S:Nat,w.heap.size+1=S:=⟨_,rfl⟩;have m:w.heap.size<=S:=by omega
 rw[Z0]at K0⊢;clear A0 Z0
 go_loopw [18] (λx wr=>∃(i:Nat) (s:Option Addr) (y:Nat) (B:List xQ),x=.int .i64 i/\i<=g.lives.length/\B.length=i/\Hid (nr g p v i B)/\cX wr w.heap.size S A c A' c' g p s y B/\Below w.heap.size w wr) (λx _=>g.lives.length-(intOf x).toNat)
 case atStart=>exact⟨0,none,0,[],rfl,AA _,rfl,zc nr.zero,K0,L0⟩
 clear K0 L0;obtain⟨i,s,y,B,rfl,C1,D0,HI,hE,hb⟩:=hrel;have u0:B.length<=12:=by omega
 have I0:=zc D0;clear D0;have W:=hb.size
 by_cases m0:i<g.lives.length
 case neg=>
  obtain rfl:i=g.lives.length:=by omega
  have HF:Hid (pg B=uU g p v/\yV B=uU g p v):=zc (by
   have h1:=HI.out;unfold nr at h1
   rwa[AJ (by rw[sf];omega)]at h1)
  go_wp2_with fail;go_ret;exact⟨_,s,y,B,rfl,hE,HF,hb⟩
 obtain⟨l,hl⟩:=zl m0;obtain⟨rfl,Y0,⟨x0,x1⟩,F0⟩:=f0.out i l hl;unfold zJ at x0 x1;rw[<-hb.cell (by exact Y0)]at x0 x1;have HL:=zc hl;have p0:=zc F0;have s0:bl<wr.heap.size:=AV Y0 hb.size;have j0:wr.cell? ⟨S,4,none⟩=some (.slice s B.length y):=hE.blk.cell 4;have B1:wr.frozen? ⟨S,4,none⟩=false:=hE.blk.frozen 4;have t0:=hE.blk.lt;have z:=hE.own;have Y:=hE.all
 have HE:=zc hE;clear hl F0;have H0:=zc hb;clear hE hb
 by_cases h3:p=3
 case pos=>
  have HM:Hid (xI p v i l=[⟨l.f,l.t,i⟩]):=zc (by unfold xI;rw[Aq h3]);have g0:(p== 3)=true:=by simpa using h3
  clear h3;obtain⟨x,o⟩:∃x:yZ,x=([⟨l.f,l.t,i⟩],some ⟨wr.heap.size+1,0,none⟩,1):=⟨_,rfl⟩;have q:Own zK 3 ((wr.alloc (Obj.cells #[.int .i64 l.f,.int .i64 l.t] 94)).alloc (Obj.cells #[.int .i64 l.f,.int .i64 l.t,.int .i64 i] 113)) wr.heap.size 113 (sV x) x.1:=by
   subst o;exact Own.lit (enc:=zK) (w:=wr.alloc (Obj.cells #[.int .i64 l.f,.int .i64 l.t] 94)) (l:=[(⟨l.f,l.t,i⟩:zg)]) (by simp) (by simp) rfl rfl rfl (show 1<=maxLen by decide)
  have n:Hid (x.1=xI p v i l):=zc (by rw[HM.out,o]);have e:Own gQ 2 ((wr.alloc (Obj.cells #[.int .i64 l.f,.int .i64 l.t] 94)).alloc (Obj.cells #[.int .i64 l.f,.int .i64 l.t,.int .i64 i] 113)) w.heap.size 192 (.slice s B.length y) B:=by first|exact(z.alloc _).alloc _|exact z.alloc _
  have C:Below wr.heap.size wr ((wr.alloc (Obj.cells #[.int .i64 l.f,.int .i64 l.t] 94)).alloc (Obj.cells #[.int .i64 l.f,.int .i64 l.t,.int .i64 i] 113)):=by go_grown
  have a:po kN ((wr.alloc (Obj.cells #[.int .i64 l.f,.int .i64 l.t] 94)).alloc (Obj.cells #[.int .i64 l.f,.int .i64 l.t,.int .i64 i] 113)) (.slice s B.length y):=Y.ext C λk hk=>(World.ownsRow.lt z k hk).2;have a0:=C.size;have BE:=HE.out.blk.ext C;go_wp2_with (at_builtin;refine sU (Z:=kN) (enc:=gQ) rfl (.tmp 47) (.tmp 51) 188 rfl w.heap.size 192 i0 _ 2 48 Tryz.underlying188 hi N0 O0 P0 rfl (by decide) _ B (x,x) rfl e #[.slice (some ⟨wr.heap.size+1,0,none⟩) 1 1,.slice (some ⟨wr.heap.size+1,0,none⟩) 1 1] (by rw[o];rfl) _ (by simp) rfl rfl (by simp[Value.oneCell']) (by omega) (by decide) (by omega) a lr (by intro u hu;simp at hu;exact⟨_,_,_,hu⟩) (Yj B) ?_;intro v6 r E P D M;obtain⟨R,G⟩:∃R,B++[(x,x)]=R:=⟨_,rfl⟩;rw[G]at E;have X:=zc G;clear G;obtain⟨K,L,rfl⟩:=E.form;have F:=D _ _ _ BE (by decide);have V:=F.cell 4;have C0:=F.frozen 4;have j:=F.lt)
  go_roundw
  case rel=>
   have G:=X.out;subst G;have Q:=E.other F (by decide);have I:=E.keep (zG F (by decide) 4 (.slice K (B++[(x,x)]).length L));have H:po kN (r.setCell ⟨S,4,none⟩ (.slice K (B++[(x,x)]).length L)) (.slice K (B++[(x,x)]).length L):=M.far Q;have O:=F.set_ 4 (.slice K (B++[(x,x)]).length L);have J:Own zK 3 (r.setCell ⟨S,4,none⟩ (.slice K (B++[(x,x)]).length L)) wr.heap.size 113 (sV x) x.1:=(q.keep λb T U=>D b _ T U (by decide)).keep (zG F (by decide) 4 _)
   have N:Below w.heap.size w (r.setCell ⟨S,4,none⟩ (.slice K (B++[(x,x)]).length L)):=((H0.out.trans (C.mono W)).trans P).setCell m _;rw[Ag]at O I H J N;have d:=HE.out.more (x:=x) O I H J W (λb T U=>(D b _ T (U.ext C) (by decide)).far (wv (D b _ T (U.ext C) (by decide)) F (by decide)) _) (HG.out.ext N)
   rw[Ag];exact⟨i+1,K,L,B++[(x,x)],by go_num,by omega,by simp[I0.out],zc (HI.out.next HL.out n.out),d,N⟩
  case measure=>simp[intOf];omega
 have g0:(p== 3)=false:=by simpa using h3
 have H3:=zc h3;clear h3
 by_cases h4:(i:Int)=v
 case pos=>
  have HM:Hid (xI p v i l=[⟨l.f,l.t,0⟩]):=zc (by unfold xI;rw[Au H3.out,Aq h4]);have h0:((i:Int)== v)=true:=by simpa using h4
  clear h4;obtain⟨x,o⟩:∃x:yZ,x=([⟨l.f,l.t,0⟩],some ⟨wr.heap.size+1,0,none⟩,1):=⟨_,rfl⟩;have q:Own zK 3 ((wr.alloc (Obj.cells #[.int .i64 l.f,.int .i64 l.t] 94)).alloc (Obj.cells #[.int .i64 l.f,.int .i64 l.t,.int .i64 0] 113)) wr.heap.size 113 (sV x) x.1:=by
   subst o;exact Own.lit (enc:=zK) (w:=wr.alloc (Obj.cells #[.int .i64 l.f,.int .i64 l.t] 94)) (l:=[(⟨l.f,l.t,0⟩:zg)]) (by simp) (by simp) rfl rfl rfl (show 1<=maxLen by decide)
  have n:Hid (x.1=xI p v i l):=zc (by rw[HM.out,o]);have e:Own gQ 2 ((wr.alloc (Obj.cells #[.int .i64 l.f,.int .i64 l.t] 94)).alloc (Obj.cells #[.int .i64 l.f,.int .i64 l.t,.int .i64 0] 113)) w.heap.size 192 (.slice s B.length y) B:=by first|exact(z.alloc _).alloc _|exact z.alloc _
  have C:Below wr.heap.size wr ((wr.alloc (Obj.cells #[.int .i64 l.f,.int .i64 l.t] 94)).alloc (Obj.cells #[.int .i64 l.f,.int .i64 l.t,.int .i64 0] 113)):=by go_grown
  have a:po kN ((wr.alloc (Obj.cells #[.int .i64 l.f,.int .i64 l.t] 94)).alloc (Obj.cells #[.int .i64 l.f,.int .i64 l.t,.int .i64 0] 113)) (.slice s B.length y):=Y.ext C λk hk=>(World.ownsRow.lt z k hk).2;have a0:=C.size;have BE:=HE.out.blk.ext C;go_wp2_with (at_builtin;refine sU (Z:=kN) (enc:=gQ) rfl (.tmp 47) (.tmp 51) 188 rfl w.heap.size 192 i0 _ 2 48 Tryz.underlying188 hi N0 O0 P0 rfl (by decide) _ B (x,x) rfl e #[.slice (some ⟨wr.heap.size+1,0,none⟩) 1 1,.slice (some ⟨wr.heap.size+1,0,none⟩) 1 1] (by rw[o];rfl) _ (by simp) rfl rfl (by simp[Value.oneCell']) (by omega) (by decide) (by omega) a lr (by intro u hu;simp at hu;exact⟨_,_,_,hu⟩) (Yj B) ?_;intro v6 r E P D M;obtain⟨R,G⟩:∃R,B++[(x,x)]=R:=⟨_,rfl⟩;rw[G]at E;have X:=zc G;clear G;obtain⟨K,L,rfl⟩:=E.form;have F:=D _ _ _ BE (by decide);have V:=F.cell 4;have C0:=F.frozen 4;have j:=F.lt)
  go_roundw
  case rel=>
   have G:=X.out;subst G;have Q:=E.other F (by decide);have I:=E.keep (zG F (by decide) 4 (.slice K (B++[(x,x)]).length L));have H:po kN (r.setCell ⟨S,4,none⟩ (.slice K (B++[(x,x)]).length L)) (.slice K (B++[(x,x)]).length L):=M.far Q;have O:=F.set_ 4 (.slice K (B++[(x,x)]).length L);have J:Own zK 3 (r.setCell ⟨S,4,none⟩ (.slice K (B++[(x,x)]).length L)) wr.heap.size 113 (sV x) x.1:=(q.keep λb T U=>D b _ T U (by decide)).keep (zG F (by decide) 4 _)
   have N:Below w.heap.size w (r.setCell ⟨S,4,none⟩ (.slice K (B++[(x,x)]).length L)):=((H0.out.trans (C.mono W)).trans P).setCell m _;rw[Ag]at O I H J N;have d:=HE.out.more (x:=x) O I H J W (λb T U=>(D b _ T (U.ext C) (by decide)).far (wv (D b _ T (U.ext C) (by decide)) F (by decide)) _) (HG.out.ext N)
   rw[Ag];exact⟨i+1,K,L,B++[(x,x)],by go_num,by omega,by simp[I0.out],zc (HI.out.next HL.out n.out),d,N⟩
  case measure=>simp[intOf];omega
 have HM:Hid (xI p v i l=[]):=zc (by unfold xI;rw[Au H3.out,Au h4]);have h0:((i:Int)== v)=false:=by simpa using h4
 clear h4;obtain⟨x,o⟩:∃x:yZ,x=([],none,0):=⟨_,rfl⟩;have q:Own zK 3 (wr.alloc (Obj.cells #[.int .i64 l.f,.int .i64 l.t] 94)) wr.heap.size 113 (sV x) x.1:=by
  subst o;exact Own.nil
 have n:Hid (x.1=xI p v i l):=zc (by rw[HM.out,o]);have e:Own gQ 2 (wr.alloc (Obj.cells #[.int .i64 l.f,.int .i64 l.t] 94)) w.heap.size 192 (.slice s B.length y) B:=by first|exact(z.alloc _).alloc _|exact z.alloc _
 have C:Below wr.heap.size wr (wr.alloc (Obj.cells #[.int .i64 l.f,.int .i64 l.t] 94)):=by go_grown
 have a:po kN (wr.alloc (Obj.cells #[.int .i64 l.f,.int .i64 l.t] 94)) (.slice s B.length y):=Y.ext C λk hk=>(World.ownsRow.lt z k hk).2;have a0:=C.size;have BE:=HE.out.blk.ext C;go_wp2_with (at_builtin;refine sU (Z:=kN) (enc:=gQ) rfl (.tmp 47) (.tmp 51) 188 rfl w.heap.size 192 i0 _ 2 48 Tryz.underlying188 hi N0 O0 P0 rfl (by decide) _ B (x,x) rfl e #[.slice none 0 0,.slice none 0 0] (by rw[o];rfl) _ (by simp) rfl rfl (by simp[Value.oneCell']) (by omega) (by decide) (by omega) a lr (by intro u hu;simp at hu;exact⟨_,_,_,hu⟩) (Yj B) ?_;intro v6 r E P D M;obtain⟨R,G⟩:∃R,B++[(x,x)]=R:=⟨_,rfl⟩;rw[G]at E;have X:=zc G;clear G;obtain⟨K,L,rfl⟩:=E.form;have F:=D _ _ _ BE (by decide);have V:=F.cell 4;have C0:=F.frozen 4;have j:=F.lt)
 go_roundw
 case rel=>
  have G:=X.out;subst G;have Q:=E.other F (by decide);have I:=E.keep (zG F (by decide) 4 (.slice K (B++[(x,x)]).length L));have H:po kN (r.setCell ⟨S,4,none⟩ (.slice K (B++[(x,x)]).length L)) (.slice K (B++[(x,x)]).length L):=M.far Q;have O:=F.set_ 4 (.slice K (B++[(x,x)]).length L);have J:Own zK 3 (r.setCell ⟨S,4,none⟩ (.slice K (B++[(x,x)]).length L)) wr.heap.size 113 (sV x) x.1:=(q.keep λb T U=>D b _ T U (by decide)).keep (zG F (by decide) 4 _)
  have N:Below w.heap.size w (r.setCell ⟨S,4,none⟩ (.slice K (B++[(x,x)]).length L)):=((H0.out.trans (C.mono W)).trans P).setCell m _;rw[Ag]at O I H J N;have d:=HE.out.more (x:=x) O I H J W (λb T U=>(D b _ T (U.ext C) (by decide)).far (wv (D b _ T (U.ext C) (by decide)) F (by decide)) _) (HG.out.ext N)
  rw[Ag];exact⟨i+1,K,L,B++[(x,x)],by go_num,by omega,by simp[I0.out],zc (HI.out.next HL.out n.out),d,N⟩
 case measure=>simp[intOf];omega
def Wq(x:yZ):List Value:=[sV x]
theorem Sb:(Tryz.prog.info? 111).map (λi=>(i.zero,i.size,i.bytes))=some (some (.slice none 0 0),1,24):=by kernel_rfl
theorem Vy:∃i,Tryz.prog.info? 111=some i/\i.zero=some (.slice none 0 0)/\i.size=1/\i.bytes=24:=by
 obtain⟨C,B,A⟩:=Option.map_eq_some_iff.1 Sb;simp only[Prod.mk.injEq]at A;exact⟨C,B,A.1,A.2.1,A.2.2⟩
def RA(w0:World)(g:zf)(p v:Int)(en:Ending)(w':World):Prop:=∃(Ao:Option Addr) (co k:Nat) (sides:List yZ),en=.returned (.tuple #[.slice Ao sides.length co,.int .i64 k,.int .i64 0]) /\
 Own Wq 1 w' w0.heap.size 111 (.slice Ao sides.length co) sides/\tC w' w0.heap.size 113 sides/\Hid (tu g p v k (sides.map Prod.fst))/\Below w0.heap.size w0 w'
section
variable {g:zf}{p v:Int}{k:Nat}{items items':List xQ}{was:Nat->Int->Int}
theorem pY.step(E:pY g.h (tM g p (yV items)) items items' items.length)(G:items.length=g.lives.length):WJ g p (pg items) (yV items) (pg items') (yV items'):=by
 refine⟨by simp[pg,E.len,G],by simp[yV,E.len,G],λi m J I C D B=>?_⟩;unfold pg at C D;unfold yV at B;rw[AU]at C D B;obtain⟨H,uF,rfl⟩:=Option.map_eq_some_iff.1 C;obtain⟨F,A,rfl⟩:=Option.map_eq_some_iff.1 D;rw[A]at B;obtain rfl:=AB B;exact E.done i H F (zy uF) uF A
theorem Ws:isSome items' items'.length=true↔∃f,f∈yV items'/\f≠[]:=by
 unfold isSome yV;rw[AL,List.any_eq_true]
 constructor
 ·rintro⟨A,B,h⟩
  exact⟨A.2.1,AD.2 ⟨A,B,rfl⟩,λe=>by rw[e]at h;simp at h⟩
 rintro⟨f,D,C⟩;obtain⟨A,B,rfl⟩:=AD.1 D;exact⟨A,B,by simpa using List.length_pos_iff.2 C⟩
theorem Ss(hM:mC g p v k (pg items) (yV items) was):∀it,it∈items->wK g.h it.1.1:=λit hi=>hM.st.lies _ (AD.2 ⟨it,hi,rfl⟩)
theorem PT(hM:mC g p v k (pg items) (yV items) was)(hV:zx g)(hl:items.length=g.lives.length):∀m,m∈tM g p (yV items)->(0<=m.1/\m.1<items.length)/\sD g.h m.2:=λm hm=>by
 obtain⟨h1,h2,h3⟩:=hM.st.mail hV hm;rw[hl];obtain⟨⟨a,_,_,h4,h5,h6,c,h7,h8,h9⟩,h10,_⟩:=h3 m.2.f (Int.le_refl _) h2;obtain⟨_,h11,_⟩:=h3 (m.2.t-1) (by omega) (by omega);have hB:=hM.bound hV h10 a.a;have hk:=hM.few hV;have hn:=hV.nl;rw[h9]at h4;simp only at h4;refine⟨h1,⟨h10.1,h2,by omega⟩,by omega,?_⟩;unfold vN at hB;omega
end
theorem PS(e c l m bx:Nat)(A a b:Option Addr)(g:zf)(p v:Int)(E:List xQ)(fs:Nat)(lb:Array Value)(tc:TypeId)(a0:tc≠192)(M w:World)(Q:fR w M.heap.size e A c a l g p b m E)(R:mC g p v 0 (pg E) (yV E) (λ_ _=>vN))
  (r:zv M A c a l g) (t:Below M.heap.size M w) (D:zj w bx tc #[.pointer (some ⟨e,0,none⟩)]) (eg:∀O w,(callFunc fs O).run Tryz.prog w=.ok (.enter fs O) w)
  (hs:∀(W:World) (its:List xQ),fR W M.heap.size e A c a l g p b m its->zj W bx tc #[.pointer (some ⟨e,0,none⟩)]->Calls Tryz.prog fs lb W (Zr (tM g p (yV its)) W)) :
  Calls Tryz.prog 136 #[.pointer (some ⟨e,0,none⟩),.func (.func fs) #[] lb] w (RA M g p v):=by
 obtain⟨i0,hi,b0,d0,e0⟩:=Vy;have HV:=zc Q.val;have O0:=zc r;have HS:=zc hs;have N0:=zc Q;have P0:=zc R;clear r hs Q R
 go_enter Tryz.func136,Tryz.ntmps136
 go_wp2_with fail
 go_loopw [7] (λx Z=>∃(k:Nat) (its:List xQ),x=.int .i64 k/\k<=g.lives.length/\Hid (∃H0,mC g p v k (pg its) (yV its) H0)/\fR Z M.heap.size e A c a l g p b m its/\zj Z bx tc #[.pointer (some ⟨e,0,none⟩)]/\Below M.heap.size M Z) (λx _=>g.lives.length-(intOf x).toNat)
 case atStart=>exact⟨0,E,rfl,AA _,zc ⟨_,P0.out⟩,N0.out,D,t⟩
 clear D t;obtain⟨k,its,rfl,hk,HM,Q,D,hb⟩:=hrel;have E0:=HS.out wr its Q D;have HE:=zc Q;have X0:=HV.out.nl;clear Q;go_wp2_with fail;refine E0.mono ?_;rintro en w1 ⟨mv,rfl,D0,C0,N⟩;obtain⟨Am,cm,rfl,s,V,U⟩:=QN D0;have q:=HE.out.ext N;obtain⟨H0,R⟩:=HM.out;have hr:=SR e c l m cm A a b Am g p its (tM g p (yV its)) M w1 q rfl O0.out (za hb N) (Ss R) s C0 (PT R HV.out HE.out.len)
 have J:=D.ext N;have h:=zc R;clear E0 D0 s q R N D;go_wp2_with fail;refine hr.mono ?_;rintro A1 Y ⟨B,rfl,G,HK,S,B0⟩;have K:=B0 _ _ _ J a0;have j:=zc (HK.out.step HE.out.len);clear hr B0 J C0 V U
 cases L:isSome B B.length with
 |true=>
  have I:=zc (h.out.next HV.out j.out (Ws.1 L));clear L;go_wp2_with fail;go_roundw
  case rel=>exact⟨k+1,B,by go_num,I.out.1,zc ⟨_,I.out.2⟩,G,K,S⟩
  case measure=>have:=I.out.1;simp[intOf];omega
 |false=>
  have HR:Hid (tu g p v k (pg B)):=zc (by
   obtain⟨h1,h2⟩:=h.out.done HV.out j.out λf hf=>Classical.byContradiction λW0=>by
    rw[Ws.2 ⟨f,hf,W0⟩]at L
    cases L
   rw[h1];exact h2)
  have T:Y.cell? ⟨e,4,none⟩=some (.slice b B.length m):=G.eng.blk.cell 4;have T0:=G.eng.blk.lt;have I1:B.length<=12:=by rw[G.len];exact X0
  have d:=zc G;have F0:M.heap.size<=Y.heap.size:=S.size;clear L K G;go_wp2_with fail;clear T T0
  go_loopw [8,22] (λu x Z=>∃i:Nat,x=.int .i64 i/\i<=B.length/\Own Wq 1 Z Y.heap.size 111 u ((B.map Prod.fst).take i)/\Below Y.heap.size Y Z) (λ_ x _=>B.length-(intOf x).toNat)
  case atStart=>exact⟨0,rfl,AA _,Own.nil,Ae _ _⟩
  obtain⟨i,rfl,H1,hO,H⟩:=hrel;obtain⟨o,ho⟩:∃o,(B.map Prod.fst).take i=o:=⟨_,rfl⟩;rw[ho]at hO;have HO:=zc ho;have J1:o.length<=12:=by rw[<-ho,AE,Az];omega
  obtain⟨Ao,co,rfl⟩:=hO.form;have f0:=H.size;clear ho
  by_cases V0:i<B.length
  case neg=>
   have HF:Hid (o=B.map Prod.fst):=zc (by rw[<-HO.out,AJ (by rw[Az];omega)]);go_wp2_with fail;refine AP (v:=.tuple #[.slice Ao o.length co,.int .i64 k,.int .i64 0]) (by simp[results,Tryz.results136]) rfl ?_;refine⟨Ao,co,k,o,rfl,hO.since F0,?_,?_,S.trans (H.mono F0)⟩
   ·rw[HF.out]
    exact d.out.eng.st.ext H
   rw[HF.out,List.map_map];exact HR
  obtain⟨C,uF⟩:=zl V0;obtain⟨n,cs,rfl,F1,F,S0,V,U,A0,Z0⟩:=d.out.eng.vert (by omega);obtain⟨c0,c1⟩:=A0 i C uF;have p0:n<wr.heap.size:=AV F.lt f0;have k0:wr.cell? ⟨n,i*2,none⟩=some (.slice C.1.2.1 C.1.1.length C.1.2.2):=(H.cell (p:=⟨n,i*2,none⟩) F.lt).trans ((F.cell _).trans c0);have k1:wr.cell? ⟨n,i*2+1,none⟩=some (.slice C.2.2.1 C.2.1.length C.2.2.2):=(H.cell (p:=⟨n,i*2+1,none⟩) F.lt).trans ((F.cell _).trans c1)
  have I:Hid ((B.map Prod.fst).take (i+1)=o++[C.1]):=zc (by rw[AO,HO.out,AU,uF];rfl);clear A0 Z0 c0 c1 F uF S0 V U;have R0:=hO.alloc (Obj.cells #[.slice C.1.2.1 C.1.1.length C.1.2.2,.slice C.2.2.1 C.2.1.length C.2.2.2] 192);have P:=ze H (Obj.cells #[.slice C.1.2.1 C.1.1.length C.1.2.2,.slice C.2.2.1 C.2.1.length C.2.2.2] 192)
  have G0:=P.size;go_wp2_with (at_builtin;refine zr (enc:=Wq) rfl (.tmp 26) (.tmp 29) 108 rfl Y.heap.size 111 i0 _ 1 24 Tryz.underlying108 hi b0 d0 e0 rfl (by decide) _ o C.1 rfl R0 #[.slice C.1.2.1 C.1.1.length C.1.2.2] rfl _ (by simp) rfl rfl (by simp[Value.oneCell']) (by omega) (by decide) G0 ?_;intro g6 n0 w6 X z Y0 U0;have y:=P.trans z)
  go_roundw
  case rel=>exact⟨i+1,by go_num,by omega,by rw[I.out];exact X,y⟩
  case measure=>simp[intOf];omega
theorem YW:Enters Tryz.prog 139:=enters_of Tryz.func139 (by kernel_rfl) rfl
theorem kv:Enters Tryz.prog 137:=enters_of Tryz.func137 (by kernel_rfl) rfl
theorem QG(x:Int)(w:World):Calls Tryz.prog 139 #[.int .i64 x] w λe A=>e=.returned (.bool true)/\Below w.heap.size w A:=by
 go_enter Tryz.func139,Tryz.ntmps139
 go_wp2_with fail;go_ret;exact⟨rfl,by go_grown⟩
theorem Uo(base e c H I C:Nat)(A F G:Option Addr)(g:zf)(p:Int)(B:List xQ)(w:World)(N:fR w base e A c F H g p G I B)(M:zj w C 163 #[.pointer (some ⟨e,0,none⟩)]) :
  Calls Tryz.prog 137 #[.pointer (some ⟨C,0,none⟩)] w (Zr (tM g p (yV B)) w):=by
 have E:=QU base e c H I A F G g p B 139 #[] (λ_=>true) w N YW λW x _=>QG x W;rw[SU]at E;have D:w.cell? ⟨C,0,none⟩=some (.pointer (some ⟨e,0,none⟩)):=M.cell 0
 go_enter Tryz.func137,Tryz.ntmps137
 go_wp2_with fail;refine E.mono ?_;rintro O P ⟨v,rfl,J,K,L⟩;clear E;go_wp2_with fail;go_ret;exact⟨v,rfl,J,K,L⟩
section
variable {w w':World}{base b0 e c c' cv:Nat}{A A' Av:Option Addr}{g:zf}{p v:Int}{items:List xQ}
theorem cX.since(h:cX w base e A c A' c' g p Av cv items)(hb:b0<=base):cX w b0 e A c A' c' g p Av cv items:=
 ⟨h.blk,Ai hb h.eb,h.own.since hb,h.all,⟨λx hx=>(h.st.own x hx).since hb,h.st.apart⟩,λit hi=>(h.fr it hi).since hb,h.gr⟩
theorem Uq(hV:zx g):∀m,m∈uU g p v->(∀q,q∈m->sD g.h q)/\m.length<=100:=λm hm=>by
 obtain⟨i,hi⟩:=AM hm;obtain⟨l,hl⟩:=zl (show i<g.lives.length by
  have:=zy hi
  rwa[sf]at this)
 rw[nY hl]at hi;obtain rfl:=AB hi;refine⟨dA (pL hV hl),?_⟩;unfold xI
 split
 ·simp
 split <;> simp
end
def OU(g:zf)(p v:Int)(w:World)(e:Ending)(w':World):Prop:=(zZ g p v≠0/\e=.returned (.tuple #[.slice none 0 0,.int .i64 0,.int .i64 (zZ g p v)])/\Below w.heap.size w w')∨(zZ g p v=0/\RA w g p v e w')
theorem Yc{g:zf}{p v:Int}(h:zZ g p v=0):zx g:=by
 unfold zZ at h
 split at h
 ·next h1=>exact uX h1
 next h1=>exact absurd h h1
theorem eC(A F:Option Addr)(c G:Nat)(g:zf)(p v:Int)(w:World)(f:zv w A c F G g) :
  Calls Tryz.prog 106 #[gV A c F G g,.int .i64 p,.int .i64 v] w (OU g p v w):=by
 have hent:=kv;unfold Enters at hent;have P:=zc f;clear f
 by_cases H:zZ g p v=0
 case neg=>
  have X:(zZ g p v != 0)=true:=by simp[H]
  have T:=zc H;clear H
  go_enter Tryz.func106,Tryz.ntmps106
  go_wp2_with fail;refine(jF A F c G g p v _ (P.out.ext (by go_grown))).mono ?_;rintro e S ⟨rfl,C⟩;have D:Below w.heap.size w S:=za (by go_grown) C;go_wp2_with fail;refine AP (v:=.tuple #[.slice none 0 0,.int .i64 0,.int .i64 (zZ g p v)]) (by simp[results,Tryz.results106]) rfl ?_;exact .inl ⟨T.out,rfl,D⟩
 have X:(zZ g p v != 0)=false:=by simp[H]
 have T:=zc H;have i:=Yc H;have R:=zc i;clear H i
 go_enter Tryz.func106,Tryz.ntmps106
 go_wp2_with fail;refine(jF A F c G g p v _ (P.out.ext (by go_grown))).mono ?_;rintro e S ⟨rfl,C⟩;obtain⟨j,l,m,n⟩:=(zj.new w 68 (gC A c F G g)).go C;have D:Below w.heap.size w S:=za (by go_grown) C;clear C;go_wp2_with fail;refine(Rc A F c G g p v S (P.out.ext D) R.out).mono ?_;rintro e L ⟨K,Z,b,B,rfl,d,Q,N⟩;have V:=za D N
 have r:=D.size;clear l m n N j;have M:fR (L.alloc (Obj.cells #[.pointer (some ⟨K,0,none⟩)] 163)) w.heap.size K A c F G g p Z b B:=⟨(d.since r).ext (ze (Ae _ _) _),by
  have U:=congrArg List.length Q.out.1
  rwa[sf,pg,Az]at U,R.out,λs q=>Uq R.out _ (by rw[<-Q.out.2];exact AD.2 ⟨s,q,rfl⟩)⟩
 have I:=zj.new L 163 #[.pointer (some ⟨K,0,none⟩)];have h:mC g p v 0 (pg B) (yV B) (λ_ _=>vN):=by rw[Q.out.1,Q.out.2];exact Ur R.out p v
 have O:=PS K c G b L.heap.size A F Z g p v B 137 #[.pointer (some ⟨L.heap.size,0,none⟩)] 163 (by decide) w _ M h P.out (ze V _) I kv (λW t U o=>Uo _ _ _ _ _ _ _ _ _ _ _ _ W U o);have J:(L.alloc (Obj.cells #[.pointer (some ⟨K,0,none⟩)] 163)).cell? ⟨L.heap.size,0,none⟩=some (.pointer (some ⟨K,0,none⟩)):=I.cell 0;clear d M h I
 go_wp2_with fail;refine O.mono ?_;rintro e w3 ⟨Y,a,k,E,rfl,u,x,y,z⟩;clear O J;go_wp2_with fail;refine AP (v:=.tuple #[.slice Y E.length a,.int .i64 k,.int .i64 0]) (by simp[results,Tryz.results106]) rfl ?_;exact .inr ⟨T.out,Y,a,k,E,rfl,u,x,y,z⟩
section
variable {p v:Int}{k k':Nat}{g:zf}{out out':List (List zg)}
theorem tu.le(h:tu g p v k out)(D:tu g p v k' out'):k<=k':=by
 rcases h.last with E|⟨t,d,ht,j,hj,hd,hne⟩
 ·omega
 obtain⟨A,B⟩:=D.at_ t ht.1 ht.2;obtain⟨C,_⟩:=h.at_ t ht.1 ht.2;exact A.first B C (.inr ⟨j,d,hj,hd,hne⟩)
theorem tu.eq(h:tu g p v k out)(B:tu g p v k' out'):k=k'/\out=out':=by
 have I:k=k':=Nat.le_antisymm (h.le B) (B.le h);subst I;refine⟨rfl,List.ext_getElem? λi=>?_⟩;rcases Nat.lt_or_ge i g.lives.length with D|D
 ·obtain⟨m,E⟩:=zl (show i<out.length by rw[h.len];exact D)
  obtain⟨N,A⟩:=zl (show i<out'.length by rw[B.len];exact D);have F:=h.lies m (Ad E);have G:=B.lies N (Ad A);rw[E,A,F.eq G λt=>?_]
  by_cases C:0<=t/\t<g.h
  ·have H:=(h.at_ t C.1 C.2).1.eq (B.at_ t C.1 C.2).1
   rw[<-sK E,<-sK A,H]
  rcases F.val_cases t with⟨J,_⟩|⟨_,_,K,_⟩
  ·rcases G.val_cases t with⟨L,_⟩|⟨_,_,M,_⟩
   ·rw[J,L]
   exact absurd M C
  exact absurd K C
 rw[List.getElem?_eq_none (by rw[h.len];exact D),List.getElem?_eq_none (by rw[B.len];exact D)]
end
section
variable {p v t:Int}{k:Nat}{g:zf}{out:List (List zg)}
theorem bT(g:zf)(t:Int):∀l:List zA,(wX g t l).length<=l.length
 |[]=>Ay _
 |x::l=>by
  have ih:=bT g t l;have e:wX g t (x::l)=pB g t x++wX g t l:=rfl;have h1:(pB g t x).length<=1:=by
   unfold pB
   split
   ·split <;> simp
   simp
  rw[e,Ag,Ap];omega
theorem jy(h0:0<=v)(h1:v<g.lives.length):uy (xR g t) v=zn g v t:=by
 unfold uy;show(decide (0<=v) && ((wn g t)[v.toNat]?== some true))=_;rw[lj h0 h1]
 cases zn g v t <;> simp[h0]
theorem kg(B:zx g)(t:Int):zW (xR g t)=0:=by
 have K:=B.nl;have J:=B.ne;have H:(xR g t).alive.length=g.lives.length:=wu g t;have I:(xR g t).arcs.length<=g.edges.length:=bT g t g.edges;refine cB (by omega) ?_ ?_
 ·rw[List.all_eq_true]
  intro y D;obtain⟨x,l,C,_,_,E,F,rfl⟩:=oK D;have A:=B.edges x C;unfold wD;rw[jy A.a0 A.a1,jy A.b0 A.b1,E,F];rfl
 rw[List.all_eq_true];intro y D;obtain⟨x,l,C,_,G,_,_,rfl⟩:=oK D;have:=(B.edges x C).legs l G;simp[ri];omega
end
