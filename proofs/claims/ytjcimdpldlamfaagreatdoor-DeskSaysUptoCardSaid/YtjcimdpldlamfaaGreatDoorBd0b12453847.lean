import Derived.SizedLaws
import Derived.ChangeMaps5
import Derived.OrdersHeld
import Derived.StillTail
import Derived.Lib.ItoaNum
import Derived.Lib.ItoaMem
import Derived.Lib.ItoaLen
import Derived.Test.YtjcimdpldlamfaaGreatDoorBdc6e1fc44e5
namespace Go.Proofs.YtjcimdpldlamfaaGreatDoor
open Go.RowKit
def xH(x:zw):List Value:=[.int .i64 x.f,.int .i64 x.t]
abbrev wk:=zA×Option Addr×Nat
def jK(it:wk):List Value:=[.int .i64 it.1.a,.int .i64 it.1.b,.slice it.2.1 it.1.legs.length it.2.2]
def cY(w:World)(A:Option Addr)(r:List zR):Prop:=0<r.length->∃(g:Nat) (cs:Array Value),A=some ⟨g,0,none⟩/\zj w g 100 cs /\
 ∀(k:Nat) (x:zR),r[k]?=some x->cs[k*4]?=some (.int .i64 x.f)/\cs[k*4+1]?=some (.int .i64 x.t)/\cs[k*4+2]?=some (.int .i64 x.time)/\cs[k*4+3]?=some (.int .i64 x.cost)
def rS(w:World)(items:List wk):Prop:=∀it,it∈items->cY w it.2.1 it.1.legs/\it.1.legs.length<=it.2.2/\it.2.2<=maxLen
def Ru(x:zR):Prop:=zM x.f/\zM x.t/\zM x.time/\zM x.cost
section
variable {w w':World}{A:Option Addr}{r:List zR}{items:List wk}{base:Nat}{v:Value}
theorem Own.keep{α:Type}{enc:α->List Value}{sz:Nat}{e:TypeId}{l:List α}(h:Own enc sz w base e v l)(C:∀b A,zj w b e A->zj w' b e A):Own enc sz w' base e v l:=by
 refine⟨h.1,?_⟩;rcases h.2 with B|⟨g,cap,cur,hv,hg,hh,r⟩
 ·exact .inl B
 exact .inr ⟨g,cap,cur,hv,hg,C g cur hh,r⟩
theorem Own.room{α:Type}{enc:α->List Value}{sz:Nat}{e:TypeId}{n c:Nat}{l:List α}(h:Own enc sz w base e (.slice A n c) l):l.length<=c/\c<=maxLen:=by
 rcases h.2 with⟨B,E⟩|⟨g,C,D,G,_,_,B,F,_⟩
 ·cases B;rw[E];simp
 cases G;exact⟨B,F⟩
theorem cY.keep(h:cY w A r)(hk:∀b cs,zj w b 100 cs->zj w' b 100 cs):cY w' A r:=λh0=>by
 obtain⟨g,cs,h1,h2,h3⟩:=h h0;exact⟨g,cs,h1,hk _ _ h2,h3⟩
theorem cY.slAt(h:cY w A r)(hi:∀x,x∈r->Ru x):zU yY 4 w A r:=by
 rcases Nat.eq_zero_or_pos r.length with B|B
 ·rw[List.eq_nil_of_length_eq_zero B];exact zU.nil
 obtain⟨g,K,rfl,C,J⟩:=h B;refine⟨g,0,λi x D=>⟨rfl,C.lt,?_⟩⟩;obtain⟨E,F,G,H⟩:=J i x D;have I:=hi x (List.mem_of_getElem? D);refine⟨⟨?_,?_,?_,?_⟩,I⟩ <;> (unfold zJ;rw[Nat.zero_add,C.cell])
 ·exact E
 ·exact F
 ·exact G
 exact H
theorem cY.one{g:Nat}{x:zR}(h:zj w g 100 #[.int .i64 x.f,.int .i64 x.t,.int .i64 x.time,.int .i64 x.cost]):cY w (some ⟨g,0,none⟩) [x]:=λ_=>⟨g,_,rfl,h,λk y A=>by
 match k,A with
 |0,A=>
  obtain rfl:x=y:=by simpa using A
  simp
 |k+1,A=>simp at A⟩
theorem rS.keep(h:rS w items)(hk:∀b cs,zj w b 100 cs->zj w' b 100 cs):rS w' items:=λit hi=>⟨(h it hi).1.keep hk,(h it hi).2⟩
theorem rS.nil:rS w []:=λit h=>by simp at h
theorem rS.snoc{A:wk}(h:rS w items)(hi:cY w A.2.1 A.1.legs/\A.1.legs.length<=A.2.2/\A.2.2<=maxLen):rS w (items++[A]):=λy B=>by
 rcases List.mem_append.1 B with B|B
 ·exact h y B
 obtain rfl:y=A:=by simpa using B
 exact hi
theorem QW{α β:Type}{R:World->Nat->Nat->β->Prop}{sz:Nat}{f:α->β}{l:List α}(h:zU (λw b o x=>R w b o (f x)) sz w A l):zU R sz w A (l.map f):=by
 obtain⟨b,B,h⟩:=h;refine⟨b,B,λi x C=>?_⟩;simp only[List.getElem?_map,Option.map_eq_some_iff]at C;obtain⟨y,D,rfl⟩:=C;exact h i y D
theorem gH{l:List zw}(h:Own xH 2 w base 94 v l)(hi:∀x,x∈l->zM x.f/\zM x.t):∃A c,v=.slice A l.length c/\zU Yt 2 w A l:=
 Own.slAt (R:=Yt) (enc:=xH) (λ_=>rfl) (λx hx b o hc=>⟨⟨by have:=hc 0 _ rfl;simpa using this,by have:=hc 1 _ rfl;simpa using this⟩,hi x hx⟩) h
theorem aP(h:Own jK 3 w base 97 v items)(G:rS w items)(hi:∀B,B∈items->zM B.1.a/\zM B.1.b/\∀x,x∈B.1.legs->Ru x):∃A c,v=.slice A items.length c/\zU bN 3 w A (items.map Prod.fst):=by
 obtain⟨A,c,I,H⟩:=Own.slAt (R:=λw b o (B:wk)=>bN w b o B.1) (enc:=jK) (λ_=>rfl) (λB F b o E=>by
  have C:=hi B F;have D:=G B F;exact⟨⟨by have:=E 0 _ rfl;simpa using this,by have:=E 1 _ rfl;simpa using this,B.2.1,B.2.2,by have:=E 2 _ rfl;simpa using this,D.2.1,D.2.2,D.1.slAt C.2.2⟩,C.1,C.2.1⟩) h
 exact⟨A,c,I,QW (f:=Prod.fst) H⟩
end
theorem wv{w:World}{b g:Nat}{t C:TypeId}{cs A:Array Value}(h:zj w b t cs)(B:zj w g C A)(D:t≠C):b≠g:=by
 intro e;subst e;unfold zj at h B;rw[h]at B
 cases B
 exact D rfl
theorem zG{w:World}{g:Nat}{t e:TypeId}{cs':Array Value}(h':zj w g t cs')(ht:e≠t)(i:Nat)(u:Value):∀b cs,zj w b e cs->zj (w.setCell ⟨g,i,none⟩ u) b e cs:=λ_ _ h=>h.far (wv h h' ht) u
theorem Own.block_lt{α:Type}{enc:α->List Value}{sz:Nat}{w:World}{base:Nat}{e:TypeId}{v:Value}{l:List α}(h:Own enc sz w base e v l){b:Nat}(hb:w.heap.size<=b):some b≠v.ownBlock:=λe=>by
 have:=(World.ownsRow.lt h b e.symm).2;omega
theorem zr{P:Program}{I:Array Oper}{rest:List Oper}{o:Oper}{a:Act}{Q:Exit->Act->World->Prop}{A:World}{α:Type}{enc:α->List Value}(O:o.guard=none)(s x:Operand)(t:TypeId)
  (d:o.op=.call { callee:=.builtin .append,args:=#[s,x],argTypes:=#[t,t]})
  (base:Nat) (e:TypeId) (i:TypeInfo) (z:Value) (size bytes:Nat) (m:P.underlying t=some (.slice e)) (hi:P.info? e=some i) (q:i.zero=some z)
  (F:i.size=size) (L:i.bytes=bytes) (T:z.cells.size=size) (S:0<size)
  (v:Value) (l:List α) (y:α) (f:a.eval s=v) (C:Own enc size A base e v l) (cs:Array Value) (N:cs.toList=enc y) (k:Nat) (R:k=A.heap.size) (p:a.eval x=.slice (some ⟨k,0,none⟩) 1 1) (M:cs.size=size)
  (h1:∀u∈cs.toList,u.oneCell'=true) (J:l.length+1<=1000000) (H:bytes<=1000) (E:base<=A.heap.size)
  (h:∀g B G,Own enc size G base e (.slice (some ⟨g,0,none⟩) (l.length+1) B) (l++[y])->Below base A G->(∀b U D,zj A b U D->some b≠v.ownBlock->zj G b U D)->(v.ownBlock=some g∨A.heap.size<g) ->
   wpList P I Q rest (a.put o.dst (.slice (some ⟨g,0,none⟩) (l.length+1) B)) G):wpList P I Q (o::rest) a (A.alloc (.cells cs e)):=by
 subst R;have K:(l.length+1)*bytes<=140737488355328:=Nat.le_trans (Nat.mul_le_mul J H) (by decide);refine wpList_append_lies (A.alloc (.cells cs e)) O s x t d base e i z size bytes m hi q F L T S v l.length (l.flatMap enc) f (World.ownsRow.alloc C _) ⟨A.heap.size,0,none⟩ 1 1 cs.toList p (by simp[M])
  ?_ h1 (by omega) (by unfold maxLen;omega) K (by simp;omega) (A.heap.size+1) (by simp) ?_
 ·intro j u n
  rw[Go.WideShapes.add_plain,cell_of_row _ _ _ cs e (0,0) (heap_alloc_new A _)];simpa using n
 intro g B G W V X _;refine h g B G ?_ ?_ (λb U D Y c=>(Y.alloc _).grown V c) (X.imp id λe=>by omega)
 ·show G.ownsRow base e size _ (l++[y]).length ((l++[y]).flatMap enc)
  rw[List.flatMap_append,List.length_append];simpa[N]using W
 have Z:Below base A (A.alloc (.cells cs e)):=(Below.refl _ _).alloc E _;exact Z.grown V (by simp;omega) λk R=>(World.ownsRow.lt C k R).1
theorem yR{P:Program}{o:Oper}{a:Act}{K:Act->World->Prop}{Q:Exit->Act->World->Prop}{A:World}{α:Type}{enc:α->List Value}(s x:Operand)(t:TypeId)
  (c:o.op=.call { callee:=.builtin .append,args:=#[s,x],argTypes:=#[t,t]})
  (base:Nat) (e:TypeId) (i:TypeInfo) (z:Value) (size bytes:Nat) (f:P.underlying t=some (.slice e)) (hi:P.info? e=some i) (p:i.zero=some z)
  (F:i.size=size) (L:i.bytes=bytes) (S:z.cells.size=size) (R:0<size)
  (v:Value) (l:List α) (y:α) (d:a.eval s=v) (C:Own enc size A base e v l) (cs:Array Value) (N:cs.toList=enc y) (k:Nat) (O:k=A.heap.size) (n:a.eval x=.slice (some ⟨k,0,none⟩) 1 1) (M:cs.size=size)
  (h1:∀u∈cs.toList,u.oneCell'=true) (I:l.length+1<=1000000) (H:bytes<=1000) (E:base<=A.heap.size)
  (h:∀g B G,Own enc size G base e (.slice (some ⟨g,0,none⟩) (l.length+1) B) (l++[y])->Below base A G->(∀b T D,zj A b T D->some b≠v.ownBlock->zj G b T D)->(v.ownBlock=some g∨A.heap.size<g) ->
   K (a.put o.dst (.slice (some ⟨g,0,none⟩) (l.length+1) B)) G):Oper.wp P o a (A.alloc (.cells cs e)) K Q:=by
 subst O;have J:(l.length+1)*bytes<=140737488355328:=Nat.le_trans (Nat.mul_le_mul I H) (by decide);refine wp_append_lies (A.alloc (.cells cs e)) s x t c base e i z size bytes f hi p F L S R v l.length (l.flatMap enc) d (World.ownsRow.alloc C _) ⟨A.heap.size,0,none⟩ 1 1 cs.toList n (by simp[M])
  ?_ h1 (by omega) (by unfold maxLen;omega) J (by simp;omega) (A.heap.size+1) (by simp) ?_
 ·intro j u m
  rw[Go.WideShapes.add_plain,cell_of_row _ _ _ cs e (0,0) (heap_alloc_new A _)];simpa using m
 intro g B G V U W _;refine h g B G ?_ ?_ (λb T D X Z=>(X.alloc _).grown U Z) (W.imp id λe=>by omega)
 ·show G.ownsRow base e size _ (l++[y]).length ((l++[y]).flatMap enc)
  rw[List.flatMap_append,List.length_append];simpa[N]using V
 have Y:Below base A (A.alloc (.cells cs e)):=(Below.refl _ _).alloc E _;exact Y.grown U (by simp;omega) λk O=>(World.ownsRow.lt C k O).1
theorem Qq:(Tryz.prog.info? 94).map (λi=>(i.zero,i.size,i.bytes))=some (some (.agg #[.int .i64 0,.int .i64 0]),2,16):=by kernel_rfl
theorem TW:(Tryz.prog.info? 97).map (λi=>(i.zero,i.size,i.bytes))=some (some (.agg #[.int .i64 0,.int .i64 0,.slice none 0 0]),3,40):=by kernel_rfl
theorem rj:∃i,Tryz.prog.info? 94=some i/\i.zero=some (.agg #[.int .i64 0,.int .i64 0])/\i.size=2/\i.bytes=16:=by
 obtain⟨C,B,A⟩:=Option.map_eq_some_iff.1 Qq;simp only[Prod.mk.injEq]at A;exact⟨C,B,A.1,A.2.1,A.2.2⟩
theorem df:∃i,Tryz.prog.info? 97=some i/\i.zero=some (.agg #[.int .i64 0,.int .i64 0,.slice none 0 0])/\i.size=3/\i.bytes=40:=by
 obtain⟨C,B,A⟩:=Option.map_eq_some_iff.1 TW;simp only[Prod.mk.injEq]at A;exact⟨C,B,A.1,A.2.1,A.2.2⟩
theorem pN{a b:Int}:∀u∈(#[.int .i64 a,.int .i64 b]:Array Value).toList,u.oneCell'=true:=by simp[Value.oneCell']
theorem Za{a b:Int}{A:Option Addr}{n c:Nat}:∀u∈(#[.int .i64 a,.int .i64 b,.slice A n c]:Array Value).toList,u.oneCell'=true:=by simp[Value.oneCell']
def iS(w:World)(b o:Nat)(x:zg):Prop:=(zJ w b o (.int .i64 x.f)/\zJ w b (o+1) (.int .i64 x.t)/\zJ w b (o+2) (.int .i64 x.v))/\zM x.f/\zM x.t/\zM x.v
theorem iS.stable:rT iS:=λ_ _ _ _ _ hb hlt h=>⟨⟨h.1.1.ext hb hlt,h.1.2.1.ext hb hlt,h.1.2.2.ext hb hlt⟩,h.2⟩
structure IvlsAt(w:World)(A:Option Addr)(c:Nat)(l:List zw):Prop where
 lc:l.length<=c
 cm:c<=maxLen
 sl:zU Yt 2 w A l
structure PiecesAt(w:World)(A:Option Addr)(c:Nat)(l:List zg):Prop where
 lc:l.length<=c
 cm:c<=maxLen
 sl:zU iS 3 w A l
section
variable {w w':World}{A:Option Addr}{c n k:Nat}{l:List zw}{m:List zg}{base:Nat}{v:Value}
theorem IvlsAt.ext(h:IvlsAt w A c l)(hb:Below w.heap.size w w'):IvlsAt w' A c l:=⟨h.lc,h.cm,h.sl.ext Yt.stable hb⟩
theorem PiecesAt.ext(h:PiecesAt w A c m)(hb:Below w.heap.size w w'):PiecesAt w' A c m:=⟨h.lc,h.cm,h.sl.ext iS.stable hb⟩
theorem IvlsAt.drewN(h:IvlsAt w A c l)(n:Nat):IvlsAt (w.drewN n) A c l:=⟨h.lc,h.cm,h.sl⟩
theorem PiecesAt.drewN(h:PiecesAt w A c m)(n:Nat):PiecesAt (w.drewN n) A c m:=⟨h.lc,h.cm,h.sl⟩
theorem IvlsAt.nil:IvlsAt w none 0 []:=⟨Nat.le_refl _,Nat.zero_le _,zU.nil⟩
theorem PiecesAt.nil:PiecesAt w none 0 []:=⟨Nat.le_refl _,Nat.zero_le _,zU.nil⟩
theorem IvlsAt.len(h:IvlsAt w A c l):l.length<=9223372036854775807:=Nat.le_trans h.lc h.cm
theorem PiecesAt.len(h:PiecesAt w A c m):m.length<=9223372036854775807:=Nat.le_trans h.lc h.cm
theorem IvlsAt.get(h:IvlsAt w A c l){x:zw}(G:l[k]?=some x):∃b B,A=some ⟨b,B,none⟩/\b<w.heap.size/\w.cell? ⟨b,B+k*2,none⟩=some (.int .i64 x.f)/\w.cell? ⟨b,B+k*2+1,none⟩=some (.int .i64 x.t):=by
 obtain⟨b,B,F⟩:=h.sl;obtain⟨D,E,C,_⟩:=F k x G;exact⟨b,B,D,E,C.1,C.2⟩
theorem IvlsAt.i64(h:IvlsAt w A c l){x:zw}(C:l[k]?=some x):zM x.f/\zM x.t:=by
 obtain⟨b,D,B⟩:=h.sl;exact(B k x C).2.2.2
theorem PiecesAt.get(h:PiecesAt w A c m){x:zg}(G:m[k]?=some x):∃b B,A=some ⟨b,B,none⟩/\b<w.heap.size/\w.cell? ⟨b,B+k*3,none⟩=some (.int .i64 x.f)/\w.cell? ⟨b,B+k*3+1,none⟩=some (.int .i64 x.t)/\w.cell? ⟨b,B+k*3+2,none⟩=some (.int .i64 x.v):=by
 obtain⟨b,B,F⟩:=h.sl;obtain⟨D,E,C,_⟩:=F k x G;exact⟨b,B,D,E,C.1,C.2.1,C.2.2⟩
theorem PiecesAt.i64(h:PiecesAt w A c m){x:zg}(C:m[k]?=some x):zM x.f/\zM x.t/\zM x.v:=by
 obtain⟨b,D,B⟩:=h.sl;exact(B k x C).2.2.2
def zK(x:zg):List Value:=[.int .i64 x.f,.int .i64 x.t,.int .i64 x.v]
structure vW(base:Nat)(w:World)(A:Option Addr)(c:Nat)(l:List zw):Prop extends IvlsAt w A c l where
 own:Own xH 2 w base 94 (.slice A l.length c) l
structure xL(base:Nat)(w:World)(A:Option Addr)(c:Nat)(l:List zg):Prop extends PiecesAt w A c l where
 own:Own zK 3 w base 113 (.slice A l.length c) l
instance {base:Nat} {w:World} {A:Option Addr} {c:Nat} {l:List zw}:CoeOut (vW base w A c l) (IvlsAt w A c l):=⟨λh=>h.toIvlsAt⟩
instance {base:Nat} {w:World} {A:Option Addr} {c:Nat} {l:List zg}:CoeOut (xL base w A c l) (PiecesAt w A c l):=⟨λh=>h.toPiecesAt⟩
theorem vW.ext(h:vW base w A c l)(hb:Below w.heap.size w w'):vW base w' A c l:=⟨h.toIvlsAt.ext hb,h.own.ext hb⟩
theorem xL.ext(h:xL base w A c m)(hb:Below w.heap.size w w'):xL base w' A c m:=⟨h.toPiecesAt.ext hb,h.own.ext hb⟩
theorem vW.nil:vW base w none 0 []:=⟨IvlsAt.nil,Own.nil⟩
theorem xL.nil:xL base w none 0 []:=⟨PiecesAt.nil,Own.nil⟩
theorem Own.since{α:Type}{enc:α->List Value}{sz b0:Nat}{e:TypeId}{l:List α}(h:Own enc sz w base e v l)(B:b0<=base):Own enc sz w b0 e v l:=by
 refine⟨h.1,?_⟩;rcases h.2 with A|⟨g,cap,cur,hv,hg,hh⟩
 ·exact .inl A
 exact .inr ⟨g,cap,cur,hv,by omega,hh⟩
theorem vW.since{b0:Nat}(h:vW base w A c l)(hb:b0<=base):vW b0 w A c l:=⟨h.toIvlsAt,h.own.since hb⟩
theorem xL.since{b0:Nat}(h:xL base w A c m)(hb:b0<=base):xL b0 w A c m:=⟨h.toPiecesAt,h.own.since hb⟩
theorem dS{l:List zg}(h:Own zK 3 w base 113 v l)(hi:∀x,x∈l->zM x.f/\zM x.t/\zM x.v):∃A c,v=.slice A l.length c/\xL base w A c l:=by
 obtain⟨A,c,D,C⟩:=Own.slAt (R:=iS) (enc:=zK) (λ_=>rfl) (λx E b o B=>⟨⟨by have:=B 0 _ rfl;simpa using this,by have:=B 1 _ rfl;simpa using this,by have:=B 2 _ rfl;simpa using this⟩,hi x E⟩) h;subst D;exact⟨A,c,rfl,⟨h.room.1,h.room.2,C⟩,h⟩
theorem pc{l:List zw}(h:Own xH 2 w base 94 v l)(hi:∀x,x∈l->zM x.f/\zM x.t):∃A c,v=.slice A l.length c/\vW base w A c l:=by
 obtain⟨A,c,C,B⟩:=gH h hi;subst C;exact⟨A,c,rfl,⟨h.room.1,h.room.2,B⟩,h⟩
theorem un{n:Int}(h:zL n=true):zM n:=by
 have:=wQ.1 h;exact⟨by omega,by omega⟩
end
theorem Vz:(Tryz.prog.info? 113).map (λi=>(i.zero,i.size,i.bytes))=some (some (.agg #[.int .i64 0,.int .i64 0,.int .i64 0]),3,24):=by kernel_rfl
theorem mU:∃i,Tryz.prog.info? 113=some i/\i.zero=some (.agg #[.int .i64 0,.int .i64 0,.int .i64 0])/\i.size=3/\i.bytes=24:=by
 obtain⟨C,B,A⟩:=Option.map_eq_some_iff.1 Vz;simp only[Prod.mk.injEq]at A;exact⟨C,B,A.1,A.2.1,A.2.2⟩
theorem mg{a b c:Int}:∀u∈(#[.int .i64 a,.int .i64 b,.int .i64 c]:Array Value).toList,u.oneCell'=true:=by simp[Value.oneCell']
abbrev PF(x:zw):Value:=.agg #[.int .i64 x.f,.int .i64 x.t]
abbrev dV(x:zg):Value:=.agg #[.int .i64 x.f,.int .i64 x.t,.int .i64 x.v]
def Pl(b0:Nat)(R:Int->List zw->Prop)(w:World)(e:Ending)(w':World):Prop:=∃er out A c,Hid (R er out)/\e=.returned (.tuple #[.slice A out.length c,.int .i64 er])/\vW b0 w' A c out/\Below w.heap.size w w'
def ey(R:Int->List zw->Prop)(w:World)(e:Ending)(w':World):Prop:=∃er out A c,Hid (R er out)/\e=.returned (.tuple #[.slice A out.length c,.int .i64 er])/\vW w.heap.size w' A c out/\Below w.heap.size w w'
def Rv(R:Int->List zg->Prop)(w:World)(e:Ending)(w':World):Prop:=∃er out A c,Hid (R er out)/\e=.returned (.tuple #[.slice A out.length c,.int .i64 er])/\xL w.heap.size w' A c out/\Below w.heap.size w w'
open Go.ChangeShapes Go.WideShapes Go.RowKit Go.Deep Go.Joins
section
variable {H:Type}{enc:TypeId×Value->H}{W:World}{spare:Nat->Bool}{held:Bool}
instance:Inhabited zg:=⟨⟨0,0,0⟩⟩
end
set_option maxRecDepth 100000
open Go.ChangeMaps (open_string)
section
variable {H:Type}{enc:TypeId×Value->H}{W:World}{spare:Nat->Bool}{held:Bool}
theorem string_sized{v:Value}{d:DataW H}{p:List MemPlace}{r:Reach}{b0:Nat}(B:Value.okWide Tryz.prog W r b0 9 v)(h:DataW.Trod enc Tryz.prog W 0 spare held 9 v d p):∃s:ByteArray,v=.string s/\d=.lit (.string s.data.toList):=by
 obtain⟨s,rfl,A,_,_⟩:=open_string Tryz.underlying9 B h;exact⟨s,rfl,A⟩
end
open Go Go.RowKit
section
variable {P:Program}{ops:Array Oper}{Q:Exit->Act->World->Prop}{md:Region.Mode}{S:World->Prop}
def zV(P:Program)(md:Region.Mode)(ops:Array Oper)(Q:Exit->Act->World->Prop)(S:World->Prop)(n:Nat):Nat->Array Bool->Act->World->Prop
 |0,listed,a,w=>Region.ready md ops listed=[]/\Q .normal a w
 |f+1,listed,a,w=>(Region.ready md ops listed=[]->Q .normal a w) /\
   ∀i∈Region.ready md ops listed,wpOp P ops Q i (λa' w'=>(i<n->S w')/\zV P md ops Q S n f (listed.setIfInBounds i true) a' w') a w
theorem zV.any{n:Nat}:∀(f:Nat) (listed:Array Bool) (a:Act) (w:World),zV P md ops Q S n f listed a w->wpAny P md ops Q f listed a w
 |0,_,_,_,h=>h
 |f+1,_,_,_,h=>⟨h.1,λi hi=>wpOp_mono (λ_ _ h'=>h'.2.any f _ _ _) (h.2 i hi)⟩
theorem zV.first{n i:Nat}{K:Oper}{v:Value}(hi:ops[i]?=some K)(D:∀(j:Nat) (o:Oper) cs b,ops[j]?=some o->o.op≠.select cs b)
  (p:∀c a w,Q (.panic c) (a.put K.dst v) w->Q (.panic c) a w) (x:Region.sinkB md ops n=true) (r:Region.chainB md ops n=true) (u:n<ops.size) (Y:i<n) (f:Nat) :
  ∀(listed:Array Bool) (a:Act) (w:World),HeadInv md ops n listed ->
   (∀j I,ops[j]?=some I->j≠i->listed.getD j true=false->(∀e∈I.after,Region.binds md e=true->e.on≠i)->K.apart ops I=true) ->
   i∈Region.ready md ops listed->YieldsIf P ops S K v a->S w->zV P md ops Q S n f (listed.setIfInBounds i true) (a.put K.dst v) w->zV P md ops Q S n (f+1) listed a w:=by
 induction f with
 |zero=>
  intro listed a w G _ F W L H;refine⟨λh=>(by rw[h]at F;cases F),λj J=>?_⟩
  by_cases A:j=i
  ·subst A;exact W.wpOp hi L ⟨λ_=>L,H⟩
  have g:=ready_mono J A;rw[H.1]at g
  cases g
 |succ f ih=>
  intro listed a w G B F W L H;have T:=(mem_ready.1 F).1;refine⟨λh=>(by rw[h]at F;cases F),λj J=>?_⟩;have O:j<n:=by
   rcases Nat.lt_or_ge j n with h|h
   ·exact h
   exact absurd J (tail_waits x r u G _ i rfl Y T j h)
  by_cases A:j=i
  ·subst A;exact W.wpOp hi L ⟨λ_=>L,H⟩
  obtain⟨C,I,E,M⟩:=mem_ready.1 J;have R:∀e∈I.after,Region.binds md e=true->e.on≠i:=λe s q X=>by
   have U:=M e s q;rw[X,getD_both T]at U
   cases U
  have U:=wpOp_putIf E (B j I E A C R) (λcs b=>D i K cs b hi) (λcs b=>D j I cs b E) p W (H.2 j (ready_mono J A));refine wpOp_mono (λm z V=>⟨V.2.1,ih (listed.setIfInBounds j true) m z (G.set J O) (λk y t Z l d=>B k y t Z ?_ d) (ready_mono F (Ne.symm A)) V.1 (V.2.1 O) ?_⟩) U
  ·by_cases N:j=k
   ·subst N;exact C
   rw[getD_set_ne true N]at l;exact l
  rw[Array.setIfInBounds_comm _ _ A];exact V.2.2
def Xi(md:Region.Mode)(ops:Array Oper)(n:Nat)(listed:Array Bool):Bool:=
 decide (listed.size=ops.size) && (List.range ops.size).all λj=>(decide (j<n) || !listed.getD j true) && (!listed.getD j false || match ops[j]? with
  |some oj=>oj.after.all λe=>!Region.binds md e || listed.getD e.on false
  |none=>true)
theorem TP{n:Nat}{A:Array Bool}(h:Xi md ops n A=true):HeadInv md ops n A:=by
 simp only[Xi,Bool.and_eq_true,decide_eq_true_eq,List.all_eq_true,List.mem_range]at h;obtain⟨F,D⟩:=h;refine⟨F,λj L E J e I H=>?_,λt K C=>?_⟩
 ·have B:=(D j (Array.getElem?_eq_some_iff.1 E).1).2
  rw[J,E]at B;simp only[Bool.not_true,Bool.false_or]at B;have G:=Array.all_eq_true'.1 B e I;simpa[H]using G
 have B:=(D t C).1;simp only[Bool.or_eq_true,decide_eq_true_eq,Bool.not_eq_true']at B;rcases B with B|B
 ·omega
 exact B
theorem zV.take{n i:Nat}{B:Oper}{v:Value}{f:Nat}{A:Array Bool}{a:Act}{w:World}(hi:ops[i]?=some B)
  (C:(Region.noSelect ops && Region.free md ops A i && (Region.ready md ops A).contains i && Region.sinkB md ops n && Region.chainB md ops n && decide (n<ops.size) && decide (i<n) && Xi md ops n A)=true)
  (L:∀c a w,Q (.panic c) (a.put B.dst v) w->Q (.panic c) a w) (N:YieldsIf P ops S B v a) (M:S w)
  (h:zV P md ops Q S n f (A.setIfInBounds i true) (a.put B.dst v) w):zV P md ops Q S n (f+1) A a w:=by
 simp only[Bool.and_eq_true,decide_eq_true_eq]at C;obtain⟨⟨⟨⟨⟨⟨⟨D,E⟩,F⟩,G⟩,H⟩,I⟩,J⟩,K⟩:=C;exact zV.first hi (Region.noSelect_spec D) L G H I J f A a w (TP K) (Region.free_spec hi E) (by simpa using F) N M h
theorem zV.one{n i:Nat}{C:Oper}{f:Nat}{A:Array Bool}{a:Act}{w:World}(hi:ops[i]?=some C)(B:(Region.ready md ops A== [i] && Region.wanted C (yielded ops a.tmps))=true)
  (h:∀K:Act->World->Prop,Hid (∀E D,((i<n->S D)/\zV P md ops Q S n f (A.setIfInBounds i true) E D)->K E D)->Oper.wp P C a w K Q):zV P md ops Q S n (f+1) A a w:=by
 simp only[Bool.and_eq_true,beq_iff_eq]at B;obtain⟨B,H⟩:=B;refine⟨λG=>(by rw[G]at B;cases B),λj F=>?_⟩;rw[B]at F;obtain rfl:j=i:=by simpa using F
 unfold wpOp;simp only[hi,H,if_true];exact .inl (h _ (zc λ_ _ h=>h))
theorem zV.done{n:Nat}{listed:Array Bool}{a:Act}{w:World}(hr:Region.ready md ops listed=[])(h:Q .normal a w):∀f,zV P md ops Q S n f listed a w
 |0=>⟨hr,h⟩
 |_+1=>⟨λ_=>h,by rw[hr];simp⟩
theorem zV.begin{id:Nat}{a:Act}{w:World}(n:Nat)(hm:P.follows .mixedOrders=true)(h:zV P .any ops Q S n ops.size (Array.replicate ops.size false) a w.drew):(Code.region id ops true).wp P Q a w:=
 wp_region_any hm (h.any _ _ _ _)
end
section
variable {P:Program}{ops:Array Oper}{Q:Exit->Act->World->Prop}{md:Region.Mode}{S:World->Prop}
theorem Tk{i:Nat}{B:Oper}{v:Value}{f:Nat}{A:Array Bool}{a:Act}{w:World}{d:Nat}(hi:ops[i]?=some B)(I:B.dst=some d)
  (C:(Region.noSelect ops && Region.free md ops A i && (Region.ready md ops A).contains i)=true)
  (D:∀c a w,Q (.panic c) (a.put (some d) v) w->Q (.panic c) a w) (J:YieldsIf P ops S B v a) (H:S w)
  (h:wpAnyH P md ops Q S f (A.setIfInBounds i true) (a.put (some d) v) w):wpAnyH P md ops Q S (f+1) A a w:=by
 simp only[Bool.and_eq_true]at C;obtain⟨⟨E,F⟩,G⟩:=C;rw[<-I]at D h;exact wpAnyH_take hi E F G D J H h
theorem zV.takeD{n i:Nat}{B:Oper}{v:Value}{f:Nat}{A:Array Bool}{a:Act}{w:World}{d:Nat}(hi:ops[i]?=some B)(F:B.dst=some d)
  (D:(Region.noSelect ops && Region.free md ops A i && (Region.ready md ops A).contains i && Region.sinkB md ops n && Region.chainB md ops n && decide (n<ops.size) && decide (i<n) && Xi md ops n A)=true)
  (C:∀c a w,Q (.panic c) (a.put (some d) v) w->Q (.panic c) a w) (G:YieldsIf P ops S B v a) (E:S w)
  (h:zV P md ops Q S n f (A.setIfInBounds i true) (a.put (some d) v) w):zV P md ops Q S n (f+1) A a w:=by
 rw[<-F]at C h;exact zV.take hi D C G E h
theorem zu{i:Nat}{C:Oper}{f:Nat}{A:Array Bool}{a:Act}{w:World}(hi:ops[i]?=some C)(B:(Region.ready md ops A== [i] && Region.wanted C (yielded ops a.tmps))=true)
  (h:∀K:Act->World->Prop,Hid (∀E D,(S D/\wpAnyH P md ops Q S f (A.setIfInBounds i true) E D)->K E D)->Oper.wp P C a w K Q):wpAnyH P md ops Q S (f+1) A a w:=by
 simp only[Bool.and_eq_true,beq_iff_eq]at B;obtain⟨B,H⟩:=B;refine⟨λG=>(by rw[G]at B;cases B),λj F=>?_⟩;rw[B]at F;obtain rfl:j=i:=by simpa using F
 unfold wpOp;simp only[hi,H,if_true];exact .inl (h _ (zc λ_ _ h=>h))
end
section
variable {P:Program}{ops:Array Oper}{Q:Exit->Act->World->Prop}{md:Region.Mode}{S:World->Prop}
def mj(P:Program)(md:Region.Mode)(ops:Array Oper)(Q:Exit->Act->World->Prop)(S:World->Prop)(n:Nat):Nat->Array Bool->Act->World->Prop
 |0,listed,a,w=>Region.ready md ops listed=[]/\Q .normal a w
 |f+1,listed,a,w=>(Region.ready md ops listed=[]->Q .normal a w) /\
   ∀i∈Region.ready md ops listed,wpOp P ops Q i (λa' w'=>((listed.setIfInBounds i true).getD n true=false->S w')/\mj P md ops Q S n f (listed.setIfInBounds i true) a' w') a w
theorem mj.any{n:Nat}:∀(f:Nat) (listed:Array Bool) (a:Act) (w:World),mj P md ops Q S n f listed a w->wpAny P md ops Q f listed a w
 |0,_,_,_,h=>h
 |f+1,_,_,_,h=>⟨h.1,λi hi=>wpOp_mono (λ_ _ h'=>h'.2.any f _ _ _) (h.2 i hi)⟩
def cV(md:Region.Mode)(ops:Array Oper)(n i:Nat):Bool:=match ops[n]? with
 |some o=>o.after.any λe=>Region.binds md e && e.on== i
 |none=>false
theorem WB{n i:Nat}(h:cV md ops n i=true){listed:Array Bool}(hu:listed.getD i true=false):n∉Region.ready md ops listed:=λhn=>by
 obtain⟨_,oj,hoj,hall⟩:=mem_ready.1 hn;unfold cV at h;rw[hoj]at h;obtain⟨e,he,h2⟩:=Array.any_eq_true'.1 h;simp only[Bool.and_eq_true,beq_iff_eq]at h2;have h3:=hall e he h2.1;rw[h2.2,getD_both hu]at h3
 cases h3
theorem mj.first{n i:Nat}{M:Oper}{v:Value}{T:World->Prop}(hi:ops[i]?=some M)(E:∀(j:Nat) (o:Oper) cs b,ops[j]?=some o->o.op≠.select cs b)
  (x:∀c a w,Q (.panic c) (a.put M.dst v) w->Q (.panic c) a w) (G:i≠n) (s:(cV md ops n i=true/\T=S)∨T=λ_=>True) (f:Nat) :
  ∀(listed:Array Bool) (a:Act) (w:World),
   (∀j K,ops[j]?=some K->j≠i->listed.getD j true=false->(∀e∈K.after,Region.binds md e=true->e.on≠i)->M.apart ops K=true) ->
   i∈Region.ready md ops listed->YieldsIf P ops T M v a->(listed.getD n true=false->S w)->(T=S->listed.getD n true=false∨T=λ_=>True)->mj P md ops Q S n f (listed.setIfInBounds i true) (a.put M.dst v) w->mj P md ops Q S n (f+1) listed a w:=by
 have N:∀(listed:Array Bool) w,(listed.getD n true=false->S w)->(T=S->listed.getD n true=false∨T=λ_=>True)->T w:=λlisted w F L=>by
  rcases s with⟨_,h⟩|h
  ·rcases L h with C|C
   ·rw[h];exact F C
   rw[C];trivial
  rw[h];trivial
 induction f with
 |zero=>
  intro listed a w _ J Z F L H;refine⟨λh=>(by rw[h]at J;cases J),λj R=>?_⟩
  by_cases A:j=i
  ·subst A;exact Z.wpOp hi (N listed w F L) ⟨λh=>F (by rwa[getD_set_ne true G]at h),H⟩
  have r:=ready_mono R A;rw[H.1]at r
  cases r
 |succ f ih=>
  intro listed a w B J Z F L H;have X:=(mem_ready.1 J).1;refine⟨λh=>(by rw[h]at J;cases J),λj R=>?_⟩
  by_cases A:j=i
  ·subst A;exact Z.wpOp hi (N listed w F L) ⟨λh=>F (by rwa[getD_set_ne true G]at h),H⟩
  obtain⟨D,K,I,O⟩:=mem_ready.1 R;have V:∀e∈K.after,Region.binds md e=true->e.on≠i:=λe z y l=>by
   have C:=O e z y;rw[l,getD_both X]at C
   cases C
  have C:=wpOp_putIf I (B j K I A D V) (λcs b=>E i M cs b hi) (λcs b=>E j K cs b I) x Z (H.2 j (ready_mono R A));have W:((listed.setIfInBounds i true).setIfInBounds j true).getD n true=(listed.setIfInBounds j true).getD n true:=by
   rw[Array.setIfInBounds_comm _ _ (Ne.symm A),getD_set_ne true G]
  refine wpOp_mono (λu w' Y=>⟨λh=>Y.2.1 (by rw[W];exact h),ih (listed.setIfInBounds j true) u w' (λk ok hk p t q=>B k ok hk p ?_ q) (ready_mono J (Ne.symm A)) Y.1 (λh=>Y.2.1 (by rw[W];exact h)) (λg=>?_) ?_⟩) C
  ·by_cases U:j=k
   ·subst U;exact D
   rw[getD_set_ne true U]at t;exact t
  ·rcases s with⟨hw,_⟩|h
   ·have m:j≠n:=λe=>WB hw X (e ▸ R)
    rcases L g with d|d
    ·exact .inl (by rw[getD_set_ne true m];exact d)
    exact .inr d
   exact .inr h
  rw[Array.setIfInBounds_comm _ _ A];exact Y.2.2
theorem mj.takeD{n i:Nat}{B:Oper}{v:Value}{f:Nat}{A:Array Bool}{a:Act}{w:World}{d:Nat}(hi:ops[i]?=some B)(L:B.dst=some d)
  (C:(Region.noSelect ops && Region.free md ops A i && (Region.ready md ops A).contains i && cV md ops n i && decide (i≠n) && !A.getD n true)=true)
  (D:∀c a w,Q (.panic c) (a.put (some d) v) w->Q (.panic c) a w) (M:YieldsIf P ops S B v a) (K:S w)
  (h:mj P md ops Q S n f (A.setIfInBounds i true) (a.put (some d) v) w):mj P md ops Q S n (f+1) A a w:=by
 simp only[Bool.and_eq_true,decide_eq_true_eq,Bool.not_eq_true']at C;obtain⟨⟨⟨⟨⟨E,F⟩,G⟩,H⟩,I⟩,J⟩:=C;rw[<-L]at D h;exact mj.first (T:=S) hi (Region.noSelect_spec E) D I (.inl ⟨H,rfl⟩) f A a w (Region.free_spec hi F) (by simpa using G) M (λ_=>K) (λ_=>.inl J) h
theorem mj.freeD{n i:Nat}{B:Oper}{v:Value}{f:Nat}{A:Array Bool}{a:Act}{w:World}{d:Nat}(hi:ops[i]?=some B)(J:B.dst=some d)
  (C:(Region.noSelect ops && Region.free md ops A i && (Region.ready md ops A).contains i && decide (i≠n))=true)
  (D:∀c a w,Q (.panic c) (a.put (some d) v) w->Q (.panic c) a w) (K:YieldsIf P ops (λ_=>True) B v a) (I:S w)
  (h:mj P md ops Q S n f (A.setIfInBounds i true) (a.put (some d) v) w):mj P md ops Q S n (f+1) A a w:=by
 simp only[Bool.and_eq_true,decide_eq_true_eq]at C;obtain⟨⟨⟨E,F⟩,G⟩,H⟩:=C;rw[<-J]at D h;exact mj.first (T:=λ_=>True) hi (Region.noSelect_spec E) D H (.inr rfl) f A a w (Region.free_spec hi F) (by simpa using G) K (λ_=>I) (λ_=>.inr rfl) h
theorem mj.one{n i:Nat}{C:Oper}{f:Nat}{A:Array Bool}{a:Act}{w:World}(hi:ops[i]?=some C)(B:(Region.ready md ops A== [i] && Region.wanted C (yielded ops a.tmps))=true)
  (h:∀K:Act->World->Prop,Hid (∀E D,(((A.setIfInBounds i true).getD n true=false->S D)/\mj P md ops Q S n f (A.setIfInBounds i true) E D)->K E D)->Oper.wp P C a w K Q):mj P md ops Q S n (f+1) A a w:=by
 simp only[Bool.and_eq_true,beq_iff_eq]at B;obtain⟨B,H⟩:=B;refine⟨λG=>(by rw[G]at B;cases B),λj F=>?_⟩;rw[B]at F;obtain rfl:j=i:=by simpa using F
 unfold wpOp;simp only[hi,H,if_true];exact .inl (h _ (zc λ_ _ h=>h))
theorem mj.done{n:Nat}{listed:Array Bool}{a:Act}{w:World}(hr:Region.ready md ops listed=[])(h:Q .normal a w):∀f,mj P md ops Q S n f listed a w
 |0=>⟨hr,h⟩
 |_+1=>⟨λ_=>h,by rw[hr];simp⟩
theorem mj.begin{id:Nat}{a:Act}{w:World}(n:Nat)(hm:P.follows .mixedOrders=true)(h:mj P .any ops Q S n ops.size (Array.replicate ops.size false) a w.drew):(Code.region id ops true).wp P Q a w:=
 wp_region_any hm (h.any _ _ _ _)
end
section
variable {P:Program}{ops:Array Oper}{Q:Exit->Act->World->Prop}{md:Region.Mode}{S:World->Prop}{n:Nat}{oi:Oper}{f:Nat}{listed:Array Bool}{a:Act}{w:World}{d:Nat}
theorem tH(i:Nat)(v:Value)(hy:∀w,S w->(execOp a.eval oi).run P w=.ok (.value v) w)(h:wpAnyH P md ops Q S f (listed.setIfInBounds i true) (a.put (some d) v) w)(hi:ops[i]?=some oi:=by exact rfl)(hd:oi.dst=some d:=by exact rfl)
  (hB:(Region.noSelect ops && Region.free md ops listed i && (Region.ready md ops listed).contains i)=true:=by kernel_rfl) (hQ:∀c a w,Q (.panic c) (a.put (some d) v) w->Q (.panic c) a w:=by exact λ_ _ _ h=>h)
  (hw:Region.wanted oi (yielded ops a.tmps)=true:=by exact rfl) (hS:S w:=by assumption):wpAnyH P md ops Q S (f+1) listed a w:=Tk hi hd hB hQ (.inl ⟨hw,hy⟩) hS h
theorem tN(i:Nat)(v:Value)(hy:∀w,S w->(execOp a.eval oi).run P w=.ok (.value v) w)(h:zV P md ops Q S n f (listed.setIfInBounds i true) (a.put (some d) v) w)(hi:ops[i]?=some oi:=by exact rfl)(hd:oi.dst=some d:=by exact rfl)
  (hB:(Region.noSelect ops && Region.free md ops listed i && (Region.ready md ops listed).contains i && Region.sinkB md ops n && Region.chainB md ops n && decide (n<ops.size) && decide (i<n) && Xi md ops n listed)=true:=by kernel_rfl) (hQ:∀c a w,Q (.panic c) (a.put (some d) v) w->Q (.panic c) a w:=by exact λ_ _ _ h=>h)
  (hw:Region.wanted oi (yielded ops a.tmps)=true:=by exact rfl) (hS:S w:=by assumption):zV P md ops Q S n (f+1) listed a w:=zV.takeD hi hd hB hQ (.inl ⟨hw,hy⟩) hS h
theorem tE(i:Nat)(v:Value)(hy:∀w,S w->(execOp a.eval oi).run P w=.ok (.value v) w)(h:mj P md ops Q S n f (listed.setIfInBounds i true) (a.put (some d) v) w)(hi:ops[i]?=some oi:=by exact rfl)(hd:oi.dst=some d:=by exact rfl)
  (hB:(Region.noSelect ops && Region.free md ops listed i && (Region.ready md ops listed).contains i && cV md ops n i && decide (i≠n) && !listed.getD n true)=true:=by kernel_rfl) (hQ:∀c a w,Q (.panic c) (a.put (some d) v) w->Q (.panic c) a w:=by exact λ_ _ _ h=>h)
  (hw:Region.wanted oi (yielded ops a.tmps)=true:=by exact rfl) (hS:S w:=by assumption):mj P md ops Q S n (f+1) listed a w:=mj.takeD hi hd hB hQ (.inl ⟨hw,hy⟩) hS h
end
theorem pS:(∀(a:Act) (d:Tmp) (v:Value),a.put (some d) v={ a with tmps:=a.tmps.setIfInBounds d v })/\(∀(a:Act) (v:Value),a.put none v=a)/\(∀(l:List Value) i v,l.toArray.setIfInBounds i v=(l.set i v).toArray)/\(∀(x:Value) l v,(x::l).set 0 v=v::l)/\(∀(x:Value) l i v,(x::l).set (i+1) v=x::l.set i v):=
 ⟨λ_ _ _=>rfl,λ_ _=>rfl,λ_ _ _=>by simp,λ_ _ _=>rfl,λ_ _ _ _=>rfl⟩
open Go.Lib
def vU(l:List UInt8):Nat:=l.foldl (λa b=>10*a+(b.toNat-48)) 0
theorem VZ(l:List UInt8)(b:UInt8):vU (l++[b])=10*vU l+(b.toNat-48):=by simp[vU]
theorem RT{u:Nat}(h:u<10000):(decDigits u).length<=4:=by
 rw[decDigits_length];refine Classical.byContradiction λE=>?_;have A:∀(k u:Nat),u<10 ^ k->1<=k->nDigits u<=k:=λk=>by
  induction k with
  |zero=>intro u _ h;omega
  |succ k ih=>
   intro u C _
   by_cases B:u<10
   ·rw[nDigits_small B];omega
   rw[nDigits_big B];have D:1<=k:=by
    rcases Nat.eq_zero_or_pos k with rfl|h
    ·simp at C;omega
    exact h
   have:=ih (u / 10) (by rw[Nat.pow_succ]at C;omega) D;omega
 exact E (A 4 u (by simpa using h) (by decide))
def tl(l:List Int):List UInt8:=l.flatMap λn=>32::itoa n
theorem VT(l:List Int)(n:Int):tl (l++[n])=tl l++(32::itoa n):=by simp[tl]
theorem dO{l:List Int}{k:Nat}{n:Int}(h:l[k]?=some n):tl (l.take (k+1))=tl (l.take k)++(32::itoa n):=by
 rw[List.take_add_one,h];exact VT _ _
theorem lV:∀{l:List Int},(∀n∈l,zM n)->(tl l).length<=l.length*22
 |[],_=>by simp[tl]
 |n::l,h=>by
  have h1:=itoa_length_le n (h n (by simp)).1 (h n (by simp)).2;have h2:=lV (l:=l) λm hm=>h m (by simp[hm]);have e:tl (n::l)=(32::itoa n)++tl l:=rfl;rw[e,List.length_append,List.length_cons,List.length_cons];omega
def yg(word:List UInt8)(l:List Int):List UInt8:=word++tl l++[10]
theorem lQ{word:List UInt8}{l:List Int}(h:∀n∈l,zM n):(yg word l).length<=word.length+l.length*22+1:=by
 have:=lV h;unfold yg;rw[List.length_append,List.length_append];simp only[List.length_cons,List.length_nil];omega
def yz:List UInt8:=[116,105,109,101]
def xV:List UInt8:=[118,101,114,116,101,120]
def xt:List UInt8:=[101,100,103,101]
def qf:List UInt8:=[108,101,103]
def yj(x:zw):List UInt8:=yg xV [x.f,x.t]
def qS(x:zR):List UInt8:=yg qf [x.f,x.t,x.time,x.cost]
def sL(x:zA):List UInt8:=yg xt [x.a,x.b]++x.legs.flatMap qS
def sN(g:zf):List UInt8:=yg yz [g.h]++g.lives.flatMap yj++g.edges.flatMap sL
theorem qz{α:Type}{f:α->List UInt8}{l:List α}{k:Nat}{x:α}(h:l[k]?=some x):(l.take (k+1)).flatMap f=(l.take k).flatMap f++f x:=by
 rw[List.take_add_one,h];simp
theorem rI{α:Type}{f:α->List UInt8}{m:Nat}:∀{l:List α},(∀x∈l,(f x).length<=m)->(l.flatMap f).length<=l.length*m
 |[],_=>by simp
 |x::l,h=>by
  have h1:=h x (by simp);have h2:=rI (l:=l) λy hy=>h y (by simp[hy]);rw[List.flatMap_cons,List.length_append,List.length_cons,Nat.succ_mul];omega
end Go.Proofs.YtjcimdpldlamfaaGreatDoor
