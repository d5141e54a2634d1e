import Derived.WalkKit
import Derived.WalkSpells
import Derived.WalkLawsBesides
import Derived.Handy
import Derived.BigQuiet
import Derived.Lib.Hide
import Derived.Deep.Slices
import Derived.Deep.Fields
import Derived.ChangeSame
import Derived.ProofKit
import Derived.Lib.SmallJoins
import Derived.Test.YtjcimdpldlamfaaGreatDoorRows
namespace Go.Proofs.YtjcimdpldlamfaaGreatDoor
open Go.RowKit
structure zw where
 f:Int
 t:Int
structure zR where
 f:Int
 t:Int
 time:Int
 cost:Int
structure zA where
 a:Int
 b:Int
 legs:List zR
structure zf where
 h:Int
 lives:List zw
 edges:List zA
structure yy where
 edge:Int
 depart:Int
structure xz where
 a:Int
 b:Int
 cost:Int
structure zH where
 alive:List Bool
 arcs:List xz
instance:Inhabited zw:=⟨⟨0,0⟩⟩
instance:Inhabited zR:=⟨⟨0,0,0,0⟩⟩
instance:Inhabited zA:=⟨⟨0,0,[]⟩⟩
instance:Inhabited yy:=⟨⟨0,0⟩⟩
instance:Inhabited xz:=⟨⟨0,0,0⟩⟩
instance:DecidableEq zw:=λx y=>decidable_of_iff (x.f=y.f/\x.t=y.t) (by cases x;cases y;simp)
instance:DecidableEq zR:=λx y=>decidable_of_iff (x.f=y.f/\x.t=y.t/\x.time=y.time/\x.cost=y.cost) (by cases x;cases y;simp)
instance:DecidableEq zA:=λx y=>decidable_of_iff (x.a=y.a/\x.b=y.b/\x.legs=y.legs) (by cases x;cases y;simp)
instance:DecidableEq yy:=λx y=>decidable_of_iff (x.edge=y.edge/\x.depart=y.depart) (by cases x;cases y;simp)
instance:DecidableEq xz:=λx y=>decidable_of_iff (x.a=y.a/\x.b=y.b/\x.cost=y.cost) (by cases x;cases y;simp)
instance:DecidableEq zf:=λx y=>decidable_of_iff (x.h=y.h/\x.lives=y.lives/\x.edges=y.edges) (by cases x;cases y;simp)
def zM(n:Int):Prop:=-9223372036854775808<=n/\n<=9223372036854775807
theorem xj{α:Type}{l:List α}{k:Nat}{x:α}(h:l[k]?=some x):l.drop k=x::l.drop (k+1):=by
 obtain⟨A,rfl⟩:=List.getElem?_eq_some_iff.1 h;exact List.drop_eq_getElem_cons A
theorem zl{α:Type}{l:List α}{k:Nat}(h:k<l.length):∃x,l[k]?=some x:=⟨_,List.getElem?_eq_getElem h⟩
theorem zy{α:Type}{l:List α}{k:Nat}{x:α}(h:l[k]?=some x):k<l.length:=(List.getElem?_eq_some_iff.1 h).1
theorem vg{α:Type}{l:List α}{k:Nat}(h:l.length<=k):l.drop k=[]:=List.drop_eq_nil_of_le h
def zj(w:World)(g:Nat)(t:TypeId)(cs:Array Value):Prop:=w.heap[g]?=some (.cells cs t (0,0))
theorem zj.new(w:World)(t:TypeId)(cs:Array Value):zj (w.alloc (.cells cs t)) w.heap.size t cs:=heap_alloc_new w _
theorem zj.new_{w:World}{n:Nat}{t:TypeId}{cs:Array Value}(h:n=w.heap.size):zj (w.alloc (.cells cs t)) n t cs:=h ▸ zj.new w t cs
section
variable {w w':World}{g:Nat}{t:TypeId}{cs:Array Value}
theorem zj.lt(h:zj w g t cs):g<w.heap.size:=by
 rcases Nat.lt_or_ge g w.heap.size with A|hge
 ·exact A
 unfold zj at h;rw[Array.getElem?_eq_none hge]at h;cases h
theorem zj.alloc(h:zj w g t cs)(o:Obj):zj (w.alloc o) g t cs:=(Below.heap_alloc w o g h.lt).trans h
theorem zj.drew(h:zj w g t cs):zj w.drew g t cs:=h
theorem zj.drewN(h:zj w g t cs)(n:Nat):zj (w.drewN n) g t cs:=h
theorem zj.set_(h:zj w g t cs)(i:Nat)(u:Value):zj (w.setCell ⟨g,i,none⟩ u) g t (cs.setIfInBounds i u):=by
 unfold zj at h⊢;simp[World.setCell,Array.getElem?_modify,h]
theorem zj.far(h:zj w g t cs){p:Addr}(hp:g≠p.block)(u:Value):zj (w.setCell p u) g t cs:=(Below.heap_setCell w p u g hp).trans h
theorem zj.cell(h:zj w g t cs)(i:Nat):w.cell? ⟨g,i,none⟩=cs[i]?:=cell_of_row w g i cs t (0,0) h
theorem zj.frozen(h:zj w g t cs)(i:Nat):w.frozen? ⟨g,i,none⟩=false:=by
 unfold zj at h;simp[World.frozen?,h]
theorem zj.below{B:Nat}(h:zj w g t cs)(hb:Below B w w')(hg:g<B):zj w' g t cs:=(hb.block g hg).trans h
theorem zj.ext(h:zj w g t cs)(hb:Below w.heap.size w w'):zj w' g t cs:=(hb.block g h.lt).trans h
theorem zj.grown{row:Option Nat}(h:zj w g t cs)(hb:w.grownBy w' row)(hg:some g≠row):zj w' g t cs:=(hb.block g h.lt hg).trans h
theorem zj.go(h:zj w g t cs)(hb:Below w.heap.size w w'):zj w' g t cs/\(∀i,w'.cell? ⟨g,i,none⟩=cs[i]?)/\(∀i,w'.frozen? ⟨g,i,none⟩=false)/\g<w'.heap.size:=
 ⟨h.ext hb,(h.ext hb).cell,(h.ext hb).frozen,(h.ext hb).lt⟩
theorem zj.facts(h:zj w g t cs):(∀i,w.cell? ⟨g,i,none⟩=cs[i]?)/\(∀i,w.frozen? ⟨g,i,none⟩=false)/\g<w.heap.size:=⟨h.cell,h.frozen,h.lt⟩
end
theorem zo{B:Nat}{a w:World}(h:Below B a w)(n:Nat):Below B a (w.drewN n):=⟨h.os,h.tape,h.output,h.size,h.block⟩
def zU{α:Type}(R:World->Nat->Nat->α->Prop)(sz:Nat)(w:World)(A:Option Addr)(l:List α):Prop:=
 ∃b off,∀i x,l[i]?=some x->A=some ⟨b,off,none⟩/\b<w.heap.size/\R w b (off+i*sz) x
def rT{α:Type}(R:World->Nat->Nat->α->Prop):Prop:=∀w w' b o x,Below w.heap.size w w'->b<w.heap.size->R w b o x->R w' b o x
theorem zU.ext{α:Type}{R:World->Nat->Nat->α->Prop}{sz:Nat}{w E:World}{A:Option Addr}{l:List α}(h:zU R sz w A l)(H:rT R)(D:Below w.heap.size w E):zU R sz E A l:=by
 obtain⟨b,B,h⟩:=h;refine⟨b,B,λi x I=>?_⟩;obtain⟨F,C,G⟩:=h i x I;exact⟨F,Nat.lt_of_lt_of_le C D.size,H _ _ _ _ _ D C G⟩
theorem zU.nil{α:Type}{R:World->Nat->Nat->α->Prop}{sz:Nat}{w:World}{A:Option Addr}:zU R sz w A []:=⟨0,0,λi x h=>by simp at h⟩
theorem zU.take{α:Type}{R:World->Nat->Nat->α->Prop}{sz:Nat}{w:World}{A:Option Addr}{l:List α}(h:zU R sz w A l)(n:Nat):zU R sz w A (l.take n):=by
 obtain⟨b,C,h⟩:=h;refine⟨b,C,λi x B=>h i x ?_⟩
 by_cases D:i<n
 ·rwa[List.getElem?_take_of_lt D]at B
 rw[List.getElem?_take_eq_none (by omega)]at B;cases B
def zJ(w:World)(b o:Nat)(v:Value):Prop:=w.cell? ⟨b,o,none⟩=some v
theorem zJ.ext{w w':World}{b o:Nat}{v:Value}(hb:Below w.heap.size w w')(hlt:b<w.heap.size)(h:zJ w b o v):zJ w' b o v:=(hb.cell (p:=⟨b,o,none⟩) hlt).trans h
theorem zJ.now{w w':World}{b o:Nat}{v:Value}(h:zJ w b o v)(hb:Below w.heap.size w w'):w'.cell? ⟨b,o,none⟩=some v:=
 (hb.cell (p:=⟨b,o,none⟩) (World.block_lt_of_cell? w _ h)).trans h
theorem za{w a b:World}(h:Below w.heap.size w a)(k:Below a.heap.size a b):Below w.heap.size w b:=h.trans (k.mono h.size)
theorem ze{w a:World}(h:Below w.heap.size w a)(o:Obj):Below w.heap.size w (a.alloc o):=h.alloc h.size o
def ra(w:World)(b o:Nat)(x:Int):Prop:=zJ w b o (.int .i64 x)/\zM x
def oH(w:World)(b o:Nat)(x:Bool):Prop:=zJ w b o (.bool x)
def Yt(w:World)(b o:Nat)(x:zw):Prop:=(zJ w b o (.int .i64 x.f)/\zJ w b (o+1) (.int .i64 x.t))/\zM x.f/\zM x.t
def mt(w:World)(b o:Nat)(x:yy):Prop:=(zJ w b o (.int .i64 x.edge)/\zJ w b (o+1) (.int .i64 x.depart))/\zM x.edge/\zM x.depart
def Th(w:World)(b o:Nat)(x:xz):Prop:=(zJ w b o (.int .i64 x.a)/\zJ w b (o+1) (.int .i64 x.b)/\zJ w b (o+2) (.int .i64 x.cost))/\zM x.a/\zM x.b/\zM x.cost
def yY(w:World)(b o:Nat)(x:zR):Prop:=
 (zJ w b o (.int .i64 x.f)/\zJ w b (o+1) (.int .i64 x.t)/\zJ w b (o+2) (.int .i64 x.time)/\zJ w b (o+3) (.int .i64 x.cost))/\zM x.f/\zM x.t/\zM x.time/\zM x.cost
def bN(w:World)(b o:Nat)(x:zA):Prop:=
 (zJ w b o (.int .i64 x.a)/\zJ w b (o+1) (.int .i64 x.b)/\∃A c,zJ w b (o+2) (.slice A x.legs.length c)/\x.legs.length<=c/\c<=maxLen/\zU yY 4 w A x.legs)/\zM x.a/\zM x.b
theorem ra.stable:rT ra:=λ_ _ _ _ _ hb hlt h=>⟨h.1.ext hb hlt,h.2⟩
theorem oH.stable:rT oH:=λ_ _ _ _ _ hb hlt h=>zJ.ext hb hlt h
theorem Yt.stable:rT Yt:=λ_ _ _ _ _ hb hlt h=>⟨⟨h.1.1.ext hb hlt,h.1.2.ext hb hlt⟩,h.2⟩
theorem mt.stable:rT mt:=λ_ _ _ _ _ hb hlt h=>⟨⟨h.1.1.ext hb hlt,h.1.2.ext hb hlt⟩,h.2⟩
theorem Th.stable:rT Th:=λ_ _ _ _ _ hb hlt h=>⟨⟨h.1.1.ext hb hlt,h.1.2.1.ext hb hlt,h.1.2.2.ext hb hlt⟩,h.2⟩
theorem yY.stable:rT yY:=λ_ _ _ _ _ hb hlt h=>⟨⟨h.1.1.ext hb hlt,h.1.2.1.ext hb hlt,h.1.2.2.1.ext hb hlt,h.1.2.2.2.ext hb hlt⟩,h.2⟩
theorem bN.stable:rT bN:=λ_ _ _ _ _ hb hlt ⟨⟨h1,h2,A,c,h3,h4,h5,h6⟩,h7⟩=>
 ⟨⟨h1.ext hb hlt,h2.ext hb hlt,A,c,h3.ext hb hlt,h4,h5,h6.ext yY.stable hb⟩,h7⟩
structure zv(w:World)(A:Option Addr)(c:Nat)(A':Option Addr)(c':Nat)(g:zf):Prop where
 h:zM g.h
 lc:g.lives.length<=c
 cm:c<=maxLen
 lc':g.edges.length<=c'
 cm':c'<=maxLen
 lives:zU Yt 2 w A g.lives
 edges:zU bN 3 w A' g.edges
theorem zv.ext{w w':World}{A A':Option Addr}{c c':Nat}{g:zf}(h:zv w A c A' c' g)(hb:Below w.heap.size w w'):zv w' A c A' c' g:=
 ⟨h.h,h.lc,h.cm,h.lc',h.cm',h.lives.ext Yt.stable hb,h.edges.ext bN.stable hb⟩
structure wY(w:World)(A:Option Addr)(c:Nat)(A':Option Addr)(c':Nat)(s:zH):Prop where
 lc:s.alive.length<=c
 cm:c<=maxLen
 lc':s.arcs.length<=c'
 cm':c'<=maxLen
 alive:zU oH 1 w A s.alive
 arcs:zU Th 3 w A' s.arcs
theorem wY.ext{w w':World}{A A':Option Addr}{c c':Nat}{s:zH}(h:wY w A c A' c' s)(hb:Below w.heap.size w w'):wY w' A c A' c' s:=
 ⟨h.lc,h.cm,h.lc',h.cm',h.alive.ext oH.stable hb,h.arcs.ext Th.stable hb⟩
abbrev sx(A:Option Addr)(c:Nat)(A':Option Addr)(c':Nat)(s:zH):Value:=.agg #[.slice A s.alive.length c,.slice A' s.arcs.length c']
abbrev gV(A:Option Addr)(c:Nat)(A':Option Addr)(c':Nat)(g:zf):Value:=.agg #[.int .i64 g.h,.slice A g.lives.length c,.slice A' g.edges.length c']
abbrev gC(A:Option Addr)(c:Nat)(A':Option Addr)(c':Nat)(g:zf):Array Value:=#[.int .i64 g.h,.slice A g.lives.length c,.slice A' g.edges.length c']
abbrev tK(x:zR):Value:=.agg #[.int .i64 x.f,.int .i64 x.t,.int .i64 x.time,.int .i64 x.cost]
abbrev qj(A:Option Addr)(c:Nat)(x:zA):Value:=.agg #[.int .i64 x.a,.int .i64 x.b,.slice A x.legs.length c]
abbrev iV(n:Int):Value:=.int .i64 n
theorem zC{k:IntKind}{a b:Int}(h:a=b):Ending.returned (.int k a)=.returned (.int k b):=by rw[h]
theorem yW{a b:Bool}(h:a=b):Ending.returned (.bool a)=.returned (.bool b):=by rw[h]
theorem zc{p:Prop}(h:p):Hid p:=Lib.hid h
open Go.ChangeShapes Go.WideShapes Go.ChangeAt Go.RowKit
theorem Tryz.own:ownKnob Tryz.prog.godebug=none:=by kernel_rfl
theorem Tryz.laidOut:laidOutB Tryz.prog=true:=by kernel_rfl
section
variable {H:Type}{enc:TypeId×Value->H}
theorem kK{W W':World}(hb:Below W.heap.size W W'):∀(ts:List TypeId) (vs:List Value) (ds:List (DataW H)) (ps:List MemPlace),
  (∀t∈ts,Tryz.prog.readableRec t=true/\t<Tryz.prog.types.size)->(∀x∈ps,x.block<W.heap.size) ->
  DataW.TrodAll enc Tryz.prog W 0 (λ_=>true) true ts vs ds ps->DataW.TrodAll enc Tryz.prog W' 0 (λb=>decide (b<W.heap.size)) true ts vs ds ps
 |[],vs,ds,ps,_,_,h=>by
  obtain⟨rfl,rfl,rfl⟩:=trodAll_nil h;exact trodAll_mk0
 |t::ts,vs,ds,ps,hr,hlt,h=>by
  obtain⟨v,vs',d,ds',p,q,rfl,rfl,rfl,h1,h2⟩:=trodAll_cons h;exact trodAll_cons_mk (Below.trod Tryz.laidOut (hr t (by simp)).1 (hr t (by simp)).2 h1 hb (λx hx=>hlt x (by simp[hx])))
   (kK hb ts vs' ds' q (λt ht=>hr t (by simp[ht])) (λx hx=>hlt x (by simp[hx])) h2)
theorem law_post{f:Func}{s:ChangeSpec}{W J:World}{args:Array Value}{C O:List (DataW H)}{A:List MemPlace}
  (L:DataW.Whole enc Tryz.prog f.params.toList s.vars false W args.toList C O A) (M:Below W.heap.size W J)
  (N:s.vars=[]) (F:f.resultTypes.toList=[4]) (E:f.resultTypes.size=1)
  (S:∀t∈f.params.toList,Tryz.prog.readableRec t=true/\t<Tryz.prog.types.size)
  (G:s.fn H C={ results:=[.lit (.bool true)],args:=C }) :
  s.post enc Tryz.prog f false true false false W args (.bool true) J:=by
 have B:=L;obtain⟨p,q,P,K,rfl,Q,R⟩:=L;rw[N]at K;obtain⟨rfl,rfl⟩:=trodVars_none K;have D:∀x∈p++[],x.block<W.heap.size:=λx I=>B.lt x I;refine⟨C,[],p++[],[],p,[],B,?_,?_,?_,M.frame _,λh=>by cases h⟩
 ·rw[F,E,List.append_nil,G]
  exact trodAll_mk1 (shut_bool Tryz.underlying4 true)
 ·rw[List.append_nil,G]
  exact kK M _ _ _ _ S (λx I=>D x (by simp[I])) P
 rw[N,List.append_nil,G];rfl
end
theorem gX(r:List Char):wordsSigns (Char.ofNat 32::r)=[]::wordsSigns r:=rfl
theorem tX:∀(p r:List Char),(∀c∈p,c≠Char.ofNat 32)->wordsSigns (p++Char.ofNat 32::r)=p::wordsSigns r
 |[],r,_=>gX r
 |c::p,r,h=>by
  have A:c≠Char.ofNat 32:=h c (by simp);have ih:=tX p r (λc A=>h c (by simp[A]));have e:wordsSigns (c::(p++Char.ofNat 32::r))=match wordsSigns (p++Char.ofNat 32::r)with
    |w::ws=>(c::w)::ws
    |[]=>[[c]]:=by
   conv=>lhs;unfold wordsSigns
   split
   ·rename_i e;simp at e
   ·rename_i e;simp at e;exact absurd e.1 A
   rename_i e;simp at e;obtain⟨rfl,rfl⟩:=e;rfl
  rw[List.cons_append,e,ih]
theorem PB:Tryz.prog.initOrder=String.ofList (([104,97,114,110,101,115,115]:List Nat).map Char.ofNat++Char.ofNat 32::
  (([102,98,48,99,51,53,97,57,50,101,53,51,101,50,50,56,57,102,98,56,48,99,56,97,97,51,55,52,49,50,101,102,53,54,97,102,52,102,55,48,55,52,99,54,100,55,56,55,101,49,49,98,53,98,52,101,102,56,101,56,55,99,98,49]:List Nat).map Char.ofNat++Char.ofNat 32::(([99,117,116]:List Nat).map Char.ofNat++Char.ofNat 32::
  ([97,116,32,116,105,109,101,119,101,102,116,47,116,105,109,101,107,101,101,112,46,68,101,115,107,67,111,117,110,116,115,32,116,105,109,101,119,101,102,116,47,116,105,109,101,107,101,101,112,46,68,101,115,107,72,101,97,100,32,116,105,109,101,119,101,102,116,47,116,105,109,101,108,97,119,46,68,101,115,107,83,97,121,115]:List Nat).map Char.ofNat))):=by kernel_rfl
theorem Vq:∃rest,wordsSigns Tryz.prog.initOrder.toList=([104,97,114,110,101,115,115]:List Nat).map Char.ofNat::([102,98,48,99,51,53,97,57,50,101,53,51,101,50,50,56,57,102,98,56,48,99,56,97,97,51,55,52,49,50,101,102,53,54,97,102,52,102,55,48,55,52,99,54,100,55,56,55,101,49,49,98,53,98,52,101,102,56,101,56,55,99,98,49]:List Nat).map Char.ofNat::([99,117,116]:List Nat).map Char.ofNat::rest:=by
 rw[PB,String.toList_ofList,tX _ _ (by decide),tX _ _ (by decide),tX _ _ (by decide)];exact⟨_,rfl⟩
theorem mS : ∃ rest, behindMainWord (wordsSigns Tryz.prog.initOrder.toList) = "cut".toList :: rest := by
 obtain⟨rest,h⟩:=Vq;refine⟨rest,?_⟩;rw[h];have hs:isSumSigns (([102,98,48,99,51,53,97,57,50,101,53,51,101,50,50,56,57,102,98,56,48,99,56,97,97,51,55,52,49,50,101,102,53,54,97,102,52,102,55,48,55,52,99,54,100,55,56,55,101,49,49,98,53,98,52,101,102,56,101,56,55,99,98,49]:List Nat).map Char.ofNat)=true:=by kernel_rfl
 have A : ([104, 97, 114, 110, 101, 115, 115] : List Nat).map Char.ofNat = "harness".toList := by decide
 have B : ([99, 117, 116] : List Nat).map Char.ofNat = "cut".toList := by decide
 rw[A,B];simp only[behindMainWord,hs];simp
theorem aZ(rest : List (List Char)) : stripLifts liftWords ("cut".toList :: rest) = ([], "cut".toList :: rest) := by kernel_rfl
theorem Qz:Tryz.prog.laysLater=false:=by kernel_rfl
theorem Wl:Tryz.prog.bearsReflect=false:=by kernel_rfl
theorem TA:Tryz.prog.doorFits []=true:=by kernel_rfl
section
variable {P:Program}{rest:List (List Char)}
theorem ZS(h : behindMainWord (wordsSigns P.initOrder.toList) = "cut".toList :: rest)(h1 : P.laysLater = false)(A : P.bearsReflect = false)(B : P.doorFits [] = true) : P.mayEnter = true := by
 unfold Program.mayEnter;rw[h];simp only[aZ,h1,A,B];simp
theorem bt(h : behindMainWord (wordsSigns P.initOrder.toList) = "cut".toList :: rest) : P.headLifts = [] := by
 unfold Program.headLifts;rw[h,aZ];simp
theorem dC(h : behindMainWord (wordsSigns P.initOrder.toList) = "cut".toList :: rest) : P.liftsFinal = false := by
 unfold Program.liftsFinal;rw[h,bt h];simp
theorem PM(h : behindMainWord (wordsSigns P.initOrder.toList) = "cut".toList :: rest) : P.make = some .cut := by
 unfold Program.make;rw[h];simp
end
theorem may_enter:Tryz.prog.mayEnter=true:=mS.elim λ_ h=>ZS h Qz Wl TA
theorem lifts_final:Tryz.prog.liftsFinal=false:=mS.elim λ_ h=>dC h
theorem make_cut:Tryz.prog.make=some .cut:=mS.elim λ_ h=>PM h
theorem joined_of{P:Program}{f:FuncId}{A:Func}{s:ChangeSpec}{c:OpenClaim}(h:List.all [c.wf (OpenSpec.ofChange s),laidOutB P,mapsRowed P,
 A.params.all (P.readableRec ·),namedTie P c.named s.vars,(c.stops== []),(P.stops== []),(c.knobs== []),(P.stopKnobs== [])] id=true)
 (i:(c.inPlace== P.inPlace f)=true) (j:(c.unfollowed== P.unfollowed f)=true) (l:(c.recurses== P.recurses f)=true) (m:(c.named== P.varsNamed f)=true)
 (H:List.all [(c.maps== (A.params.toList++s.plain.varTypes P).any (P.mapsRec ·)),(c.ifaces== (A.params.toList++s.plain.varTypes P).any (P.ifacesRec ·)),(c.mapsOut== P.mapsAmong A.resultTypes.toList),
 (c.loops== (A.params.toList++s.plain.varTypes P).any (P.loopsFrom ·)),(c.wideKeys== (A.params.toList++s.plain.varTypes P++A.resultTypes.toList).any (P.wideKeysFrom ·)),
 s.vars.all (P.varReadable ·),A.resultTypes.all (λt=>P.readableRec t && decide (t<P.types.size)),(c.ifacesOut== A.resultTypes.toList.any (P.ifacesRec ·)),(c.loopsOut== A.resultTypes.toList.any (P.loopsFrom ·)),
 (c.plainKeys== P.plainKeys),c.shortTexts.isNone,P.stopsHeard] id=true)
 (n:P.mayEnter=true) (o:P.liftsFinal=false) (F:c.lifted=false) (p:P.make=some .cut) (G:c.make=.cut)
 (B:List.all [(c.kinds== (if c.domain.isEmpty then [] else A.params.toList.map λt=>match P.underlying t with|some (.int k)=>some k|_=>none)),(c.pinned== c.pinnedBy),
 (c.veiled== (A.params.toList++s.plain.varTypes P++A.resultTypes.toList).any (P.veiledRec ·)),c.veiledFits P A.params.toList (A.params.toList++s.plain.varTypes P++A.resultTypes.toList)] id=true):joinedFacts P f A s c=true:=by
 simp only[List.all_cons,List.all_nil,id,Bool.and_true,Bool.and_eq_true]at h H B;obtain⟨I,J,K,L,M,N,O,Q,R⟩:=h;obtain⟨S,T,U,V,W,X,Y,Z,a,C,D,E⟩:=H;obtain⟨b,d,e,g⟩:=B;unfold joinedFacts;simp only[Bool.and_eq_true];exact⟨⟨⟨⟨⟨⟨⟨⟨⟨⟨⟨⟨⟨⟨⟨⟨⟨⟨⟨⟨⟨⟨⟨⟨⟨⟨⟨⟨⟨⟨⟨I,J⟩,K⟩,L⟩,M⟩,N⟩,O⟩,Q⟩,R⟩,i⟩,j⟩,l⟩,m⟩,S⟩,T⟩,U⟩,V⟩,W⟩,X⟩,Y⟩,Z⟩,a⟩,C⟩,D⟩,E⟩,n⟩,by rw[o,F];rfl⟩,by rw[p,G];rfl⟩,b⟩,d⟩,e⟩,g⟩
open Go.ChangeShapes Go.WideShapes Go.RowKit Go.Deep Go.Joins
section
variable {H:Type}{enc:TypeId×Value->H}{W:World}{spare:Nat->Bool}{held:Bool}
end
section
variable {H:Type}{enc:TypeId×Value->H}{W:World}{spare:Nat->Bool}{held:Bool}{P:Program}{base:Nat}
end
open Go.ChangeMaps (open_string)
theorem params_read{l:List TypeId}(h:l.all (λt=>Tryz.prog.readableRec t && decide (t<Tryz.prog.types.size))=true):∀t∈l,Tryz.prog.readableRec t=true/\t<Tryz.prog.types.size:=by
 intro t A;have:=List.all_eq_true.1 h t A;simpa using this
section
variable {H:Type}{enc:TypeId×Value->H}{W:World}{spare:Nat->Bool}{held:Bool}{P:Program}{base:Nat}
end
def zE(l:List zw)(t:Int):Bool:=l.any λx=>decide (x.f<=t/\t<x.t)
def ya(l:List zw):Prop:=l.Pairwise (λx y=>x.t<y.f)/\∀x,x∈l->x.f<x.t
section
variable {l r out:List zw}{x y z:zw}{t:Int}
theorem qt:zE [] t=false:=rfl
theorem xc:zE (x::l) t=true↔(x.f<=t/\t<x.t)∨zE l t=true:=by simp[zE]
theorem Vo:zE (l++r) t=(zE l t || zE r t):=by simp[zE]
theorem xD:zE l t=true↔∃x,x∈l/\x.f<=t/\t<x.t:=by simp[zE]
theorem ya.nil:ya []:=⟨.nil,λx h=>by simp at h⟩
theorem ya.tail(h:ya (x::l)):ya l:=⟨(List.pairwise_cons.1 h.1).2,λy hy=>h.2 y (List.mem_cons_of_mem _ hy)⟩
theorem ya.past(h:ya (x::l))(A:zE l t=true):x.t<t:=by
 obtain⟨y,B,C,_⟩:=xD.1 A;have:=(List.pairwise_cons.1 h.1).1 y B;omega
theorem ya.low(h:ya (x::l))(B:zE (x::l) t=true):x.f<=t:=by
 rcases xc.1 B with A|A
 ·exact A.1
 have:=h.past A;have:=h.2 x (by simp);omega
theorem rL:∀{l r:List zw},ya l->ya r->(∀t,zE l t=zE r t)->l=r
 |[],[],_,_,_=>rfl
 |[],y::r,_,hr,h=>by
  have h1:=h y.f;rw[qt,xc.2 (.inl ⟨Int.le_refl _,hr.2 y (by simp)⟩)]at h1;simp at h1
 |x::l,[],hl,_,h=>by
  have h1:=h x.f;rw[qt,xc.2 (.inl ⟨Int.le_refl _,hl.2 x (by simp)⟩)]at h1;simp at h1
 |x::l,y::r,hl,hr,h=>by
  have hx:=hl.2 x (by simp);have hy:=hr.2 y (by simp);have e1:x.f=y.f:=by
   have h1:=hr.low (t:=x.f) (by rw[<-h];exact xc.2 (.inl ⟨Int.le_refl _,hx⟩));have A:=hl.low (t:=y.f) (by rw[h];exact xc.2 (.inl ⟨Int.le_refl _,hy⟩));omega
  have D:x.t=y.t:=by
   rcases Int.lt_trichotomy x.t y.t with h1|h1|h1
   ·exfalso
    have A:=h x.t;rw[xc.2 (.inl ⟨by omega,h1⟩)]at A;rcases xc.1 A with B|B
    ·omega
    have:=hl.past B;omega
   ·exact h1
   exfalso
   have A:=(h y.t).symm;rw[xc.2 (.inl ⟨by omega,h1⟩)]at A;rcases xc.1 A with B|B
   ·omega
   have:=hr.past B;omega
  have e:x=y:=by
   cases x;cases y
   simp only at e1 D;subst e1 D;rfl
  subst e
  congr 1
  refine rL hl.tail hr.tail λt=>?_;rw[Bool.eq_iff_iff]
  constructor
  ·intro C
   have h1:=hl.past C;rcases xc.1 ((h t).symm.trans (xc.2 (.inr C)))with A|A
   ·omega
   exact A
  intro C;have h1:=hr.past C;rcases xc.1 ((h t).trans (xc.2 (.inr C)))with A|A
  ·omega
  exact A
theorem ya.snoc_lt(h:ya (out++[z])){y:zw}(hy:y∈out):y.t<z.f:=(List.pairwise_append.1 h.1).2.2 y hy z (by simp)
theorem ya.snoc(h:ya out)(D:x.f<x.t)(B:∀y,y∈out->y.t<x.f):ya (out++[x]):=by
 refine⟨List.pairwise_append.2 ⟨h.1,by simp,λy A u C=>?_⟩,λy A=>?_⟩
 ·obtain rfl:u=x:=by simpa using C
  exact B y A
 rcases List.mem_append.1 A with A|A
 ·exact h.2 y A
 obtain rfl:y=x:=by simpa using A
 exact D
theorem ya.init(h:ya (out++[z])):ya out:=⟨(List.pairwise_append.1 h.1).1,λy hy=>h.2 y (List.mem_append_left _ hy)⟩
theorem ya.grow(h:ya (out++[z])){n:Int}(hn:z.t<=n):ya (out++[⟨z.f,n⟩]):=
 h.init.snoc (by have:=h.2 z (by simp);simp only;omega) λ_ hy=>h.snoc_lt hy
theorem uk:zE (out++[z]) t=true↔zE out t=true∨(z.f<=t/\t<z.t):=by
 rw[Vo,Bool.or_eq_true,xc,qt];simp
theorem ya.rise(h:ya (out++[z])):∀y,y∈out++[z]->y.t<=z.t:=λy A=>by
 rcases List.mem_append.1 A with A|A
 ·have:=h.snoc_lt A;have:=h.2 z (by simp);omega
 obtain rfl:y=z:=by simpa using A
 exact Int.le_refl _
end
structure sb(done out:List zw)(last:Int):Prop where
 norm:ya out
 has:∀t,zE out t=zE done t
 low:∀y,y∈out->y.f<=last
section
variable {dn out o:List zw}{x z:zw}{n:Int}
theorem sb.start:sb [] [] n:=⟨.nil,λ_=>rfl,λy h=>by simp at h⟩
theorem sb.later{m:Int}(h:sb dn out n)(hm:n<=m):sb dn out m:=⟨h.norm,h.has,λy hy=>by have:=h.low y hy;omega⟩
theorem sb.join(h:sb dn (o++[z]) x.f)(_:x.f<x.t)(D:x.f<=z.t):sb (dn++[x]) (o++[⟨z.f,max z.t x.t⟩]) x.f:=by
 have C:=h.low z (by simp);refine⟨h.norm.grow (by omega),λt=>?_,λy A=>?_⟩
 ·have B:(z.f<=t/\t<max z.t x.t)↔(z.f<=t/\t<z.t)∨(x.f<=t/\t<x.t):=by omega
  rw[Bool.eq_iff_iff,uk,uk,<-h.has t,uk,or_assoc,<-B]
 rcases List.mem_append.1 A with A|A
 ·exact h.low y (List.mem_append_left _ A)
 obtain rfl:y=_:=by simpa using A
 exact C
theorem sb.next(h:sb dn out x.f)(B:x.f<x.t)(C:∀y,y∈out->y.t<x.f):sb (dn++[x]) (out++[x]) x.f:=by
 refine⟨h.norm.snoc B C,λt=>?_,λy A=>?_⟩
 ·rw[Bool.eq_iff_iff,uk,uk,h.has t]
 rcases List.mem_append.1 A with A|A
 ·exact h.low y A
 obtain rfl:y=x:=by simpa using A
 exact Int.le_refl _
end
structure vV(is:Int->Bool)(b a:Int)(out:List zw):Prop where
 norm:ya out
 has:∀t,zE out t=true↔b<=t/\t<a/\is t=true
 low:∀y,y∈out->y.t<=a
section
variable {is:Int->Bool}{b a c:Int}{out o:List zw}{z:zw}
theorem vV.start:vV is a a []:=⟨.nil,λt=>⟨λh=>by simp[qt]at h,λh=>by omega⟩,λy h=>by simp at h⟩
theorem vV.skip(h:vV is b a out)(F:a<c)(C:∀t,a<=t->t<c->is t=is a)(G:is a=false):vV is b c out:=by
 refine⟨h.norm,λt=>?_,λy H=>by have:=h.low y H;omega⟩;rw[h.has t]
 constructor
 ·rintro⟨B,E,A⟩;exact⟨B,by omega,A⟩
 rintro⟨B,E,A⟩;refine⟨B,?_,A⟩
 by_cases D:t<a
 ·exact D
 rw[C t (by omega) E,G]at A;simp at A
theorem vV.grow(h:vV is b a (o++[z]))(K:b<=a)(J:a<c)(E:∀t,a<=t->t<c->is t=is a)(A:is a=true)(N:z.t=a):vV is b c (o++[⟨z.f,c⟩]):=by
 have L:=h.norm.2 z (by simp);refine⟨h.norm.grow (by omega),λt=>?_,λy A=>?_⟩
 ·have D:=h.has t
  rw[uk]at D;rw[uk];simp only
  constructor
  ·rintro(B|B)
   ·obtain⟨F,M,G⟩:=D.1 (.inl B)
    exact⟨F,by omega,G⟩
   by_cases C:t<a
   ·obtain⟨F,M,G⟩:=D.1 (.inr ⟨B.1,by omega⟩)
    exact⟨F,by omega,G⟩
   exact⟨by omega,by omega,by rw[E t (by omega) (by omega)];exact A⟩
  rintro⟨B,H,I⟩
  by_cases C:t<a
  ·rcases D.2 ⟨B,C,I⟩with k|k
   ·exact .inl k
   exact .inr ⟨k.1,by omega⟩
  exact .inr ⟨by omega,H⟩
 rcases List.mem_append.1 A with A|A
 ·have:=h.low y (List.mem_append_left _ A);omega
 obtain rfl:y=_:=by simpa using A
 exact Int.le_refl _
theorem vV.next(h:vV is b a out)(I:b<=a)(B:a<c)(C:∀t,a<=t->t<c->is t=is a)(A:is a=true)(J:∀y,y∈out->y.t<a):vV is b c (out++[⟨a,c⟩]):=by
 refine⟨h.norm.snoc B J,λt=>?_,λy A=>?_⟩
 ·have F:=h.has t
  rw[uk,F];simp only
  constructor
  ·rintro(⟨k1,k2,k3⟩|E)
   ·exact⟨k1,by omega,k3⟩
   exact⟨by omega,by omega,by rw[C t (by omega) (by omega)];exact A⟩
  rintro⟨E,G,H⟩
  by_cases D:t<a
  ·exact .inl ⟨E,D,H⟩
  exact .inr ⟨by omega,G⟩
 rcases List.mem_append.1 A with A|A
 ·have:=h.low y A;omega
 obtain rfl:y=_:=by simpa using A
 exact Int.le_refl _
end
structure zg where
 f:Int
 t:Int
 v:Int
deriving DecidableEq
def xN:List zg->Int->Option Int
 |[],_=>none
 |x::l,t=>if x.f<=t/\t<x.t then some x.v else xN l t
def wL(l:List zg):Prop:=l.Pairwise (λx y=>x.t<=y.f/\(x.t=y.f->x.v≠y.v))/\∀x,x∈l->x.f<x.t
section
variable {l r out:List zg}{x y z:zg}{t:Int}{v:Int}
theorem kS:xN [] t=none:=rfl
theorem ut(h:x.f<=t/\t<x.t):xN (x::l) t=some x.v:=by rw[xN,if_pos h]
theorem xC(h:¬(x.f<=t/\t<x.t)):xN (x::l) t=xN l t:=by rw[xN,if_neg h]
theorem rz:∀{l:List zg},xN l t=some v->∃x,x∈l/\x.f<=t/\t<x.t/\x.v=v
 |[],h=>by simp[xN]at h
 |x::l,h=>by
  by_cases hx:x.f<=t/\t<x.t
  ·rw[ut hx]at h
   exact⟨x,by simp,hx.1,hx.2,by simpa using h⟩
  rw[xC hx]at h;obtain⟨y,hy,h1⟩:=rz h;exact⟨y,List.mem_cons_of_mem _ hy,h1⟩
theorem UJ:∀{l:List zg},(∀x,x∈l->¬(x.f<=t/\t<x.t))->xN l t=none
 |[],_=>rfl
 |x::l,h=>by rw[xC (h x (by simp)),UJ λy hy=>h y (List.mem_cons_of_mem _ hy)]
theorem lE:∀{l r:List zg},xN (l++r) t=(xN l t).or (xN r t)
 |[],r=>by simp[xN]
 |x::l,r=>by
  rw[List.cons_append]
  by_cases hx:x.f<=t/\t<x.t
  ·rw[ut hx,ut hx];rfl
  rw[xC hx,xC hx,lE]
theorem wL.nil:wL []:=⟨.nil,λx h=>by simp at h⟩
theorem wL.tail(h:wL (x::l)):wL l:=⟨(List.pairwise_cons.1 h.1).2,λy hy=>h.2 y (List.mem_cons_of_mem _ hy)⟩
theorem wL.past(h:wL (x::l))(C:xN l t=some v):x.t<=t/\(t=x.t->v≠x.v):=by
 obtain⟨y,D,E,_,A⟩:=rz C;have B:=(List.pairwise_cons.1 h.1).1 y D;refine⟨by omega,λe=>?_⟩;rw[<-A];exact(B.2 (by omega)).symm
theorem wL.low(h:wL (x::l))(A:xN (x::l) t=some v):x.f<=t:=by
 by_cases B:x.f<=t/\t<x.t
 ·exact B.1
 rw[xC B]at A;have:=(h.past A).1;have:=h.2 x (by simp);omega
theorem wL.head(h:wL (x::l)):xN (x::l) x.f=some x.v:=ut ⟨Int.le_refl _,h.2 x (by simp)⟩
theorem qU:∀{l r:List zg},wL l->wL r->(∀t,xN l t=xN r t)->l=r
 |[],[],_,_,_=>rfl
 |[],y::r,_,hr,h=>by
  have h1:=h y.f;rw[hr.head,kS]at h1;simp at h1
 |x::l,[],hl,_,h=>by
  have h1:=h x.f;rw[hl.head,kS]at h1;simp at h1
 |x::l,y::r,hl,hr,h=>by
  have hx:=hl.2 x (by simp);have hy:=hr.2 y (by simp);have e1:x.f=y.f:=by
   have h1:=hr.low (t:=x.f) (by rw[<-h];exact hl.head);have A:=hl.low (t:=y.f) (by rw[h];exact hr.head);omega
  have B:x.v=y.v:=by
   have h1:=h x.f;rw[hl.head,e1,hr.head]at h1;simpa using h1
  have D:x.t=y.t:=by
   rcases Int.lt_trichotomy x.t y.t with h1|h1|h1
   ·exfalso
    have A:=h x.t;rw[ut (x:=y) ⟨by omega,h1⟩,xC (by omega)]at A;exact(hl.past A).2 rfl B.symm
   ·exact h1
   exfalso
   have A:=(h y.t).symm;rw[ut (x:=x) ⟨by omega,h1⟩,xC (by omega)]at A;exact(hr.past A).2 rfl B
  have e:x=y:=by
   cases x;cases y
   simp only at e1 D B;subst e1 D B;rfl
  subst e
  congr 1
  refine qU hl.tail hr.tail λt=>?_;have h1:=h t
  by_cases E:x.f<=t/\t<x.t
  ·have F:xN l t=none:=by
    cases C:xN l t with
    |none=>rfl
    |some v=>have:=(hl.past C).1;omega
   have G:xN r t=none:=by
    cases C:xN r t with
    |none=>rfl
    |some v=>have:=(hr.past C).1;omega
   rw[F,G]
  rwa[xC E,xC E]at h1
theorem wL.init(h:wL (out++[z])):wL out:=⟨(List.pairwise_append.1 h.1).1,λy hy=>h.2 y (List.mem_append_left _ hy)⟩
theorem wL.snoc_lt(h:wL (out++[z])){y:zg}(hy:y∈out):y.t<=z.f/\(y.t=z.f->y.v≠z.v):=(List.pairwise_append.1 h.1).2.2 y hy z (by simp)
theorem wL.snoc(h:wL out)(D:x.f<x.t)(B:∀y,y∈out->y.t<=x.f/\(y.t=x.f->y.v≠x.v)):wL (out++[x]):=by
 refine⟨List.pairwise_append.2 ⟨h.1,by simp,λy A u C=>?_⟩,λy A=>?_⟩
 ·obtain rfl:u=x:=by simpa using C
  exact B y A
 rcases List.mem_append.1 A with A|A
 ·exact h.2 y A
 obtain rfl:y=x:=by simpa using A
 exact D
theorem wL.grow(h:wL (out++[z])){n:Int}(hn:z.t<=n):wL (out++[⟨z.f,n,z.v⟩]):=
 h.init.snoc (by have:=h.2 z (by simp);simp only;omega) λ_ hy=>h.snoc_lt hy
theorem wL.rise(h:wL (out++[z])):∀y,y∈out++[z]->y.t<=z.t:=λy A=>by
 rcases List.mem_append.1 A with A|A
 ·have:=h.snoc_lt A;have:=h.2 z (by simp);omega
 obtain rfl:y=z:=by simpa using A
 exact Int.le_refl _
theorem wL.ahead(h:wL (out++[z])){y:zg}(A:y∈out):y.t<z.t:=by
 have:=h.snoc_lt A;have:=h.2 z (by simp);omega
end
structure qr(fn:Int->Option Int)(b a:Int)(out:List zg):Prop where
 map:wL out
 tells:∀t,xN out t=if b<=t/\t<a then fn t else none
 low:∀y,y∈out->y.t<=a
section
variable {fn:Int->Option Int}{b a c v:Int}{out o:List zg}{z:zg}
theorem qr.start:qr fn a a []:=⟨.nil,λt=>by rw[kS,if_neg (by omega)],λy h=>by simp at h⟩
theorem qr.skip(h:qr fn b a out)(C:a<c)(A:∀t,a<=t->t<c->fn t=fn a)(D:fn a=none):qr fn b c out:=by
 refine⟨h.map,λt=>?_,λy E=>by have:=h.low y E;omega⟩;rw[h.tells t]
 by_cases B:b<=t/\t<a
 ·rw[if_pos B,if_pos (by omega)]
 rw[if_neg B]
 split
 ·rw[A t (by omega) (by omega),D]
 rfl
theorem qr.grow(h:qr fn b a (o++[z]))(_:b<=a)(I:a<c)(F:∀t,a<=t->t<c->fn t=fn a)(L:fn a=some z.v)(O:z.t=a):qr fn b c (o++[⟨z.f,c,z.v⟩]):=by
 have G:=h.map.2 z (by simp);have M:b<=z.f:=by
  have A:=h.tells z.f;have H:xN (o++[z]) z.f=some z.v:=by
   rw[lE,UJ λy B=>by have:=h.map.snoc_lt B;omega];exact ut ⟨Int.le_refl _,G⟩
  rw[H]at A;refine Classical.byContradiction λN=>?_;rw[if_neg (by omega)]at A;simp at A
 refine⟨h.map.grow (by omega),λt=>?_,λy B=>?_⟩
 ·have A:=h.tells t
  rw[lE]at A⊢
  cases E:xN o t with
  |some u=>
   rw[E]at A;obtain⟨q,J,P,Q,_⟩:=rz E;have:=h.low q (List.mem_append_left _ J);simp only[Option.or]at A⊢;rw[A]
   by_cases C:b<=t/\t<a
   ·rw[if_pos C,if_pos (by omega)]
   rw[if_neg C]at A;simp at A
  |none=>
   rw[E]at A;simp only[Option.none_or]at A⊢
   by_cases D:z.f<=t/\t<c
   ·rw[ut (by simpa using D),if_pos (by omega)]
    by_cases K:t<a
    ·rw[ut ⟨D.1,by omega⟩,if_pos (by omega)]at A
     simp only;exact A
    rw[F t (by omega) D.2,L]
   rw[xC (by simpa using D),kS];rw[xC (by omega),kS]at A
   by_cases C:b<=t/\t<c
   ·rw[if_pos C]
    rw[if_pos (by omega)]at A;exact A
   rw[if_neg C]
 rcases List.mem_append.1 B with B|B
 ·have:=h.low y (List.mem_append_left _ B);omega
 obtain rfl:y=_:=by simpa using B
 exact Int.le_refl _
theorem qr.next(h:qr fn b a out)(G:b<=a)(B:a<c)(C:∀t,a<=t->t<c->fn t=fn a)(H:fn a=some v)(I:∀y,y∈out->y.t=a->y.v≠v):qr fn b c (out++[⟨a,c,v⟩]):=by
 refine⟨h.map.snoc B λy A=>⟨h.low y A,λe=>I y A e⟩,λt=>?_,λy A=>?_⟩
 ·have F:=h.tells t
  rw[lE,F]
  by_cases D:b<=t/\t<a
  ·rw[if_pos D,if_pos (by omega),xC (by simp only;omega),kS]
   simp
  rw[if_neg D];simp only[Option.none_or]
  by_cases E:b<=t/\t<c
  ·rw[if_pos E,ut (by simp only;omega),C t (by omega) (by omega),H]
  rw[if_neg E,xC (by simp only;omega),kS]
 rcases List.mem_append.1 A with A|A
 ·have:=h.low y A;omega
 obtain rfl:y=_:=by simpa using A
 exact Int.le_refl _
end
end Go.Proofs.YtjcimdpldlamfaaGreatDoor
