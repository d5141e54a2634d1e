import Derived.Shelf.SlSortCmp.WholeK
import Derived.Lib.SliceRun
import Derived.Test.YtjcimdpldlamfaaGreatDoorBd08759bfeac
namespace Go.Proofs.YtjcimdpldlamfaaGreatDoor
structure vt where
 f:Int
 t:Int
 s:Int
 has:Bool
 v:Int
deriving DecidableEq
def ng(x:zg)(t:Int):Bool:=decide (x.f<=t/\t<x.t)
def xv(l:List zg)(t:Int):Nat->List Int
 |0=>[]
 |k+1=>xv l t k++(match l[k]? with|some x=>if ng x t then [(k:Int)] else []|none=>[])
def yQ(l:List zg)(t:Int):List Int:=xv l t l.length
def cP(l:List zg)(i:Int):Int:=((l[i.toNat]?).map zg.v).getD 0
def oZ(l:List zg)(k:Int):Int->List Int->Int
 |v,[]=>v
 |v,i::is=>oZ l k (qM k v (cP l i)) is
def rP(l:List zg)(k:Int):List Int->Int
 |[]=>0
 |i::is=>oZ l k (cP l i) is
abbrev fS:=List Int×Option Int
def sd(state l:List zg)(t:Int):Option fS:=if yQ l t=[] then none else some (yQ l t,xN state t)
def yP(l:List zg)(k:Int)(p:yT fS):vt:=⟨p.f,p.t,p.v.2.getD 0,p.v.2.isSome,rP l k p.v.1⟩
def mF(l:List zg):Prop:=∀x,x∈l->(zL x.f=true/\zL x.t=true/\zL x.v=true)/\x.f<x.t
open Classical in
noncomputable def vZ(l:List zg):Int:=if 200<l.length then 2 else if mF l then 0 else 5
section
variable {l state:List zg}{t k v:Int}{n:Nat}{x:zg}{D:List Int}
theorem ip(h:200<l.length):vZ l=2:=if_pos h
theorem aJ(h:¬200<l.length)(A:mF l):vZ l=0:=by unfold vZ;rw[if_neg h,if_pos A]
theorem dJ(h:¬200<l.length)(A:¬mF l):vZ l=5:=by unfold vZ;rw[if_neg h,if_neg A]
theorem fF(h:vZ l=0):l.length<=200/\mF l:=by
 by_cases A:200<l.length
 ·rw[ip A]at h;simp at h
 by_cases B:mF l
 ·exact⟨by omega,B⟩
 rw[dJ A B]at h;simp at h
theorem pO(A:l[n]?=some x):xv l t (n+1)=xv l t n++if ng x t then [(n:Int)] else []:=by
 show xv l t n++(match l[n]? with|some x=>if ng x t then [(n:Int)] else []|none=>[])=_;rw[A]
theorem se:∀{n:Nat} {i:Int},i∈xv l t n->0<=i/\i<n/\∃x,l[i.toNat]?=some x/\ng x t=true
 |0,i,h=>by simp[xv]at h
 |n+1,i,h=>by
  rcases List.mem_append.1 h with h|h
  ·obtain⟨h1,h2,h3⟩:=se h
   exact⟨h1,by omega,h3⟩
  cases hx:l[n]? with
  |none=>rw[hx]at h;simp at h
  |some x=>
   rw[hx]at h
   by_cases hp:ng x t=true
   ·simp only[hp,if_true,List.mem_cons,List.not_mem_nil,or_false]at h
    subst h;exact⟨by omega,by omega,x,by simpa using hx,hp⟩
   simp[hp]at h
theorem gW:∀{n:Nat} {i:Nat},i<n->l[i]?=some x->ng x t=true->(i:Int)∈xv l t n
 |n+1,i,h,hx,hp=>by
  by_cases hi:i=n
  ·subst hi
   rw[pO hx,hp];simp
  exact List.mem_append_left _ (gW (by omega) hx hp)
theorem gT:yQ l t≠[]↔∃x,x∈l/\ng x t=true:=by
 constructor
 ·intro h
  obtain⟨i,A⟩:=List.exists_mem_of_ne_nil _ h;obtain⟨_,_,x,C,B⟩:=se A;exact⟨x,List.mem_of_getElem? C,B⟩
 rintro⟨x,C,B⟩ h;obtain⟨i,A⟩:=List.getElem?_of_mem C;have:=gW (n:=l.length) (zy A) A B;unfold yQ at h;rw[h]at this;simp at this
theorem gU:(xv l t n).length<=n:=by
 induction n with
 |zero=>simp[xv]
 |succ n ih=>
  show(xv l t n++_).length<=_;rw[List.length_append]
  cases l[n]? with
  |none=>simp;omega
  |some x=>
   simp only
   split <;> simp <;> omega
theorem UR(x:zg)(t:Int):zE [⟨x.f,x.t⟩] t=ng x t:=by
 rw[Bool.eq_iff_iff,xc];simp[ng,zE]
theorem WE(H:D.Pairwise (· < ·))(B:∀x,x∈l->x.f∈D/\x.t∈D):yA D [] (yQ l):=by
 refine⟨λi a c I J t F G=>?_,λt M=>?_⟩
 ·have C:∀n,xv l t n=xv l a n:=λn=>by
   induction n with
   |zero=>rfl
   |succ n ih=>
    show xv l t n++_=xv l a n++_;rw[ih]
    cases A:l[n]? with
    |none=>rfl
    |some x=>
     have K:=B x (List.mem_of_getElem? A);have:=(Vn (l:=[⟨x.f,x.t⟩]) H λy N=>by
      obtain rfl:y=_:=by simpa using N
      exact K).const i a c I J t F G
     rw[UR,UR]at this;simp only[this]
  exact C _
 obtain⟨x,A,L⟩:=gT.1 M;have E:x.f<=t/\t<x.t:=by simpa[ng]using L
 exact⟨x.f,x.t,(B x A).1,(B x A).2,E.1,E.2⟩
theorem Sj(hD:D.Pairwise (· < ·))(hl:∀x,x∈l->x.f∈D/\x.t∈D)(hs:∀x,x∈state->x.f∈D/\x.t∈D):yA D none (sd state l):=
 (WE hD hl).map2 (λw s=>if w=[] then none else some (w,s)) (if_pos rfl) (iX hD hs)
theorem WU{k a b A:Int}(_E:1<=k/\k<=3)(D:-A<=a/\a<=A)(C:0<=A)(B:zL b=true):-(A+1000000000)<=qM k a b/\qM k a b<=A+1000000000:=by
 have:=wQ.1 B;unfold qM
 split
 ·omega
 split <;> omega
end
theorem vw.mem_at{α:Type}:∀{l:List (yT α)},vw l->∀{x:yT α},x∈l->∀{t:Int},x.f<=t->t<x.t->ko l t=some x.v
 |[],_,_,hx,_,_,_=>by simp at hx
 |y::l,h,x,hx,t,h1,h2=>by
  rcases List.mem_cons.1 hx with rfl|hx
  ·exact qs ⟨h1,h2⟩
  have h3:=(List.pairwise_cons.1 h.1).1 x hx;rw[tI (by omega)];exact h.tail.mem_at hx h1 h2
def qG(fn:Int->Option fS)(D:List Int)(i:Nat)(out:List (yT fS)):Prop:=(∀b a,D[0]?=some b->D[i]?=some a->oI fn b a out)/\out.length<=i/\(∀x,x∈out->zM x.f/\zM x.t)
section
variable {fn:Int->Option fS}{D:List Int}{i:Nat}{out o:List (yT fS)}{a c p:Int}{v:fS}{z:yT fS}
theorem ZJ(ha:D[i]?=some a):∃b,D[0]?=some b:=zl (by have:=zy ha;omega)
theorem da(hD:D.Pairwise (· < ·)){b:Int}(hb:D[0]?=some b)(ha:D[i]?=some a):b<=a:=rO hD hb (List.mem_of_getElem? ha)
theorem qG.start:qG fn D 0 []:=
 ⟨λb a B A=>by
  obtain rfl:b=a:=by rw[B]at A;simpa using A
  exact oI.start,Nat.le_refl _,λx h=>by simp at h⟩
theorem qG.skip(h:qG fn D i out)(F:D.Pairwise (· < ·))(G:yA D none fn)(B:D[i]?=some a)(C:D[i+1]?=some c)(I:fn a=none):qG fn D (i+1) out:=
 ⟨λb E H A=>by
  obtain rfl:c=E:=by rw[C]at A;simpa using A
  exact(h.1 b a H B).skip (uT F B C) (G.const i a c B C) I,by have:=h.2.1;omega,h.2.2⟩
theorem qG.grow(h:qG fn D i (o++[z]))(F:D.Pairwise (· < ·))(I:yA D none fn)(C:D[i]?=some a)(E:D[i+1]?=some c)(J:fn a=some z.v)(K:z.t=a)(hi:zM c):qG fn D (i+1) (o++[⟨z.f,c,z.v⟩]):=
 ⟨λb H G A=>by
  obtain rfl:c=H:=by rw[E]at A;simpa using A
  exact(h.1 b a G C).grow (da F G C) (uT F C E) (I.const i a c C E) J K,by have:=h.2.1;simp at this⊢;omega,λx B=>by
  rcases List.mem_append.1 B with B|B
  ·exact h.2.2 x (List.mem_append_left _ B)
  obtain rfl:x=_:=by simpa using B
  exact⟨(h.2.2 z (by simp)).1,hi⟩⟩
theorem qG.next(h:qG fn D i out)(H:D.Pairwise (· < ·))(K:yA D none fn)(C:D[i]?=some a)(E:D[i+1]?=some c)(L:fn a=some v)(M:∀y,y∈out->y.t=a->y.v≠v)(F:zM a)(G:zM c):qG fn D (i+1) (out++[⟨a,c,v⟩]):=
 ⟨λb J I A=>by
  obtain rfl:c=J:=by rw[E]at A;simpa using A
  exact(h.1 b a I C).next (da H I C) (uT H C E) (K.const i a c C E) L M,by have:=h.2.1;simp;omega,λx B=>by
  rcases List.mem_append.1 B with B|B
  ·exact h.2.2 x B
  obtain rfl:x=_:=by simpa using B
  exact⟨F,G⟩⟩
theorem qG.prev(h:qG fn D (i+1) out)(F:D.Pairwise (· < ·))(I:yA D none fn)(C:D[i]?=some p)(E:D[i+1]?=some a):(fn p=none->∀y,y∈out->y.t≠a)/\∀v,fn p=some v->∃o z,out=o++[z]/\z.t=a/\z.v=v:=by
 obtain⟨b,G⟩:=ZJ C;have B:=h.1 b a G E;have J:=da F G C;have L:=uT F C E;have e:ko out (a-1)=fn p:=by
  rw[B.tells,if_pos (by omega)];exact I.const i p a C E (a-1) (by omega) (by omega)
 refine⟨λK y A N=>?_,λv M=>?_⟩
 ·have:=B.map.2 y A
  rw[B.map.mem_at A (by omega) (by omega),K]at e;simp at e
 rw[M]at e;obtain⟨y,A,Q,R,P⟩:=mI e;have H:=B.low y A;rcases List.eq_nil_or_concat out with rfl|⟨o,z,rfl⟩
 ·simp at A
 rw[List.concat_eq_append]at *;refine⟨o,z,rfl,?_⟩;have O:=B.low z (by simp);rcases List.mem_append.1 A with A|A
 ·have:=B.map.ahead A
  omega
 obtain rfl:y=z:=by simpa using A
 exact⟨by omega,P⟩
theorem qG.fin(h:qG fn D i out)(C:D.Pairwise (· < ·))(E:yA D none fn)(hi:D.length<=i+1)(h0:i<D.length∨(D=[]/\out=[])):vw out/\∀t,ko out t=fn t:=by
 rcases h0 with h0|⟨rfl,rfl⟩
 ·obtain⟨a,A⟩:=zl h0
  obtain⟨b,F⟩:=ZJ A;have B:=h.1 b a F A;refine⟨B.map,λt=>?_⟩;rw[B.tells t]
  split
  ·rfl
  rename_i hn
  refine(Classical.byContradiction λk=>?_:none=fn t);obtain⟨p,q,G,H,I,J⟩:=E.inside t (λe=>k e.symm);have:=rO C F G;have:=jl C A (by omega) H;exact hn ⟨by omega,by omega⟩
 exact⟨.nil,λt=>(E.empty t).symm⟩
end
def pW(state l:List zg)(D:List Int)(i:Nat)(lw:List Int)(o:Option Int):Prop:=(i=0->lw=[])/\∀j p,i=j+1->D[j]?=some p->lw=yQ l p/\o=xN state p
section
variable {state l:List zg}{D:List Int}{i:Nat}{out:List (yT fS)}{a c:Int}{lw:List Int}{o:Option Int}
theorem pW.start:pW state l D 0 [] none:=⟨λ_=>rfl,λj p h=>by omega⟩
theorem pW.next(B:D[i]?=some a):pW state l D (i+1) (yQ l a) (xN state a):=⟨λh=>by omega,λj p C A=>by
 obtain rfl:i=j:=by omega
 rw[B]at A;obtain rfl:a=p:=by simpa using A
 exact⟨rfl,rfl⟩⟩
theorem Re(h:qG (sd state l) D i out)(hD:D.Pairwise (· < ·))(hT:yA D none (sd state l))(ha:D[i]?=some a)(hc:D[i+1]?=some c)(hw:yQ l a=[]):qG (sd state l) D (i+1) out:=
 h.skip hD hT ha hc (by unfold sd;rw[if_pos hw])
theorem Rd(h:qG (sd state l) D i out)(F:D.Pairwise (· < ·))(G:yA D none (sd state l))(B:D[i]?=some a)(E:D[i+1]?=some c)(hi:zM c)(A:pW state l D i lw o)(h0:lw≠[])(h1:lw=yQ l a)(J:o=xN state a) :
  ∃q z,out=q++[z]/\z.t=a/\z.v=(yQ l a,xN state a)/\qG (sd state l) D (i+1) (q++[⟨z.f,c,z.v⟩]):=by
 match i,h,B,E,A with
 |0,_,_,_,A=>exact absurd (A.1 rfl) h0
 |j+1,h,B,E,A=>
  obtain⟨p,H⟩:=zl (show j<D.length by have:=zy B;omega);obtain⟨M,N⟩:=A.2 j p rfl H;have K:sd state l p=some (lw,o):=by unfold sd;rw[<-M,<-N,if_neg h0]
  obtain⟨q,z,rfl,I,L⟩:=(h.prev F G H B).2 _ K;have C:z.v=(yQ l a,xN state a):=by rw[L,h1,J]
  exact⟨q,z,rfl,I,C,h.grow F G B E (by unfold sd;rw[if_neg (by rw[<-h1];exact h0),C]) I hi⟩
theorem aY(h:qG (sd state l) D i out)(L:D.Pairwise (· < ·))(M:yA D none (sd state l))(C:D[i]?=some a)(Q:D[i+1]?=some c)(I:zM a)(J:zM c)(H:pW state l D i lw o)(T:yQ l a≠[])(A:lw=[]∨¬(lw=yQ l a/\o=xN state a)) :
  qG (sd state l) D (i+1) (out++[⟨a,c,(yQ l a,xN state a)⟩]):=by
 refine h.next L M C Q (by unfold sd;rw[if_neg T]) (λy B K F=>?_) I J
 match i,h,C,H with
 |0,h,_,_=>have:=h.2.1;simp at this;rw[this]at B;simp at B
 |j+1,h,C,H=>
  obtain⟨p,N⟩:=zl (show j<D.length by have:=zy C;omega);obtain⟨O,U⟩:=H.2 j p rfl N;have E:=h.prev L M N C
  by_cases G:lw=[]
  ·exact E.1 (by unfold sd;rw[<-O,if_pos G]) y B K
  have R:sd state l p=some (lw,o):=by unfold sd;rw[<-O,<-U,if_neg G]
  obtain⟨q,z,rfl,V,S⟩:=E.2 _ R;obtain⟨b,P⟩:=ZJ C;rcases List.mem_append.1 B with B|B
  ·have:=(h.1 b a P C).map.ahead B
   omega
  obtain rfl:y=z:=by simpa using B
  rw[S]at F;rcases A with A|A
  ·exact G A
  exact A (by simpa using F)
end
set_option maxHeartbeats 2000000
open Go.RowKit
def vp(n:Int):Bool:=!zL n
theorem wU{n:Int}(h:vp n=false):zL n=true:=by simpa[vp]using h
theorem mP{n:Int}(h:vp n=true):zL n=false:=by simpa[vp]using h
theorem af{n:Int}(h:n < -1000000000∨1000000000<n):vp n=true:=by simp[vp,zL,vQ];omega
theorem Vf{n:Int}(h1:¬n < -1000000000)(A:¬1000000000<n):vp n=false:=by simp[vp,zL,vQ];omega
theorem Vg{n:Int}{b:Bool}(h:vp n=b)(w:World):Calls Tryz.prog 189 #[.int .i64 n] w λe A=>e=.returned (.bool b)/\w=A:=by
 go_enter Tryz.func189,Tryz.ntmps189
 go_wp2
 all_goals go_ret
 all_goals exact⟨yW (by rw[<-h,Bool.eq_iff_iff];simp[vp,zL,vQ];try omega),rfl⟩
theorem ag{n:Int}{b:Bool}(h:vp n=b)(W:World)(k:Nat):Calls Tryz.prog 189 #[.int .i64 n] (W.drewN k) λe w'=>e=.returned (.bool b)/\∃m,w'=W.drewN m:=(Vg h _).mono λ_ _ ⟨h1,h2⟩=>⟨h1,k,h2.symm⟩
theorem pJ{l:List zw}(h:l.length<=200)(h2:¬xx l):yw l=5:=cy (by omega) h2
theorem OL{l:List zw}{k:Nat}{x:zw}(hx:l[k]?=some x)(h:vp x.f=true):¬xx l:=λhs=>by have:=(hs.at_ hx).1;rw[mP h]at this;simp at this
theorem ON{l:List zw}{k:Nat}{x:zw}(hx:l[k]?=some x)(h:vp x.t=true):¬xx l:=λhs=>by have:=(hs.at_ hx).2.1;rw[mP h]at this;simp at this
theorem OK{l:List zw}{k:Nat}{x:zw}(hx:l[k]?=some x)(h:x.t<=x.f):¬xx l:=λhs=>by have:=(hs.at_ hx).2.2;omega
theorem OM{l:List zw}{k:Nat}{x z:zw}(hz:l[k]?=some z)(hx:l[k+1]?=some x)(h:x.f<=z.t):¬xx l:=λhs=>by have:=hs.gap hz hx;omega
theorem ia(A:Option Addr)(c:Nat)(l:List zw)(w:World)(L:IvlsAt w A c l) :
  Calls Tryz.prog 204 #[.slice A l.length c] w λe i=>e=.returned (.int .i64 (yw l))/\Below w.heap.size w i:=by
 have q:=L.len
 by_cases H:l.length<=200
 case neg=>
  have V:decide ((l.length:Int)>200)=true:=by simp;omega
  go_enter Tryz.func204,Tryz.ntmps204
  go_wp2_with fail;go_ret;exact⟨zC (iE (by omega)).symm,by go_grown⟩
 have V:decide ((l.length:Int)>200)=false:=by simp;omega
 have R:=zc L;clear L
 go_enter Tryz.func204,Tryz.ntmps204
 go_wp2_with fail;clear V
 go_loopw [10] (λv wr=>∃k:Nat,k<=l.length/\v=.int .i64 k/\Hid (xx (l.take k))/\Below w.heap.size w wr) (λv _=>l.length-(intOf v).toNat)
 case atStart=>exact⟨0,Nat.zero_le _,rfl,zc (by simpa using xx.nil),Below.refl _ _⟩
 obtain⟨k,p,rfl,S,B⟩:=hrel
 by_cases M:k<l.length
 case neg=>
  obtain rfl:k=l.length:=by omega
  go_wp2_with fail;go_ret;exact⟨zC (aR (by omega) (by have:=S.out;rwa[List.take_length]at this)).symm,B⟩
 obtain⟨x,N⟩:=zl M;obtain⟨b,F,rfl,E,m,n⟩:=R.out.get N;rw[<-B.cell (by exact E)]at m n;have C:=zc N;clear N
 cases I:vp x.f
 case true=>
  go_wp2_with fail
  go_quiet (first|(go_at_call 189;exact ag (by assumption) _ _))
  go_wp2;go_ret;exact⟨zC (pJ H (OL C.out I)).symm,zo (ze B _) _⟩
 cases J:vp x.t
 case true=>
  go_wp2_with fail
  go_quiet (first|(go_at_call 189;exact ag (by assumption) _ _))
  go_wp2;go_ret;exact⟨zC (pJ H (ON C.out J)).symm,zo (ze B _) _⟩
 by_cases D:x.t<=x.f
 case pos=>
  have X:decide (x.t<=x.f)=true:=by simpa using D
  go_wp2_with fail
  go_quiet (first|(go_at_call 189;exact ag (by assumption) _ _))
  go_wp2;go_ret;exact⟨zC (pJ H (OK C.out D)).symm,zo (ze B _) _⟩
 have X:decide (x.t<=x.f)=false:=by simpa using D
 have Q:=zc D;clear D
 by_cases h:k<=0
 case pos=>
  have Y:decide (0<k)=false:=by simp;omega
  go_wp2_with fail
  go_quiet (first|(go_at_call 189;exact ag (by assumption) _ _))
  go_wp2;go_roundw
  case rel=>
   obtain rfl:k=0:=by omega
   exact⟨1,by omega,by go_num,zc (xx.first C.out (wU I) (wU J) (by have:=Q.out;omega)),zo (ze B _) _⟩
  case measure=>simp[intOf];omega
 obtain⟨j,rfl⟩:∃j,k=j+1:=⟨k-1,by omega⟩;obtain⟨z,O⟩:=zl (show j<l.length by omega);obtain⟨W,G,U,_,o,P⟩:=R.out.get O;obtain⟨rfl,rfl⟩:b=W/\F=G:=by simpa using U
 rw[<-B.cell (by exact E)]at o P;have T:=zc O;clear O U;have Y:(0:Int)<(j:Int)+1:=by omega
 have a:(j:Int)<=200:=by omega
 have g:IntKind.i64.wrap (j:Int)=j:=IntWalk.i64_in _ (by omega);have d:j<l.length:=by omega
 have P:(wr.alloc (Obj.cells #[Value.int IntKind.i64 x.f,Value.int IntKind.i64 x.t] 94)).cell? ⟨b,F+j*2+1,none⟩=some (.int .i64 z.t):=zD (ze (Below.refl _ _) _) P
 by_cases K:x.f<=z.t
 case pos=>
  have Z:decide (x.f<=z.t)=true:=by simpa using K
  go_wp2_with fail
  go_quiet (first|(go_at_call 189;exact ag (by assumption) _ _))
  go_wp2;go_ret;exact⟨zC (pJ H (OM T.out C.out K)).symm,zo (ze B _) _⟩
 have Z:decide (x.f<=z.t)=false:=by simpa using K
 go_wp2_with fail
 go_quiet (first|(go_at_call 189;exact ag (by assumption) _ _))
 go_wp2;go_roundw
 case rel=>exact⟨j+1+1,by omega,by go_num,zc (S.out.next T.out C.out (wU I) (wU J) (by have:=Q.out;omega) (by omega)),zo (ze B _) _⟩
 case measure=>simp[intOf];omega
set_option maxHeartbeats 4000000
theorem uz{n:Int}{b:Bool}(h:vp n=b)(w:World):Calls Tryz.prog 169 #[.int .i64 n] w λe A=>e=.returned (.bool b)/\w=A:=by
 go_enter Tryz.func169,Tryz.ntmps169
 go_wp2
 all_goals go_ret
 all_goals exact⟨yW (by rw[<-h,Bool.eq_iff_iff];simp[vp,zL,vQ];try omega),rfl⟩
section
variable {l:List zg}{k:Nat}{x z:zg}
theorem sk(h:l.length<=200)(h2:¬xP l):yd l=5:=dG (by omega) h2
theorem Ot(hx:l[k]?=some x)(h:zL x.f=false):¬xP l:=λhs=>by have:=(hs.at_ hx).1;rw[h]at this;simp at this
theorem Ov(hx:l[k]?=some x)(h:zL x.t=false):¬xP l:=λhs=>by have:=(hs.at_ hx).2.1;rw[h]at this;simp at this
theorem Pw(hx:l[k]?=some x)(h:zL x.v=false):¬xP l:=λhs=>by have:=(hs.at_ hx).2.2.1;rw[h]at this;simp at this
theorem Oq(hx:l[k]?=some x)(h:x.t<=x.f):¬xP l:=λhs=>by have:=(hs.at_ hx).2.2.2;omega
theorem Ou(hz:l[k]?=some z)(hx:l[k+1]?=some x)(h:x.f<z.t):¬xP l:=λhs=>by have:=(hs.gap hz hx).1;omega
theorem Ow(hz:l[k]?=some z)(hx:l[k+1]?=some x)(h:x.f=z.t)(hv:x.v=z.v):¬xP l:=λhs=>(hs.gap hz hx).2 h.symm hv.symm
end
theorem ky(A:Option Addr)(c:Nat)(l:List zg)(w:World)(S:PiecesAt w A c l) :
  Calls Tryz.prog 166 #[.slice A l.length c] w λe C=>e=.returned (.int .i64 (yd l))/\Below w.heap.size w C:=by
 have m1:=S.len
 by_cases G:l.length<=200
 case neg=>
  have a:decide ((l.length:Int)>200)=true:=by simp;omega
  go_enter Tryz.func166,Tryz.ntmps166
  go_wp2_with fail;go_ret;exact⟨zC (io (by omega)).symm,by go_grown⟩
 have a:decide ((l.length:Int)>200)=false:=by simp;omega
 have X:=zc S;clear S
 go_enter Tryz.func166,Tryz.ntmps166
 go_wp2_with fail;clear a
 go_loopw [10] (λv wr=>∃k:Nat,k<=l.length/\v=.int .i64 k/\Hid (xP (l.take k))/\Below w.heap.size w wr) (λv _=>l.length-(intOf v).toNat)
 case atStart=>exact⟨0,Nat.zero_le _,rfl,zc (by simpa using xP.nil),Below.refl _ _⟩
 obtain⟨k,hk,rfl,Q,T⟩:=hrel
 by_cases U:k<l.length
 case neg=>
  obtain rfl:k=l.length:=by omega
  go_wp2_with fail;go_ret;exact⟨zC (gA (by omega) (by have:=Q.out;rwa[List.take_length]at this)).symm,T⟩
 obtain⟨x,V⟩:=zl U;obtain⟨b,F,rfl,E,x0,x1,x2⟩:=X.out.get V;rw[<-T.cell (by exact E)]at x0 x1 x2;have D:=zc V;clear V;have B:=ze T (Obj.cells #[Value.int IntKind.i64 x.f,Value.int IntKind.i64 x.t,Value.int IntKind.i64 x.v] 113)
 cases L:vp x.f
 case true=>
  go_wp2_with (first|(go_at_call 169;refine(uz (by assumption) _).mono ?_;rintro e C ⟨rfl,rfl⟩));go_ret;exact⟨zC (sk G (Ot D.out (mP L))).symm,B⟩
 cases M:vp x.t
 case true=>
  go_wp2_with (first|(go_at_call 169;refine(uz (by assumption) _).mono ?_;rintro e C ⟨rfl,rfl⟩));go_ret;exact⟨zC (sk G (Ov D.out (mP M))).symm,B⟩
 cases N:vp x.v
 case true=>
  go_wp2_with (first|(go_at_call 169;refine(uz (by assumption) _).mono ?_;rintro e C ⟨rfl,rfl⟩));go_ret;exact⟨zC (sk G (Pw D.out (mP N))).symm,B⟩
 by_cases H:x.t<=x.f
 case pos=>
  have m:decide (x.t<=x.f)=true:=by simpa using H
  go_wp2_with (first|(go_at_call 169;refine(uz (by assumption) _).mono ?_;rintro e C ⟨rfl,rfl⟩));go_ret;exact⟨zC (sk G (Oq D.out H)).symm,B⟩
 have m:decide (x.t<=x.f)=false:=by simpa using H
 have P:=zc H;clear H
 by_cases y:k<=0
 case pos=>
  have r:decide (0<k)=false:=by simp;omega
  go_wp2_with (first|(go_at_call 169;refine(uz (by assumption) _).mono ?_;rintro e C ⟨rfl,rfl⟩))
  go_quiet (fail)
  go_wp2;go_roundw
  case rel=>
   obtain rfl:k=0:=by omega
   exact⟨1,by omega,by go_num,zc (xP.first D.out (wU L) (wU M) (wU N) (by have:=P.out;omega)),zo B _⟩
  case measure=>simp[intOf];omega
 obtain⟨j,rfl⟩:∃j,k=j+1:=⟨k-1,by omega⟩;obtain⟨z,W⟩:=zl (show j<l.length by omega);obtain⟨i,I,Z,_,z0,d,g⟩:=X.out.get W;obtain⟨rfl,rfl⟩:b=i/\F=I:=by simpa using Z
 have d:=(B.cell (p:=⟨b,F+j*3+1,none⟩) E).trans d;have g:=(B.cell (p:=⟨b,F+j*3+2,none⟩) E).trans g;have J:=zc W;clear W Z z0;have r:(0:Int)<(j:Int)+1:=by omega
 have u:IntKind.i64.wrap (j:Int)=j:=IntWalk.i64_in _ (by omega);have s:j<l.length:=by omega
 by_cases Y:x.f<z.t
 case pos=>
  have n:decide (x.f<z.t)=true:=by simpa using Y
  go_wp2_with (first|(go_at_call 169;refine(uz (by assumption) _).mono ?_;rintro e C ⟨rfl,rfl⟩))
  go_quiet (fail)
  go_wp2;go_ret;exact⟨zC (sk G (Ou J.out D.out Y)).symm,zo B _⟩
 have n:decide (x.f<z.t)=false:=by simp;omega
 by_cases R:x.f=z.t
 case neg=>
  have o:(x.f== z.t)=false:=by simp;omega
  go_wp2_with (first|(go_at_call 169;refine(uz (by assumption) _).mono ?_;rintro e C ⟨rfl,rfl⟩))
  go_quiet (fail)
  go_wp2;go_roundw
  case rel=>exact⟨j+1+1,by omega,by go_num,zc (Q.out.next J.out D.out (wU L) (wU M) (wU N) (by have:=P.out;omega) (by omega) (λe=>absurd e.symm R)),zo B _⟩
  case measure=>simp[intOf];omega
 have o:(x.f== z.t)=true:=by simp;omega
 have h:=zc R;clear R
 by_cases K:x.v=z.v
 case pos=>
  have q:(x.v== z.v)=true:=by simp;omega
  have O:=zc K;clear K;go_wp2_with (first|(go_at_call 169;refine(uz (by assumption) _).mono ?_;rintro e C ⟨rfl,rfl⟩))
  go_quiet (fail)
  go_wp2;go_ret;exact⟨zC (sk G (Ow J.out D.out h.out O.out)).symm,zo B _⟩
 have q:(x.v== z.v)=false:=by simp;omega
 have O:=zc K;clear K;go_wp2_with (first|(go_at_call 169;refine(uz (by assumption) _).mono ?_;rintro e C ⟨rfl,rfl⟩))
 go_quiet (fail)
 go_wp2;go_roundw
 case rel=>exact⟨j+1+1,by omega,by go_num,zc (Q.out.next J.out D.out (wU L) (wU M) (wU N) (by have:=P.out;omega) (by omega) (λ_ e=>O.out e.symm)),zo B _⟩
 case measure=>simp[intOf];omega
def Pv(o:Option Int):Value:=.tuple #[.int .i64 (o.getD 0),.bool o.isSome]
theorem ja(A:Option Addr)(c:Nat)(l:List zg)(t:Int)(w:World)(G:PiecesAt w A c l) :
  Calls Tryz.prog 173 #[.slice A l.length c,.int .i64 t] w λe P=>e=.returned (Pv (xN l t))/\Below w.heap.size w P:=by
 have U:=G.len;have L:=zc G;clear G
 go_enter Tryz.func173,Tryz.ntmps173
 go_wp2_with fail
 go_loopw [10] (λv wr=>∃k:Nat,k<=l.length/\v=.int .i64 k/\Hid (xN (l.drop k) t=xN l t)/\Below w.heap.size w wr) (λv _=>l.length-(intOf v).toNat)
 case atStart=>exact⟨0,Nat.zero_le _,rfl,zc rfl,Below.refl _ _⟩
 obtain⟨k,T,rfl,C,H⟩:=hrel
 by_cases J:k<l.length
 case neg=>
  go_wp2_with fail;refine bodyPost_ret (v:=.tuple #[.int .i64 0,.bool false]) (by simp[results,Tryz.results173]) rfl ?_;exact⟨by rw[<-C.out,vg (by omega)];rfl,H⟩
 obtain⟨x,K⟩:=zl J;obtain⟨b,O,rfl,I,Q,R,S⟩:=L.out.get K;rw[<-H.cell (by exact I)]at Q R S;have D:Hid (l.drop k=x::l.drop (k+1)):=zc (xj K);have B:=ze H (Obj.cells #[Value.int IntKind.i64 x.f,Value.int IntKind.i64 x.t,Value.int IntKind.i64 x.v] 113);clear K
 by_cases E:x.f<=t
 ·have M:decide (x.f<=t)=true:=by simpa using E
  by_cases F:t<x.t
  ·have N:decide (t<x.t)=true:=by simpa using F
   go_wp2_with fail;refine bodyPost_ret (v:=.tuple #[.int .i64 x.v,.bool true]) (by simp[results,Tryz.results173]) rfl ?_;exact⟨by rw[<-C.out,D.out,ut ⟨E,F⟩];rfl,B⟩
  have N:decide (t<x.t)=false:=by simpa using F
  go_wp2_with fail;go_roundw
  case rel=>exact⟨k+1,by omega,by go_num,zc (by rw[<-C.out,D.out,xC (by omega)]),B⟩
  case measure=>simp[intOf];omega
 have M:decide (x.f<=t)=false:=by simpa using E
 go_wp2_with fail;go_roundw
 case rel=>exact⟨k+1,by omega,by go_num,zc (by rw[<-C.out,D.out,xC (by omega)]),B⟩
 case measure=>simp[intOf];omega
open Go.RowKit Go.Sort
section
variable {α:Type}{enc:α->List Value}{sz:Nat}{w w':World}{base g cap m off:Nat}{t e:TypeId}{l:List α}{d:Array α}{cs:Array Value}{os:Array Obj}
theorem lK(A:∀x,(enc x).length=sz):∀{l:List α} {i j:Nat} {x:α},l[i]?=some x->j<sz->(l.flatMap enc)[i*sz+j]?=(enc x)[j]?
 |[],i,j,x,h,_=>by simp at h
 |y::l,0,j,x,h,hj=>by
  obtain rfl:y=x:=by simpa using h
  rw[List.flatMap_cons,List.getElem?_append_left (by rw[A];omega),Nat.zero_mul,Nat.zero_add]
 |y::l,i+1,j,x,h,hj=>by
  rw[List.flatMap_cons,List.getElem?_append_right (by rw[A,Nat.succ_mul];omega),A,show(i+1)*sz+j-sz=i*sz+j by rw[Nat.succ_mul];omega];exact lK A (by simpa using h) hj
theorem wG(hk:∀x,(enc x).length=sz):∀l:List α,(l.flatMap enc).length=l.length*sz
 |[]=>by simp
 |y::l=>by rw[List.flatMap_cons,List.length_append,wG hk l,hk,List.length_cons,Nat.succ_mul];omega
section
variable [Inhabited α]
theorem eR(A:∀x,(enc x).length=sz)(F:0<sz)(d:Array α):(flatK enc sz d).toList=d.toList.flatMap enc:=by
 refine List.ext_getElem? λt=>?_
 by_cases C:t<d.size*sz
 ·have E:t / sz<d.size:=Nat.div_lt_of_lt_mul (by rwa[Nat.mul_comm])
  have B:t % sz<sz:=Nat.mod_lt _ F;have G:d.toList[t / sz]?=some d[t / sz]! := by
   rw[Array.getElem?_toList,Array.getElem?_eq_getElem E,getElem!_pos d _ E]
  have D:=lK A G B;rw[Nat.div_add_mod' t sz]at D;rw[D,Array.getElem?_toList,Array.getElem?_eq_getElem (by rw[size_flatK];exact C),<-getElem!_pos _ _ (by rw[size_flatK];exact C),get_flatK _ _ _ _ C];rw[List.getElem?_eq_getElem (by rw[A];exact B),<-getElem!_pos _ _ (by rw[A];exact B)]
 rw[List.getElem?_eq_none (by simp;omega),List.getElem?_eq_none (by rw[wG A];simp;omega)]
omit [Inhabited α] in
theorem jT(w:World)(os:Array Obj){b:Nat}(hb:b<w.heap.size):(grow w os).heap[b]?=w.heap[b]?:=heap_grow_old w os hb
theorem fZ{b:Nat}(B:b≠g)(A:b<w.heap.size):(Go.Proofs.sortWorldK enc sz w g off m d os).heap[b]?=w.heap[b]?:=by
 unfold Go.Proofs.sortWorldK;rw[jT _ _ (by unfold putRowK;simpa using A)];unfold putRowK putRow mapBlock;simp[Array.getElem?_modify,B.symm]
theorem ed:(Go.Proofs.sortWorldK enc sz w g off m d os).heap.size=w.heap.size+os.size:=by
 unfold Go.Proofs.sortWorldK putRowK;simp
theorem zj.sorted(h:zj w g t cs):zj (Go.Proofs.sortWorldK enc sz w g off m d os) g t (putCells id off (flatK enc sz d) cs):=by
 have A:=h;unfold zj at A;unfold zj Go.Proofs.sortWorldK;rw[jT _ _ (by unfold putRowK;simpa using h.lt)];unfold putRowK putRow mapBlock;simp[Array.getElem?_modify,A,onCells]
theorem kT{B:Nat}(hg:B<=g)(hB:B<=w.heap.size):Below B w (Go.Proofs.sortWorldK enc sz w g off m d os):=
 ⟨rfl,rfl,rfl,by rw[ed];omega,λk hk=>fZ (by omega) (by omega)⟩
theorem Own.holdsK(K:∀x,(enc x).length=sz)(M:0<sz)(h:Own enc sz w base e (.slice (some ⟨g,0,none⟩) l.length cap) l):HoldsK enc sz w g 0 l.toArray:=by
 rcases h.2 with⟨C,_⟩|⟨N,E,D,G,O,J,L,H,I,A⟩
 ·simp at C
 simp only[Value.slice.injEq,Option.some.injEq,Addr.mk.injEq,and_true,true_and]at G;obtain⟨rfl,rfl⟩:=G;intro j B;rw[size_flatK]at B;have F:zj w g e D:=J;rw[F.cell,F.frozen,Nat.zero_add];refine⟨?_,rfl⟩;have C:(flatK enc sz l.toArray).toList[j]?=(l.flatMap enc)[j]?:=by rw[eR K M]
 rw[Array.getElem?_toList,Array.getElem?_eq_getElem (by rw[size_flatK];exact B)]at C;rw[getElem!_pos _ _ (by rw[size_flatK];exact B)];refine Eq.trans ?_ C.symm;rw[<-A];simp only[List.size_toArray]at B;rw[List.getElem?_take_of_lt B];simp
theorem Own.sortWorld{l':List α}(E:∀x,(enc x).length=sz)(S:0<sz)(h:Own enc sz w base e (.slice (some ⟨g,0,none⟩) l.length cap) l)(F:l'.length=l.length) :
  Own enc sz (Go.Proofs.sortWorldK enc sz w g 0 m l'.toArray os) base e (.slice (some ⟨g,0,none⟩) l.length cap) l':=by
 rcases h.2 with⟨D,_⟩|⟨T,K,A,N,P,Q,R,G,H,B⟩
 ·simp at D
 simp only[Value.slice.injEq,Option.some.injEq,Addr.mk.injEq,and_true,true_and]at N;obtain⟨rfl,rfl⟩:=N;have M:zj w g e A:=Q;refine⟨by rw[F];exact(wG E l').trans (by rw[F]),.inr ⟨g,cap,putCells id 0 (flatK enc sz l'.toArray) A,by rw[F],P,M.sorted,by omega,G,by simpa[putCells]using H,?_⟩⟩;have J:=eR E S l'.toArray;refine List.ext_getElem? λt=>?_
 by_cases C:t<l'.length*sz
 ·rw[List.getElem?_take_of_lt C]
  have I:t<A.size:=by
   have L:=congrArg List.length B;rw[wG E,List.length_take]at L;have:=M.lt;rw[F]at C;have O:min (l.length*sz) A.toList.length=l.length*sz:=L;simp only[Array.length_toList]at O;omega
  have D:(flatK enc sz l'.toArray).toList[t]?=(l'.flatMap enc)[t]?:=by rw[J]
  rw[Array.getElem?_toList,Array.getElem?_eq_getElem (by rw[size_flatK];simpa using C)]at D;rw[<-D,Array.getElem?_toList];unfold putCells;rw[Array.getElem?_mapIdx,Array.getElem?_eq_getElem I];simp only[Option.map_some,Nat.zero_le,true_and,Nat.zero_add,Nat.sub_zero];rw[if_pos (by rw[size_flatK];simpa using C),getElem!_pos _ _ (by rw[size_flatK];simpa using C)];rfl
 rw[List.getElem?_eq_none (by simp;omega),List.getElem?_eq_none (by rw[wG E];omega)]
end
end
section
variable {α:Type}{enc:α->List Value}{sz:Nat}{w w':World}{base g c n i:Nat}{t e:TypeId}{m:List α}{x y:α}{cs:Array Value}
def Yu(enc:α->List Value)(sz:Nat)(cs:Array Value)(m:List α):Prop:=∀(k:Nat) (x:α),m[k]?=some x->∀j,j<sz->cs[k*sz+j]?=(enc x)[j]?
theorem Own.cells(P:∀x,(enc x).length=sz)(h:Own enc sz w base e (.slice (some ⟨g,0,none⟩) n c) m) :
  n=m.length/\base<=g/\m.length<=c/\c<=maxLen/\∃B,zj w g e B/\B.size=c*sz/\Yu enc sz B m:=by
 rcases h.2 with⟨L,_⟩|⟨R,I,C,J,M,N,H,E,F,A⟩
 ·simp at L
 simp only[Value.slice.injEq,Option.some.injEq,Addr.mk.injEq,and_true]at J;obtain⟨rfl,rfl,rfl⟩:=J;refine⟨rfl,M,H,E,C,N,F,λk x K j O=>?_⟩;have Q:=zy K;have D:=lK P K O;rw[<-A]at D;have G:k*sz+j<m.length*sz:=by
  have:=Nat.mul_le_mul_right sz (show k+1<=m.length from Q);rw[Nat.succ_mul]at this;omega
 rw[List.getElem?_take_of_lt G]at D;rw[<-D];simp
theorem Own.of_cells(B:∀x,(enc x).length=sz)(L:0<sz)(H:zj w g e cs)(J:base<=g)(h1:m.length<=c)(G:c<=maxLen)(A:cs.size=c*sz)(I:Yu enc sz cs m) :
  Own enc sz w base e (.slice (some ⟨g,0,none⟩) m.length c) m:=by
 refine⟨wG B m,.inr ⟨g,c,cs,rfl,J,H,h1,G,A,?_⟩⟩;refine List.ext_getElem? λt=>?_
 by_cases M:t<m.length*sz
 ·rw[List.getElem?_take_of_lt M]
  have K:t / sz<m.length:=Nat.div_lt_of_lt_mul (by rwa[Nat.mul_comm]);have E:t % sz<sz:=Nat.mod_lt _ L;obtain⟨x,F⟩:=zl K;have C:=I _ x F _ E;have D:=lK B F E;rw[Nat.div_add_mod' t sz]at C D;rw[D,<-C];simp
 rw[List.getElem?_eq_none (by simp;omega),List.getElem?_eq_none (by rw[wG B];omega)]
theorem Yu.take(h:Yu enc sz cs m)(i:Nat):Yu enc sz cs (m.take i):=λk x hx j hj=>h k x (by
 by_cases hi:k<i
 ·rwa[List.getElem?_take_of_lt hi]at hx
 rw[List.getElem?_take_eq_none (by omega)]at hx;cases hx) j hj
theorem Yu.set{A:Array Value}(h:Yu enc sz cs m)(hi:i<m.length)(E:∀t,t<i*sz∨i*sz+sz<=t->A[t]?=cs[t]?)(F:∀j,j<sz->A[i*sz+j]?=(enc x)[j]?):Yu enc sz A (m.set i x):=λk y B j D=>by
 by_cases hki:i=k
 ·subst hki
  rw[List.getElem?_set_self hi]at B;obtain rfl:x=y:=by simpa using B
  exact F j D
 rw[List.getElem?_set_ne hki]at B;rw[E _ (by
  rcases Nat.lt_or_gt_of_ne hki with C|C
  ·right
   have:=Nat.mul_le_mul_right sz (show i+1<=k from C);rw[Nat.succ_mul]at this;omega
  left
  have:=Nat.mul_le_mul_right sz (show k+1<=i from C);rw[Nat.succ_mul]at this;omega)]
 exact h k y B j D
theorem zj.setCells:∀(vs:List Value) (o:Nat) {w:World} {cs:Array Value},zj w g t cs->∃cs',zj (w.setCells g o vs) g t cs'/\cs'.size=cs.size/\∀i,i<o->cs'[i]?=cs[i]?
 |[],o,w,cs,h=>⟨cs,h,rfl,λ_ _=>rfl⟩
 |v::vs,o,w,cs,h=>by
  obtain⟨cs',h1,h2,h3⟩:=zj.setCells vs (o+1) (h.set_ o v);refine⟨cs',h1,by rw[h2];simp,λi hi=>?_⟩;rw[h3 i (by omega),Array.getElem?_setIfInBounds_ne (by omega)]
theorem mJ{B:Nat}(hB:B<=g):∀(vs:List Value) (o:Nat) {w _w':World},Below B w _w'->Below B w (_w'.setCells g o vs)
 |[],_,_,_,h=>h
 |v::vs,o,_,_w',h=>mJ hB vs (o+1) (h.setCell hB v)
theorem pn(A:Array Value)(n:Nat):(Builtin.zeroCells A n).size=n*A.size:=by simp[Builtin.zeroCells]
theorem bH{P:Program}(w:World)(t e M:TypeId)(z:Value)(K:P.underlying t=some (.slice e))(L:∀w,(zeroValue e).run P w=.ok z w)(h1:∀v∈z.cells.toList,v.oneCell'=true)(b o n c:Nat)(N:0<n)
  (G:∀j,j<n*z.cells.size->(w.cell? ⟨b,o+j,none⟩).isSome=true) (H:∀j,j<n*z.cells.size->w.frozen? ⟨b,o+j,none⟩=false) :
  (Builtin.clear_ #[t] M #[.slice (some ⟨b,o,none⟩) n c]).run P w=.ok (.tuple #[]) (w.setCells b o (Builtin.zeroCells z.cells n).toList):=by
 have B:=run_storeCells_cells (P:=P) b o (Builtin.zeroCells z.cells n).toList 0 w (by simpa[pn]using G) (by simpa[pn]using H) (by
  intro v E;obtain⟨i,I,rfl⟩:=List.mem_iff_getElem.1 E;have D:i<n*z.cells.size:=by simpa[pn]using I
  have A:0<z.cells.size:=by
   rcases Nat.eq_zero_or_pos z.cells.size with C|C
   ·rw[C]at D;omega
   exact C
  have F:(Builtin.zeroCells z.cells n).toList[i]∈z.cells.toList:=by
   simp only[Builtin.zeroCells,Array.toList_map,List.getElem_map];have J:i % z.cells.size<z.cells.size:=Nat.mod_lt _ A;simp[J]
  exact h1 _ F)
 simp only[Nat.add_zero]at B;obtain⟨m,rfl⟩:∃m,n=m+1:=⟨n-1,by omega⟩;simp[Builtin.clear_,run_underlying K,L,B]
end
theorem jm{P:Program}(w:World)(t e C:TypeId)(i:TypeInfo)(B:P.underlying t=some (.slice e))(hi:P.info? e=some i)(b:Option Addr)(n c d:Nat)(A:n<=c) :
  (Builtin.append_ #[t,t] C #[.slice b n c,.slice none 0 d]).run P w=.ok (.slice b n c) w:=by
 cases b <;> simp[Builtin.append_,run_underlying B,sizeOf,typeInfo,hi,Builtin.lenOf,Builtin.firstCells,storeCells,A]
theorem mA{P:Program}{A:Array Oper}{rest:List Oper}{o:Oper}{a:Act}{Q:Exit->Act->World->Prop}{w:World}(B:o.guard=none)(s x:Operand)(t:TypeId)
  (E:o.op=.call { callee:=.builtin .append,args:=#[s,x],argTypes:=#[t,t]}) (e:TypeId) (i:TypeInfo) (H:P.underlying t=some (.slice e)) (hi:P.info? e=some i) (b:Option Addr) (n c d:Nat)
  (G:a.eval s=.slice b n c) (I:a.eval x=.slice none 0 d) (D:n<=c) (h:wpList P A Q rest (a.put o.dst (.slice b n c)) w):wpList P A Q (o::rest) a w:=by
 refine wpList_plain B λK C=>?_;have F:=jm (P:=P) w t e o.type i H hi b n c d D;unfold Oper.wp execOp;simp only[E,resolve,invoke,builtin,Sem.run_bind,Sem.run_pure,Result.andThen_ok,List.map_toArray,List.map_cons,List.map_nil,G,I,F];exact C _ _ h
end Go.Proofs.YtjcimdpldlamfaaGreatDoor
