import Derived.Lib.FrozenHead2
import Derived.Lib.OthersKept
import Derived.Test.YtjcimdpldlamfaaGreatDoorBdeea8b97884
namespace Go.Proofs.YtjcimdpldlamfaaGreatDoor
set_option maxRecDepth 100000
set_option maxHeartbeats 2000000
open Go.RowKit Go.Shelf
theorem lM(word:List UInt8)(A:Option Addr)(c:Nat)(l:List Int)(w:World)(I:zI w A c l)(j:word.length<=100)(i:l.length<=10)(U:ITab w) :
  Calls Tryz.prog 100 #[.string (bs word),.slice A l.length c] w λe d=>e=.returned (.string (bs (yg word l)))/\Below w.heap.size w d:=by
 have T:=I.i64;have S:=zc T;have V:=zc I;have Y:=zc U;have m:=I.len;clear I U T
 go_enter Tryz.func100,Tryz.ntmps100
 go_wp2_with fail
 go_loopw [0,9] (λs v wr=>∃k:Nat,k<=l.length/\v=.int .i64 k/\s=.string (bs (word++tl (l.take k)))/\Below w.heap.size w wr) (λ_ v _=>l.length-(intOf v).toNat)
 case atStart=>exact⟨0,Nat.zero_le _,rfl,by simp[tl],Below.refl _ _⟩
 obtain⟨k,g,rfl,rfl,J⟩:=hrel;have F:=lV (l:=l.take k) λn E=>S.out n (List.mem_of_mem_take E);have G:(l.take k).length<=10:=by rw[List.length_take];omega
 obtain⟨H,B⟩:∃H,word++tl (l.take k)=H:=⟨_,rfl⟩;have M:=zc B;have Z:H.length<=400:=by rw[<-B,List.length_append];omega
 rw[B]
 by_cases Q:k<l.length
 case neg=>
  obtain rfl:k=l.length:=by omega
  clear B F G;go_wp2_with fail;go_ret;refine⟨?_,J⟩;have e:yg word l=H++[10]:=by unfold yg;rw[<-M.out,List.take_length]
  rw[e];rfl
 obtain⟨n,E⟩:=zl Q;obtain⟨b,a,rfl,N,f⟩:=V.out.get E;rw[<-J.cell (by exact N)]at f;have D:=S.out n (List.mem_of_getElem? E);have uF:=λW (h:ITab W)=>wO n D W h;have P:=Lib.itoa_length_le n D.1 D.2;obtain⟨R,C⟩:∃R,Lib.itoa n=R:=⟨_,rfl⟩;rw[C]at P;simp only[C]at uF;have K:=zc uF;have X:Hid (word++tl (l.take (k+1))=H++(32::R)):=zc (by rw[dO E,<-List.append_assoc,B,C])
 have L:=zc (Y.out.ext J);clear B F G E C uF;go_wp2_with fail;refine(K.out _ L.out).mono ?_;rintro e o ⟨rfl,O⟩;go_wp2_with fail;go_roundw
 case rel=>exact⟨k+1,by omega,by go_num,by rw[X.out];rfl,za J O⟩
 case measure=>simp[intOf];omega
theorem iA(word:List UInt8)(A:Option Addr)(c:Nat)(l:List Int)(w:World)(I:zI w A c l)(j:word.length<=100)(i:l.length<=10)(U:ITab w) :
  Calls Tryz.prog 120 #[.string (bs word),.slice A l.length c] w λe d=>e=.returned (.string (bs (yg word l)))/\Below w.heap.size w d:=by
 have T:=I.i64;have S:=zc T;have V:=zc I;have Y:=zc U;have m:=I.len;clear I U T
 go_enter Tryz.func120,Tryz.ntmps120
 go_wp2_with fail
 go_loopw [0,5] (λs v wr=>∃k:Nat,k<=l.length/\v=.int .i64 k/\s=.string (bs (word++tl (l.take k)))/\Below w.heap.size w wr) (λ_ v _=>l.length-(intOf v).toNat)
 case atStart=>exact⟨0,Nat.zero_le _,rfl,by simp[tl],Below.refl _ _⟩
 obtain⟨k,g,rfl,rfl,J⟩:=hrel;have F:=lV (l:=l.take k) λn E=>S.out n (List.mem_of_mem_take E);have G:(l.take k).length<=10:=by rw[List.length_take];omega
 obtain⟨H,B⟩:∃H,word++tl (l.take k)=H:=⟨_,rfl⟩;have M:=zc B;have Z:H.length<=400:=by rw[<-B,List.length_append];omega
 rw[B]
 by_cases Q:k<l.length
 case neg=>
  obtain rfl:k=l.length:=by omega
  clear B F G;go_wp2_with fail;go_ret;refine⟨?_,J⟩;have e:yg word l=H++[10]:=by unfold yg;rw[<-M.out,List.take_length]
  rw[e];rfl
 obtain⟨n,E⟩:=zl Q;obtain⟨b,a,rfl,N,f⟩:=V.out.get E;rw[<-J.cell (by exact N)]at f;have D:=S.out n (List.mem_of_getElem? E);have uF:=λW (h:ITab W)=>wO n D W h;have P:=Lib.itoa_length_le n D.1 D.2;obtain⟨R,C⟩:∃R,Lib.itoa n=R:=⟨_,rfl⟩;rw[C]at P;simp only[C]at uF;have K:=zc uF;have X:Hid (word++tl (l.take (k+1))=H++(32::R)):=zc (by rw[dO E,<-List.append_assoc,B,C])
 have L:=zc (Y.out.ext J);clear B F G E C uF;go_wp2_with fail;refine(K.out _ L.out).mono ?_;rintro e o ⟨rfl,O⟩;go_wp2_with fail;go_roundw
 case rel=>exact⟨k+1,by omega,by go_num,by rw[X.out];rfl,za J O⟩
 case measure=>simp[intOf];omega
open Go.Proofs Go.Shelf Go.RowKit Go.Sort
theorem YG:(Tryz.prog.info? 35).map (·.size)=some 2:=Txt.Builder_Extra_169.sizeBuilder
theorem RN:liesAt Tryz.prog Tryz.prog.depth 35 (2 / Tryz.prog.cellsOf 35) 0 35 1=true:=by kernel_rfl
theorem RM:(Tryz.prog.info? 5).map (λi=>(i.zero,i.size,i.bytes))=some (some (.int .u8 0),1,1):=Txt.Builder_Extra_169.infoByte
theorem fU(b:Nat)(w:World)(h0:w.cell? ⟨b,0,none⟩=some (.pointer none))(A:w.shape? b=some (35,2))(D:w.frozen? ⟨b,0,none⟩=false) :
  Calls Tryz.prog 28 #[.pointer (some ⟨b,0,none⟩)] w λe E=>e=.returned (.tuple #[])/\E=w.setCell ⟨b,0,none⟩ (.pointer (some ⟨b,0,none⟩)):=by
 obtain⟨j,C,B⟩:=Option.map_eq_some_iff.1 YG
 go_enter Tryz.func28,Tryz.ntmps28
 go_wp2;rw[Lib.run_to_unsafe w ⟨b,0,none⟩ Tryz.underlying32 Tryz.underlying73 C (by rw[B];decide) A (Nat.zero_lt_succ 1)];simp only[Result.andThen];rw[Oper.upon_value];go_wp2;rw[run_callFunc_extern Tryz.func43 (by kernel_rfl) (by kernel_rfl) (by kernel_rfl) (e:=Extern.AbiNoEscape.same) (by kernel_rfl)];rw[Lib.run_noEscape];simp only[Result.andThen];rw[Oper.upon_value];go_wp2;rw[Lib.run_from_unsafe w ⟨b,0,none⟩ Tryz.underlying73 Tryz.underlying32 C A RN]
 simp only[Result.andThen];rw[Oper.upon_value];go_wp2
 go_end0
 exact⟨rfl,rfl⟩
theorem eE(b:Nat)(w:World)(h0:w.cell? ⟨b,0,none⟩=some (.pointer (some ⟨b,0,none⟩))) :
  Calls Tryz.prog 28 #[.pointer (some ⟨b,0,none⟩)] w λe D=>e=.returned (.tuple #[])/\D=w:=by
 obtain⟨j,A,B⟩:=Option.map_eq_some_iff.1 YG;have C:=λW=>Lib.run_neq_ptr_same (P:=Tryz.prog) W (tp:=32) ⟨b,0,none⟩ Tryz.underlying32 A
 go_enter Tryz.func28,Tryz.ntmps28
 go_wp2
 go_end0
 exact⟨rfl,rfl⟩
abbrev rR(B b:Nat)(l:List UInt8)(w:World):Prop:=Lib.IsBuilderF 35 5 B b (Lib.byteCells l) w
theorem BAtF.lt{B b:Nat}{p:Value}{l:List Value}{w:World}(h:Lib.BuilderAtF 35 5 B b p l w):b<w.heap.size:=by
 obtain⟨_,v,C,_⟩:=h;rcases Nat.lt_or_ge b w.heap.size with A|A
 ·exact A
 simp[Array.getElem?_eq_none A]at C
theorem rR.lt{B b:Nat}{l:List UInt8}{w:World}(h:rR B b l w):b<w.heap.size:=h.elim BAtF.lt BAtF.lt
theorem BAtF.ext{B b:Nat}{p:Value}{l:List Value}{w E:World}(h:Lib.BuilderAtF 35 5 B b p l w)(D:Below w.heap.size w E):Lib.BuilderAtF 35 5 B b p l E:=by
 have I:=BAtF.lt h;obtain⟨G,v,H,⟨F,A⟩,C⟩:=h;refine⟨G,v,(D.block b I).trans H,⟨F,?_⟩,C⟩;rcases A with A|⟨g,cap,cur,fz,hv,hg,hh,r⟩
 ·exact .inl A
 exact .inr ⟨g,cap,cur,fz,hv,hg,(D.block g (Array.getElem?_eq_some_iff.1 hh).1).trans hh,r⟩
theorem rR.ext{B b:Nat}{l:List UInt8}{w w':World}(h:rR B b l w)(hb:Below w.heap.size w w'):rR B b l w':=h.elim (λh=>.inl (BAtF.ext h hb)) (λh=>.inr (BAtF.ext h hb))
theorem bd(B b:Nat)(l:List UInt8)(w:World)(h:rR B b l w) :
  Calls Tryz.prog 28 #[.pointer (some ⟨b,0,none⟩)] w λe A=>e=.returned (.tuple #[])/\(Lib.BuilderAtF 35 5 B b (.pointer (some ⟨b,0,none⟩)) (Lib.byteCells l) A/\Below B w A/\Lib.OthersKept 5 (some b) w A):=by
 rcases h with h|h
 ·refine(fU b w h.cell0 h.shape h.frozen0).mono ?_
  rintro e A ⟨rfl,rfl⟩;exact⟨rfl,h.used _,(Below.refl B w).setCell (p:=⟨b,0,none⟩) h.1 _,(Lib.OthersKept.refl _ _ w).setCell ⟨b,0,none⟩ rfl _⟩
 refine(eE b w h.cell0).mono ?_;rintro e A ⟨rfl,rfl⟩;exact⟨rfl,h,Below.refl B _,Lib.OthersKept.refl _ _ _⟩
theorem xF(B b:Nat)(l s:List UInt8)(w:World)(h:rR B b l w)(Z:l.length+s.length<=140737488355328)(i:B<=w.heap.size) :
  Calls Tryz.prog 15 #[.pointer (some ⟨b,0,none⟩),.string ⟨s.toArray⟩] w λe W=>e=.returned (.tuple #[.int .i64 s.length,.nilIface])/\(rR B b (l++s) W/\Below B w W/\Lib.OthersKept 5 (some b) w W):=by
 obtain⟨n,j,K⟩:=Option.map_eq_some_iff.1 RM;simp only[Prod.mk.injEq]at K;obtain⟨S,U,V⟩:=K;have G:(⟨s.toArray⟩:ByteArray).size=s.length:=by simp[ByteArray.size]
 have J:(Lib.byteCells l).length=l.length:=Lib.byteCells_length _
 go_enter Tryz.func15,Tryz.ntmps15
 go_wp2_with (go_at_call 28;refine(bd B b l _ h).mono ?_);rintro e L ⟨rfl,f,I,O⟩;obtain⟨Y,v,F,C,Q⟩:=f;have q:L.cell? ⟨b,0,none⟩=some (.pointer (some ⟨b,0,none⟩)):=by rw[Lib.cell_of_heap F];rfl
 have r:L.cell? ⟨b,1,none⟩=some v:=by rw[Lib.cell_of_heap F];rfl
 go_wp2_with (at_builtin;refine Lib.wpList_append_own_stringF _ rfl _ _ 33 9 rfl B 5 n Tryz.underlying33 Tryz.underlying9 j S U V _ _ _ rfl C ⟨s.toArray⟩ rfl ?c3 ?c4 ?c5 ?_)
 case c3=>rw[G,J];unfold maxLen;omega
 case c4=>rw[G,J];omega
 case c5=>have:=I.size;omega
 intro o M D A _;have P:b<L.heap.size:=by
  rcases Nat.lt_or_ge b L.heap.size with N|N
  ·exact N
  simp[Array.getElem?_eq_none N]at F
 have E:M.heap[b]?=some (.cells #[.pointer (some ⟨b,0,none⟩),v] 35 (0,0)):=by
  rw[A.block b P (λe=>Q e.symm)];exact F
 have t:M.cell? ⟨b,0,none⟩=some (.pointer (some ⟨b,0,none⟩)):=by rw[Lib.cell_of_heap E];rfl
 have u:M.cell? ⟨b,1,none⟩=some v:=by rw[Lib.cell_of_heap E];rfl
 have x:M.frozen? ⟨b,1,none⟩=false:=Lib.frozen_of_heap E 1;obtain⟨X,a,H,rfl⟩:∃X a H,o=.slice X a H:=by
  rcases D.2 with⟨R,_⟩|⟨g,H,c,y,R,_⟩
  ·exact⟨_,_,_,R⟩
  exact⟨_,_,_,R⟩
 go_wp2;go_ret2;have d:Lib.byteCells (l++s)=Lib.byteCells l++Lib.strCells ⟨s.toArray⟩:=by simp[Lib.byteCells,Lib.strCells]
 refine⟨by first|rfl|simp[G],.inr ?_,?_,(O.grown A (Lib.ownsRowF_kind C)).setCell ⟨b,1,none⟩ rfl _⟩
 ·rw[d]
  exact Lib.BuilderAtF.put (T:=35) (e:=5) Y E (bs':=Lib.byteCells l++Lib.strCells ⟨s.toArray⟩) (by rw[List.length_append,Lib.strCells_length,J,G];exact D) (by decide)
 exact(I.grown A (by have:=I.size;omega) (λk m=>(C.lt k m).1)).setCell (p:=⟨b,1,none⟩) Y _
set_option maxHeartbeats 8000000
theorem vR{w:World}{g n:Nat}{l:List Int}{cs:Array Value}(h:zj w g 3 cs)(A:cs=(l.map (Value.int .i64)).toArray)(C:l.length=n)(D:n<=1000)(hi:∀x∈l,zM x):zI w (some ⟨g,0,none⟩) n l:=by
 subst A C;refine⟨Nat.le_refl _,by unfold maxLen;omega,g,0,λi x B=>⟨rfl,h.lt,?_,hi x (List.mem_of_getElem? B)⟩⟩;show w.cell? ⟨g,0+i*1,none⟩=some (.int .i64 x);rw[h.cell];simp[B]
theorem OthersKept.blk{e t:TypeId}{b g:Nat}{w w':World}{cs:Array Value}(h:Lib.OthersKept e (some b) w w')(hB:zj w g t cs)(hg:g≠b)(ht:t≠e):zj w' g t cs:=
 h g _ hB (λe=>hg (by injection e)) (λc f hc=>ht (by injection hc))
theorem rQ{g:zf}(A:zx g):zM g.h/\(∀x∈g.lives,zM x.f/\zM x.t)/\∀x∈g.edges,(zM x.a/\zM x.b)/\x.legs.length<=6/\∀y∈x.legs,zM y.f/\zM y.t/\zM y.time/\zM y.cost:=by
 have h0:=A.h0;have h1:=A.h1;have E:=A.nl;refine⟨⟨by omega,by omega⟩,λx B=>?_,λx B=>?_⟩
 ·have:=A.lives x B
  exact⟨⟨by omega,by omega⟩,by omega,by omega⟩
 have h:=A.edges x B;have a0:=h.a0;have a1:=h.a1;have b0:=h.b0;have b1:=h.b1;refine⟨⟨⟨by omega,by omega⟩,by omega,by omega⟩,h.six,λy D=>?_⟩;have C:=h.legs y D;have:0<=y.f/\y.f<y.t/\y.t<=g.h/\1<=y.time/\y.time<=50/\0<=y.cost/\y.cost<=1000:=by simpa[uN]using C
 exact⟨⟨by omega,by omega⟩,⟨by omega,by omega⟩,⟨by omega,by omega⟩,by omega,by omega⟩
theorem lq{x:zw}(h:zM x.f/\zM x.t):(yj x).length<=100:=by
 have:=lQ (word:=xV) (l:=[x.f,x.t]) (by simp[h]);unfold yj;simp[xV]at this⊢;omega
theorem ik{x:zR}(h:zM x.f/\zM x.t/\zM x.time/\zM x.cost):(qS x).length<=100:=by
 have:=lQ (word:=qf) (l:=[x.f,x.t,x.time,x.cost]) (by simp[h]);unfold qS;simp[qf]at this⊢;omega
theorem lI{x:zA}(h:zM x.a/\zM x.b):(yg xt [x.a,x.b]).length<=100:=by
 have:=lQ (word:=xt) (l:=[x.a,x.b]) (by simp[h]);simp[xt]at this⊢;omega
theorem Zb{n:Int}(h:zM n):(yg yz [n]).length<=100:=by
 have:=lQ (word:=yz) (l:=[n]) (by simp[h]);simp[yz]at this⊢;omega
theorem TF{g:zf}(A:zx g){x:zA}(B:x∈g.edges):(sL x).length<=700:=by
 have h:=(rQ A).2.2 x B;have D:=lI h.1;have E:=rI (f:=qS) (l:=x.legs) (m:=100) λy C=>ik (h.2.2 y C);have F:=h.2.1;unfold sL;rw[List.length_append];omega
theorem gO{α:Type}{l:List α}{k:Nat}{x:α}(h:x∈l.take k):x∈l:=List.mem_of_mem_take h
theorem jS{g:zf}(A:zx g)(k j:Nat):(yg yz [g.h]++(g.lives.take k).flatMap yj++(g.edges.take j).flatMap sL).length<=30000:=by
 have h:=rQ A;have E:=Zb h.1;have C:=rI (f:=yj) (l:=g.lives.take k) (m:=100) λy B=>lq (h.2.1 y (gO B));have D:=rI (f:=sL) (l:=g.edges.take j) (m:=700) λy B=>TF A (gO B);have F:=A.nl;have G:=A.ne;rw[List.length_append,List.length_append];rw[List.length_take]at C D;have:min k g.lives.length<=12:=by omega
 have:min j g.edges.length<=30:=by omega
 have:min k g.lives.length*100<=12*100:=Nat.mul_le_mul_right _ (by omega);have:min j g.edges.length*700<=30*700:=Nat.mul_le_mul_right _ (by omega);omega
theorem XG{g:zf}(B:zx g){x:zA}(C:x∈g.edges)(i:Nat):(yg xt [x.a,x.b]++(x.legs.take i).flatMap qS).length<=1000:=by
 have h:=(rQ B).2.2 x C;have E:=lI h.1;have A:=rI (f:=qS) (l:=x.legs.take i) (m:=100) λy D=>ik (h.2.2 y (gO D));have F:=h.2.1;rw[List.length_append];rw[List.length_take]at A;have:min i x.legs.length*100<=6*100:=Nat.mul_le_mul_right _ (by omega);omega
theorem VY(A A':Option Addr)(c c':Nat)(g:zf)(w:World)(hG:zv w A c A' c' g)(hV:zx g)(ht:ITab w) :
  Calls Tryz.prog 50 #[gV A c A' c' g] w λe w'=>e=.returned (.tuple #[.string (bs (sN g)),.int .i64 0])/\Below w.heap.size w w':=by
 have HV:=zc (xK hV);have r:=zc hV;have d:=zc (rQ hV);have Y1:=hV.nl;have X1:=hV.ne;have a0:=zc ht;clear ht
 go_enter Tryz.func50,Tryz.ntmps50
 go_wp2_with fail;refine(ym _ _ _ _ g _ (hG.ext (by go_grown))).mono ?_;rw[HV.out];rintro e B ⟨rfl,u⟩;obtain⟨B0,c1,c2,c3⟩:=(zj.new w 68 (gC A c A' c' g)).go u;have v:Below w.heap.size w B:=za (by go_grown) u;have s:=hG.ext v;have l:=zc (a0.out.ext v);clear u hG;go_wp2_with fail;obtain⟨wa,Z⟩:∃x,x=(B.alloc (Obj.cells #[.pointer none,.slice none 0 0] 35)).alloc (Obj.cells #[.int .i64 g.h] 3):=⟨_,rfl⟩
 have H:rR B.heap.size B.heap.size [] wa:=by rw[Z];exact Lib.IsBuilderF.alloc (Lib.IsBuilderF.of (Lib.fresh_isBuilder 35 5 B)) _
 have G:zI wa (some ⟨B.heap.size+1,0,none⟩) 1 [g.h]:=by rw[Z];exact vR (zj.new_ (by simp)) rfl rfl (by decide) (by simpa using d.out.1)
 have C:Below B.heap.size B wa:=by rw[Z];exact ze (ze (Below.refl _ B) _) _
 rw[<-Z];clear Z;refine(lM yz _ 1 [g.h] wa G (by decide) (by simp) (l.out.ext C)).mono ?_;rintro e z ⟨rfl,I⟩;have H:rR B.heap.size B.heap.size [] z:=rR.ext H I;have Y:=za C I;have o0:=Zb d.out.1;have O0:=Y.size;clear G C I;go_wp2_with fail;refine(xF B.heap.size B.heap.size [] (yg yz [g.h]) _ H (by simp;omega) O0).mono ?_
 rintro e w3 ⟨rfl,J,M,R⟩;have m:Below B.heap.size B w3:=Y.trans M;have W0:Hid (yg yz [g.h]=yg yz [g.h]++(g.lives.take 0).flatMap yj):=zc (by simp);rw[List.nil_append,W0.out]at J;have h0:=s.ext m;have V:=B0.ext m;obtain⟨d1,d2,d3⟩:=V.facts;clear c1 c2 c3 H Y M R o0 O0;go_wp2_with fail
 go_loopw [25] (λkk wr=>∃k:Nat,k<=g.lives.length/\kk=.int .i64 k/\rR B.heap.size B.heap.size (yg yz [g.h]++(g.lives.take k).flatMap yj) wr/\Below B.heap.size B wr) (λkk _=>g.lives.length-(intOf kk).toNat)
 case atStart=>exact⟨0,Nat.zero_le _,rfl,J,m⟩
 clear J m h0 V d1 d2 d3;obtain⟨k,hk,rfl,H,F⟩:=hrel;have G0:=s.ext F;have O:=F.size
 by_cases n0:k<g.lives.length
 case pos=>
  obtain⟨x,o⟩:=zl n0;obtain⟨be,oe,hE⟩:=G0.lives;obtain⟨rfl,m0,⟨⟨x0,x1⟩,_⟩⟩:=hE k x o;have Q0:wr.cell? _=_:=x0;have S0:wr.cell? _=_:=x1;have N0:=d.out.2.1 x (List.mem_of_getElem? o);have T:Hid (yg yz [g.h]++(g.lives.take (k+1)).flatMap yj=yg yz [g.h]++(g.lives.take k).flatMap yj++yj x):=zc (by rw[qz o,List.append_assoc]);have Z1:=lq N0
  have X:=jS r.out k 0;obtain⟨D,K⟩:∃D,yg yz [g.h]++(g.lives.take k).flatMap yj=D:=⟨_,rfl⟩;rw[K]at T H;rw[K,List.take_zero,List.flatMap_nil,List.append_nil]at X;clear hE o x0 x1 K;obtain⟨P,rfl⟩:∃P:World,P=wr:=⟨_,rfl⟩;go_wp2_with fail;have C:=ze (ze (Below.refl _ P) (Obj.cells #[.int .i64 x.f,.int .i64 x.t] 94)) (Obj.cells #[.int .i64 x.f,.int .i64 x.t] 3)
  have G:zI ((P.alloc (Obj.cells #[.int .i64 x.f,.int .i64 x.t] 94)).alloc (Obj.cells #[.int .i64 x.f,.int .i64 x.t] 3)) (some ⟨P.heap.size+1,0,none⟩) 2 [x.f,x.t]:=vR (zj.new_ (by simp)) rfl rfl (by decide) (by simpa using N0);refine(lM xV _ 2 [x.f,x.t] _ G (by decide) (by simp) ((l.out.ext F).ext C)).mono ?_;rintro e z ⟨rfl,I⟩;have C:=za C I;have Q:rR B.heap.size B.heap.size D z:=rR.ext H C
  have N:Below B.heap.size B z:=F.trans (C.mono O);have S:=N.size;clear G I H;go_wp2_with fail;refine(xF B.heap.size B.heap.size D (yj x) _ Q (by omega) S).mono ?_;rintro e w3 ⟨rfl,J,M,R⟩;go_wp2_with fail;go_roundw
  case rel=>exact⟨k+1,by omega,by go_num,by rw[T.out];exact J,N.trans M⟩
  case measure=>simp[intOf];omega
 have X0:Hid (yg yz [g.h]++(g.lives.take k).flatMap yj=yg yz [g.h]++g.lives.flatMap yj++(g.edges.take 0).flatMap sL):=zc (by rw[List.take_of_length_le (by omega)];simp);rw[X0.out]at H;have V:=B0.ext F;obtain⟨d1,d2,d3⟩:=V.facts;go_wp2_with fail
 go_loopw [40] (λjj wr=>∃j:Nat,j<=g.edges.length/\jj=.int .i64 j/\rR B.heap.size B.heap.size (yg yz [g.h]++g.lives.flatMap yj++(g.edges.take j).flatMap sL) wr/\Below B.heap.size B wr) (λjj _=>g.edges.length-(intOf jj).toNat)
 case atStart=>exact⟨0,Nat.zero_le _,rfl,H,F⟩
 clear H F V d1 d2 d3 O G0;obtain⟨j,hj,rfl,H,F⟩:=hrel;have O:=F.size;have X:=jS r.out g.lives.length j;rw[List.take_length]at X
 by_cases M0:j<g.edges.length
 case neg=>
  have HE:Hid (yg yz [g.h]++g.lives.flatMap yj++(g.edges.take j).flatMap sL=sN g):=zc (by rw[List.take_of_length_le (by omega)];rfl);rw[HE.out]at H;clear X;go_wp2_with fail;refine(Txt.Builder_String_any_k B.heap.size B.heap.size (sN g) _ H O).mono ?_;rintro e w3 ⟨rfl,J,M,R⟩;go_wp2_with fail;go_ret2;exact⟨rfl,za v (F.trans M)⟩
 obtain⟨x,o⟩:=zl M0;have y:=List.mem_of_getElem? o;obtain⟨be,oe,hE⟩:=s.edges;obtain⟨rfl,w0,⟨⟨x0,x1,L,cl,x2,U1,V1,hL⟩,_⟩⟩:=hE j x o;have Q0:=x0.now F;have S0:=x1.now F;have s0:=x2.now F;have m0:be<wr.heap.size:=by have:=F.size;omega
 have p:=d.out.2.2 x y;have h6:=p.2.1;have R1:=lI p.1;have Z0:=zc (λi=>XG r.out y i);have E0:=zc p;have T:Hid (yg yz [g.h]++g.lives.flatMap yj++(g.edges.take (j+1)).flatMap sL=yg yz [g.h]++g.lives.flatMap yj++(g.edges.take j).flatMap sL++(yg xt [x.a,x.b]++(x.legs.take x.legs.length).flatMap qS)):=zc (by rw[qz o,List.take_length,<-List.append_assoc];rfl)
 obtain⟨D,K⟩:∃D,yg yz [g.h]++g.lives.flatMap yj++(g.edges.take j).flatMap sL=D:=⟨_,rfl⟩;rw[K]at T H X;clear hE o x0 x1 x2 K y p;obtain⟨P,rfl⟩:∃P:World,P=wr:=⟨_,rfl⟩;go_wp2_with fail;have C:=ze (ze (Below.refl _ P) (Obj.cells #[.int .i64 x.a,.int .i64 x.b,.slice L x.legs.length cl] 97)) (Obj.cells #[.int .i64 x.a,.int .i64 x.b] 3);have BE:=(zj.new P 97 #[.int .i64 x.a,.int .i64 x.b,.slice L x.legs.length cl]).alloc (Obj.cells #[.int .i64 x.a,.int .i64 x.b] 3)
 have G:zI ((P.alloc (Obj.cells #[.int .i64 x.a,.int .i64 x.b,.slice L x.legs.length cl] 97)).alloc (Obj.cells #[.int .i64 x.a,.int .i64 x.b] 3)) (some ⟨P.heap.size+1,0,none⟩) 2 [x.a,x.b]:=vR (zj.new_ (by simp)) rfl rfl (by decide) (by simpa using E0.out.1);refine(lM xt _ 2 [x.a,x.b] _ G (by decide) (by simp) ((l.out.ext F).ext C)).mono ?_;rintro e z ⟨rfl,I⟩
 have BE:=BE.ext I;have C:=za C I;have Q:rR B.heap.size B.heap.size D z:=rR.ext H C;have N:Below B.heap.size B z:=F.trans (C.mono O);have S:=N.size;have Q1:B.heap.size<P.heap.size:=rR.lt H;clear G I H;go_wp2_with fail;refine(xF B.heap.size B.heap.size D (yg xt [x.a,x.b]) _ Q (by omega) S).mono ?_;rintro e w3 ⟨rfl,J,M,R⟩
 have BE:=OthersKept.blk R BE (by omega) (by decide);obtain⟨f1,f2,f3⟩:=BE.facts;have J0:=N.trans M;obtain⟨bl,ol,i0⟩:=hL;have Y0:Hid (D++yg xt [x.a,x.b]=D++(yg xt [x.a,x.b]++(x.legs.take 0).flatMap qS)):=zc (by simp);rw[Y0.out]at J;clear Q0 S0 s0 Q M R N S C;go_wp2_with fail
 go_loopw [54] (λii wr=>∃i:Nat,i<=x.legs.length/\ii=.int .i64 i/\rR B.heap.size B.heap.size (D++(yg xt [x.a,x.b]++(x.legs.take i).flatMap qS)) wr/\Below B.heap.size B wr) (λii _=>x.legs.length-(intOf ii).toNat)
 case atStart=>exact⟨0,Nat.zero_le _,rfl,J,J0⟩
 clear J J0 BE f1 f2 f3;obtain⟨i,S1,rfl,H,F⟩:=hrel;have O:=F.size;have I0:=Z0.out i
 by_cases L0:i<x.legs.length
 case neg=>
  obtain rfl:i=x.legs.length:=by omega
  go_wp2_with fail;go_roundw
  case rel=>exact⟨j+1,by omega,by go_num,by rw[T.out];exact H,F⟩
  case measure=>simp[intOf];omega
 obtain⟨E,n⟩:=zl L0;obtain⟨rfl,y0,⟨⟨l0,l1,l2,l3⟩,_⟩⟩:=i0 i E n;have a1:=l0.now F;have b1:=l1.now F;have e1:=l2.now F;have g1:=l3.now F;have I:bl<wr.heap.size:=by have:=F.size;omega
 have K0:=E0.out.2.2 E (List.mem_of_getElem? n);have W1:=ik K0;have D0:Hid (D++(yg xt [x.a,x.b]++(x.legs.take (i+1)).flatMap qS)=D++(yg xt [x.a,x.b]++(x.legs.take i).flatMap qS)++qS E):=zc (by rw[qz n];simp only[List.append_assoc]);obtain⟨U,W⟩:∃U,D++(yg xt [x.a,x.b]++(x.legs.take i).flatMap qS)=U:=⟨_,rfl⟩;have v0:U.length<=40000:=by rw[<-W,List.length_append];omega
 rw[W]at D0 H;clear n l0 l1 l2 l3 W I0;obtain⟨A0,rfl⟩:∃P:World,P=wr:=⟨_,rfl⟩;go_wp2_with fail;have C:=ze (ze (Below.refl _ A0) (Obj.cells #[.int .i64 E.f,.int .i64 E.t,.int .i64 E.time,.int .i64 E.cost] 100)) (Obj.cells #[.int .i64 E.f,.int .i64 E.t,.int .i64 E.time,.int .i64 E.cost] 3);have G:zI ((A0.alloc (Obj.cells #[.int .i64 E.f,.int .i64 E.t,.int .i64 E.time,.int .i64 E.cost] 100)).alloc (Obj.cells #[.int .i64 E.f,.int .i64 E.t,.int .i64 E.time,.int .i64 E.cost] 3)) (some ⟨A0.heap.size+1,0,none⟩) 4 [E.f,E.t,E.time,E.cost]:=vR (zj.new_ (by simp)) rfl rfl (by decide) (by simpa using K0)
 refine(lM qf _ 4 [E.f,E.t,E.time,E.cost] _ G (by decide) (by simp) ((l.out.ext F).ext C)).mono ?_;rintro e w4 ⟨rfl,q⟩;have C:=za C q;have Q:rR B.heap.size B.heap.size U w4:=rR.ext H C;have N:Below B.heap.size B w4:=F.trans (C.mono O);have S:=N.size;clear G q H;go_wp2_with fail;refine(xF B.heap.size B.heap.size U (qS E) _ Q (by omega) S).mono ?_
 rintro e w5 ⟨rfl,j0,k0,T1⟩;go_wp2_with fail;go_roundw
 case rel=>exact⟨i+1,by omega,by go_num,by rw[D0.out];exact j0,N.trans k0⟩
 case measure=>simp[intOf];omega
theorem SL(A C:Option Addr)(c D:Nat)(g:zf)(w:World)(G:zv w A c C D g)(H:ITab w) :
  Calls Tryz.prog 50 #[gV A c C D g] w λe I=>e=.returned (.tuple #[.string (bs (if zz g=0 then sN g else [])),.int .i64 (zz g)])/\Below w.heap.size w I:=by
 by_cases B:zz g=0
 ·rw[if_pos B,B]
  exact VY A C c D g w G (uX B) H
 rw[if_neg B];have K:(zz g != 0)=true:=by simp[B]
 clear B H
 go_enter Tryz.func50,Tryz.ntmps50
 go_wp2_with fail;refine(ym _ _ _ _ g _ (G.ext (by go_grown))).mono ?_;rintro e J ⟨rfl,E⟩;have F:Below w.heap.size w J:=za (by go_grown) E;go_wp2_with fail;go_ret2;exact⟨rfl,F⟩
open Go.RowKit
theorem jL(x:wk):(jK x).length=3:=rfl
structure Zp(w:World)(base:Nat)(init:List wk)(it:wk):Prop where
 legs:rS w init
 own:Own ea 4 w base 100 (.slice it.2.1 it.1.legs.length it.2.2) it.1.legs
 apart:∀y,y∈init->∀g,y.2.1=some ⟨g,0,none⟩->0<y.1.legs.length->some g≠(Value.slice it.2.1 it.1.legs.length it.2.2).ownBlock
def qg(w:World)(base:Nat)(items:List wk):Prop:=∀init it,items=init++[it]->Zp w base init it
section
variable {w w':World}{base p n gn cap:Nat}{h:Int}{vl ve:Value}{lv:List zw}{items init:List wk}{it:wk}
theorem qg.nil:qg w base []:=λinit it e=>by simp at e
theorem qg.all(C:qg w base items):rS w items:=by
 rcases List.eq_nil_or_concat items with rfl|⟨A,E,rfl⟩
 ·exact rS.nil
 rw[List.concat_eq_append]at C⊢;have B:=C A E rfl;have D:=B.own.room;exact B.legs.snoc ⟨B.own.lown,D.1,D.2⟩
theorem qg.keep(hX:qg w base items)(hk:∀b cs,zj w b 100 cs->zj w' b 100 cs):qg w' base items:=λinit it e=>by
 have hL:=hX init it e;exact⟨hL.legs.keep hk,hL.own.keep hk,hL.apart⟩
theorem qg.new(B:qg w base items)(a b:Int):qg w base (items++[(⟨a,b,[]⟩,none,0)]):=λA C e=>by
 obtain⟨rfl,e2⟩:=List.append_inj' e rfl;obtain rfl:C=(⟨a,b,[]⟩,none,0):=by simpa using e2.symm
 exact⟨B.all,Own.nil,λy _ g _ _=>by simp[Value.ownBlock]⟩
theorem qg.more(G:Zp w base init it)(l:zR)(E:Own ea 4 w' base 100 (.slice (some ⟨gn,0,none⟩) (it.1.legs.length+1) cap) (it.1.legs++[l]))
  (J:∀b O A,zj w b O A->some b≠(Value.slice it.2.1 it.1.legs.length it.2.2).ownBlock->zj w' b O A) (I:(Value.slice it.2.1 it.1.legs.length it.2.2).ownBlock=some gn∨w.heap.size<gn) :
  qg w' base (init++[(⟨it.1.a,it.1.b,it.1.legs++[l]⟩,some ⟨gn,0,none⟩,cap)]):=λK L e=>by
 obtain⟨rfl,e2⟩:=List.append_inj' e rfl;obtain rfl:L=_:=by simpa using e2.symm
 refine⟨λy F=>?_,by simpa using E,λy F g C B=>?_⟩
 ·obtain⟨T,U,V⟩:=G.legs y F
  refine⟨λB=>?_,U,V⟩;obtain⟨g,M,C,H,R⟩:=T B;exact⟨g,M,C,J _ _ _ H (G.apart y F g C B),R⟩
 have S:=G.apart y F g C B;simp only[Value.ownBlock];intro P;obtain rfl:g=gn:=Option.some.inj P;rcases I with N|N
 ·exact S N.symm
 obtain⟨Q,M,D,H,_⟩:=(G.legs y F).1 B;rw[C]at D;obtain rfl:g=Q:=by simpa using D
 have:=H.lt;omega
structure wj(w:World)(p n:Nat)(h:Int)(vl ve:Value)(lv:List zw)(items:List wk):Prop where
 gr:zj w p 68 #[.int .i64 h,vl,ve]
 lives:Own xH 2 w (p+1) 94 vl lv
 edges:Own jK 3 w (p+1) 97 ve items
 legs:qg w (p+1) items
 sm:zM h/\(∀x,x∈lv->zM x.f/\zM x.t)/\∀it,it∈items->zM it.1.a/\zM it.1.b/\∀x,x∈it.1.legs->Ru x
 cnt:lv.length<=n/\items.length<=n/\∀it,it∈items->it.1.legs.length<=n
abbrev tA(h:Int)(lv:List zw)(items:List wk):zf:=⟨h,lv,items.map Prod.fst⟩
theorem wj.keep(M:wj w p n h vl ve lv items)(hk:∀b t cs,zj w b t cs->zj w' b t cs):wj w' p n h vl ve lv items:=
 ⟨hk _ _ _ M.gr,M.lives.keep λb cs=>hk b _ cs,M.edges.keep λb cs=>hk b _ cs,M.legs.keep λb cs=>hk b _ cs,M.sm,M.cnt⟩
theorem wj.ext(M:wj w p n h vl ve lv items)(hb:Below w.heap.size w w'):wj w' p n h vl ve lv items:=M.keep λ_ _ _ h=>h.ext hb
theorem wj.drew(M:wj w p n h vl ve lv items):wj w.drew p n h vl ve lv items:=M.keep λ_ _ _ h=>h.drew
theorem wj.drewN(M:wj w p n h vl ve lv items)(k:Nat):wj (w.drewN k) p n h vl ve lv items:=M.keep λ_ _ _ h=>h.drewN k
theorem wj.more{m:Nat}(M:wj w p n h vl ve lv items)(hm:n<=m):wj w p m h vl ve lv items:=⟨M.gr,M.lives,M.edges,M.legs,M.sm,by have:=M.cnt.1;omega,by have:=M.cnt.2.1;omega,λit hi=>by have:=M.cnt.2.2 it hi;omega⟩
theorem wj.le(M:wj w p n h vl ve lv items):p<w.heap.size:=M.gr.lt
theorem wj.new(w:World)(p:Nat)(hp:p=w.heap.size)(n:Nat):wj (w.alloc (.cells #[.int .i64 0,.slice none 0 0,.slice none 0 0] 68)) p n 0 (.slice none 0 0) (.slice none 0 0) [] []:=
 ⟨zj.new_ hp,Own.nil,Own.nil,qg.nil,⟨by simp[zM],λx hx=>by simp at hx,λx hx=>by simp at hx⟩,by simp,by simp,λx hx=>by simp at hx⟩
theorem wj.at_(M:wj w p n h vl ve lv items):∃A c B C,vl=.slice A lv.length c/\ve=.slice B items.length C/\zv w A c B C (tA h lv items):=by
 obtain⟨A,c,rfl,G⟩:=gH M.lives M.sm.2.1;obtain⟨B,C,rfl,D⟩:=aP M.edges M.legs.all M.sm.2.2;have E:=M.lives.room;have F:=M.edges.room;exact⟨A,c,B,C,rfl,rfl,M.sm.1,E.1,E.2,by simpa using F.1,F.2,G,D⟩
theorem TO{A D:Option Addr}{c E:Nat}(h1:Own xH 2 w base 94 (.slice A lv.length c) lv)(G:Own jK 3 w base 97 (.slice D items.length E) items)(N:qg w base items)
  (sm:zM h/\(∀x,x∈lv->zM x.f/\zM x.t)/\∀C,C∈items->zM C.1.a/\zM C.1.b/\∀x,x∈C.1.legs->Ru x):zv w A c D E (tA h lv items):=by
 have H:=h1.room;have I:=G.room;obtain⟨B,d,L,O⟩:=gH h1 sm.2.1;obtain⟨J,K,M,F⟩:=aP G N.all sm.2.2;obtain⟨rfl,rfl⟩:A=B/\c=d:=by simpa using L
 obtain⟨rfl,rfl⟩:D=J/\E=K:=by simpa using M
 exact⟨sm.1,H.1,H.2,by simpa using I.1,I.2,O,F⟩
theorem wj.told{A E:Option Addr}{c F B:Nat}{cs:Array Value}(M:wj w p n h (.slice A lv.length c) (.slice E items.length F) lv items)(K:zj w B 68 cs)(H I J:Value) :
  zv (((w.setCell ⟨B,0,none⟩ H).setCell ⟨B,1,none⟩ I).setCell ⟨B,2,none⟩ J) A c E F (tA h lv items):=by
 have D:∀t b cs,t≠68->zj w b t cs->zj (((w.setCell ⟨B,0,none⟩ H).setCell ⟨B,1,none⟩ I).setCell ⟨B,2,none⟩ J) b t cs:=λt b cs L G=>by
  have C:b≠B:=wv G K L;exact((G.far (p:=⟨B,0,none⟩) C _).far (p:=⟨B,1,none⟩) C _).far (p:=⟨B,2,none⟩) C _
 exact TO (M.lives.keep λb cs=>D _ b cs (by decide)) (M.edges.keep λb cs=>D _ b cs (by decide)) (M.legs.keep λb cs=>D _ b cs (by decide)) M.sm
theorem wj.time(M:wj w p n h vl ve lv items){a:Int}(ha:zM a):wj (w.setCell ⟨p,0,none⟩ (.int .i64 a)) p n a vl ve lv items:=
 ⟨by simpa using M.gr.set_ 0 (.int .i64 a),M.lives.keep (zG M.gr (by decide) 0 _),M.edges.keep (zG M.gr (by decide) 0 _),M.legs.keep (zG M.gr (by decide) 0 _),⟨ha,M.sm.2⟩,M.cnt⟩
theorem wj.vertex(M:wj w p n h vl ve lv items){x:zw}(D:Own xH 2 w' (p+1) 94 (.slice (some ⟨gn,0,none⟩) (lv.length+1) cap) (lv++[x]))
  (G:∀b H B,zj w b H B->some b≠vl.ownBlock->zj w' b H B) (K:zM x.f/\zM x.t) :
  zj w' p 68 #[.int .i64 h,vl,ve]/\wj (w'.setCell ⟨p,1,none⟩ (.slice (some ⟨gn,0,none⟩) (lv.length+1) cap)) p (n+1) h (.slice (some ⟨gn,0,none⟩) (lv.length+1) cap) ve (lv++[x]) items:=by
 have F:∀t b A,t≠94->zj w b t A->zj w' b t A:=λt b A J h=>G _ _ _ h (M.lives.other h J);have C:=F _ _ _ (by decide) M.gr;refine⟨C,by simpa using C.set_ 1 (.slice (some ⟨gn,0,none⟩) (lv.length+1) cap),D.keep (zG C (by decide) 1 _),(M.edges.keep λb A=>F _ b A (by decide)).keep (zG C (by decide) 1 _),
  (M.legs.keep λb A=>F _ b A (by decide)).keep (zG C (by decide) 1 _),⟨M.sm.1,λy E=>?_,M.sm.2.2⟩,by have:=M.cnt.1;simp;omega,by have:=M.cnt.2.1;omega,λL I=>by have:=M.cnt.2.2 L I;omega⟩
 rcases List.mem_append.1 E with E|E
 ·exact M.sm.2.1 y E
 obtain rfl:y=x:=by simpa using E
 exact K
theorem wj.edge(M:wj w p n h vl ve lv items){a b:Int}(E:Own jK 3 w' (p+1) 97 (.slice (some ⟨gn,0,none⟩) (items.length+1) cap) (items++[(⟨a,b,[]⟩,none,0)]))
  (I:∀b K B,zj w b K B->some b≠ve.ownBlock->zj w' b K B) (G:zM a/\zM b) :
  zj w' p 68 #[.int .i64 h,vl,ve]/\wj (w'.setCell ⟨p,2,none⟩ (.slice (some ⟨gn,0,none⟩) (items.length+1) cap)) p (n+1) h vl (.slice (some ⟨gn,0,none⟩) (items.length+1) cap) lv (items++[(⟨a,b,[]⟩,none,0)]):=by
 have H:∀t b A,t≠97->zj w b t A->zj w' b t A:=λt b A L h=>I _ _ _ h (M.edges.other h L);have C:=H _ _ _ (by decide) M.gr;refine⟨C,by simpa using C.set_ 2 (.slice (some ⟨gn,0,none⟩) (items.length+1) cap),(M.lives.keep λb A=>H _ b A (by decide)).keep (zG C (by decide) 2 _),E.keep (zG C (by decide) 2 _),
  ((M.legs.keep λb A=>H _ b A (by decide)).keep (zG C (by decide) 2 _)).new a b,⟨M.sm.1,M.sm.2.1,λy F=>?_⟩,by have:=M.cnt.1;omega,by have:=M.cnt.2.1;simp;omega,λJ D=>?_⟩
 ·rcases List.mem_append.1 F with F|F
  ·exact M.sm.2.2 y F
  obtain rfl:y=_:=by simpa using F
  exact⟨G.1,G.2,λx G=>by simp at G⟩
 rcases List.mem_append.1 D with D|D
 ·have:=M.cnt.2.2 J D;omega
 obtain rfl:J=_:=by simpa using D
 simp
theorem eG{c:Nat}{A:Option Addr}(E:Own jK 3 w base 97 (.slice A n c) (init++[it])):∃D,A=some ⟨D,0,none⟩/\n=init.length+1/\base<=D/\∃C,zj w D 97 C /\
  C[init.length*3+2]?=some (.slice it.2.1 it.1.legs.length it.2.2):=by
 rcases E.2 with⟨J,I⟩|⟨g,G,H,F,_⟩
 ·simp at I
 simp only[Value.slice.injEq]at F;obtain⟨rfl,rfl,rfl⟩:=F;obtain⟨J,K,_,_,C,L,_,B⟩:=E.cells jL;refine⟨g,rfl,by simp,K,C,L,?_⟩;have:=B init.length it (by simp) 2 (by decide);simpa[jK]using this
theorem TG{C c:Nat}{it':wk}(L:Own jK 3 w base 97 (.slice (some ⟨C,0,none⟩) n c) (init++[it]))(M:it'.1.a=it.1.a)(N:it'.1.b=it.1.b) :
  Own jK 3 (w.setCell ⟨C,init.length*3+2,none⟩ (.slice it'.2.1 it'.1.legs.length it'.2.2)) base 97 (.slice (some ⟨C,0,none⟩) n c) (init++[it']):=by
 obtain⟨H,I,D,J,G,K,B,A⟩:=L.cells jL;have E:(init++[it']).length=(init++[it]).length:=by simp
 have Q:init.length*3+2<G.size:=by
  rw[B];simp only[List.length_append,List.length_cons,List.length_nil]at D;omega
 have O:=A init.length it (by simp) 0 (by decide);have P:=A init.length it (by simp) 1 (by decide);rw[H,<-E];refine Own.of_cells jL (by decide) (K.set_ _ _) I (by rw[E];exact D) J (by simpa using B) ?_;have e:(init++[it]).set init.length it'=init++[it']:=by simp
 rw[<-e];refine A.set (by simp) (λt F=>by rw[Array.getElem?_setIfInBounds_ne (by omega)]) (λt F=>?_)
 match t,F with
 |0,_=>rw[Array.getElem?_setIfInBounds_ne (by omega),O];simp[jK,M]
 |1,_=>rw[Array.getElem?_setIfInBounds_ne (by omega),P];simp[jK,N]
 |2,_=>rw[Array.getElem?_setIfInBounds_self_of_lt Q];rfl
theorem wj.leg{E c:Nat}(M:wj w p n h vl (.slice (some ⟨E,0,none⟩) (init.length+1) c) lv (init++[it])){l:zR}(I:Own ea 4 w' (p+1) 100 (.slice (some ⟨gn,0,none⟩) (it.1.legs.length+1) cap) (it.1.legs++[l]))
  (H:∀b O F,zj w b O F->some b≠(Value.slice it.2.1 it.1.legs.length it.2.2).ownBlock->zj w' b O F) (J:(Value.slice it.2.1 it.1.legs.length it.2.2).ownBlock=some gn∨w.heap.size<gn) (V:Ru l) :
  zj w' p 68 #[.int .i64 h,vl,.slice (some ⟨E,0,none⟩) (init.length+1) c]/\(∀A,zj w E 97 A->zj w' E 97 A) /\
  wj (w'.setCell ⟨E,init.length*3+2,none⟩ (.slice (some ⟨gn,0,none⟩) (it.1.legs.length+1) cap)) p (n+1) h vl (.slice (some ⟨E,0,none⟩) (init.length+1) c) lv (init++[(⟨it.1.a,it.1.b,it.1.legs++[l]⟩,some ⟨gn,0,none⟩,cap)]):=by
 have L:=M.legs init it rfl;have G:∀t b A,t≠100->zj w b t A->zj w' b t A:=λt b A U h=>H _ _ _ h (L.own.other h U);have N:=G _ _ _ (by decide) M.gr;obtain⟨_,_,_,_,A,S,_,_⟩:=M.edges.cells jL;have D:=G _ _ _ (by decide) S;have T:=qg.more L l I H J;have K:=TG (it':=(⟨it.1.a,it.1.b,it.1.legs++[l]⟩,some ⟨gn,0,none⟩,cap)) (M.edges.keep λb A=>G _ b A (by decide)) rfl rfl
 rw[show(it.1.legs++[l]).length=it.1.legs.length+1 by simp]at K;refine⟨N,λA h=>G _ _ _ (by decide) h,zG D (by decide) _ _ _ _ N,(M.lives.keep λb A=>G _ b A (by decide)).keep (zG D (by decide) _ _),K,T.keep (zG D (by decide) _ _),⟨M.sm.1,M.sm.2.1,λy C=>?_⟩,
  by have:=M.cnt.1;omega,by have:=M.cnt.2.1;simp at this⊢;omega,λy C=>?_⟩
 ·rcases List.mem_append.1 C with C|C
  ·exact M.sm.2.2 y (by simp[C])
  obtain rfl:y=_:=by simpa using C
  obtain⟨P,Q,R⟩:=M.sm.2.2 it (by simp);refine⟨P,Q,λx B=>?_⟩;rcases List.mem_append.1 B with B|B
  ·exact R x B
  obtain rfl:x=l:=by simpa using B
  exact V
 rcases List.mem_append.1 C with C|C
 ·have:=M.cnt.2.2 y (by simp[C]);omega
 obtain rfl:y=_:=by simpa using C
 have:=M.cnt.2.2 it (by simp);simp;omega
end
end Go.Proofs.YtjcimdpldlamfaaGreatDoor
