import Derived.Shelf.Sort.Plain
import Derived.Shelf.Slices.CompactI
import Derived.Shelf.Slices.In.SortNone
import Derived.Ground.Names2Prog
import Derived.Ground.NamesProg
import Derived.Shelf.SlSortCmp.NoneTotal
import Derived.Ground.SlsfProg
import Derived.Maps.AppendAt
import Derived.Lib.BufferMore
import Derived.Laws.StructEq
import Derived.Shelf.Abstract
import Derived.Shelf.GgClosure.Gives
import Derived.Test.YtjcimdpldlamfaaGreatDoorBd9ea904d3ab
namespace Go.Proofs
open Go.Shelf
def Tryz.lays189_ren:Go.Shelf.Ren:=⟨fun|189=>185|125=>197|257=>196|128=>214|129=>155|294=>205|295=>206|296=>207|297=>208|298=>209|299=>210|216=>211|300=>212|301=>213|328=>216|329=>217|330=>218|331=>219|332=>220|215=>221|343=>230|n=>n,fun|28=>55|3=>3|46=>92|0=>0|51=>150|53=>176|4=>4|183=>268|182=>267|131=>201|5=>5|9=>9|218=>275|222=>279|228=>286|229=>172|n=>n,fun|n=>n⟩
theorem Tryz.lays189:Go.Proofs.Lays.n189 Tryz.prog Tryz.lays189_ren:={
 mixed:=by kernel_rfl
 f125:=Tryz.func197.trans (congrArg some (by kernel_rfl))
 f128:=Tryz.func214.trans (congrArg some (by kernel_rfl))
 f129:=Tryz.func155.trans (congrArg some (by kernel_rfl))
 f189:=Tryz.func185.trans (congrArg some (by kernel_rfl))
 f215:=Tryz.func221.trans (congrArg some (by kernel_rfl))
 f216:=Tryz.func211.trans (congrArg some (by kernel_rfl))
 f257:=Tryz.func196.trans (congrArg some (by kernel_rfl))
 f294:=Tryz.func205.trans (congrArg some (by kernel_rfl))
 f295:=Tryz.func206.trans (congrArg some (by kernel_rfl))
 f296:=Tryz.func207.trans (congrArg some (by kernel_rfl))
 f297:=Tryz.func208.trans (congrArg some (by kernel_rfl))
 f298:=Tryz.func209.trans (congrArg some (by kernel_rfl))
 f299:=Tryz.func210.trans (congrArg some (by kernel_rfl))
 f300:=Tryz.func212.trans (congrArg some (by kernel_rfl))
 f301:=Tryz.func213.trans (congrArg some (by kernel_rfl))
 f328:=Tryz.func216.trans (congrArg some (by kernel_rfl))
 f329:=Tryz.func217.trans (congrArg some (by kernel_rfl))
 f330:=Tryz.func218.trans (congrArg some (by kernel_rfl))
 f331:=Tryz.func219.trans (congrArg some (by kernel_rfl))
 f332:=Tryz.func220.trans (congrArg some (by kernel_rfl))
 f343:=Tryz.func230.trans (congrArg some (by kernel_rfl))
 t0:=Tryz.underlying0
 a0:=Tryz.isAgg0
 z0:=Tryz.sizeOf0
 v0:=Tryz.zeroValue0
 t3:=Tryz.underlying3
 a3:=Tryz.isAgg3
 z3:=Tryz.sizeOf3
 v3:=Tryz.zeroValue3
 t4:=Tryz.underlying4
 a4:=Tryz.isAgg4
 z4:=Tryz.sizeOf4
 v4:=Tryz.zeroValue4
 t5:=Tryz.underlying5
 a5:=Tryz.isAgg5
 z5:=Tryz.sizeOf5
 v5:=Tryz.zeroValue5
 t9:=Tryz.underlying9
 a9:=Tryz.isAgg9
 z9:=Tryz.sizeOf9
 v9:=Tryz.zeroValue9
 t28:=Tryz.underlying55
 a28:=Tryz.isAgg55
 z28:=Tryz.sizeOf55
 v28:=Tryz.zeroValue55
 t46:=Tryz.underlying92
 a46:=Tryz.isAgg92
 z46:=Tryz.sizeOf92
 v46:=Tryz.zeroValue92
 t51:=Tryz.underlying150
 a51:=Tryz.isAgg150
 z51:=Tryz.sizeOf150
 v51:=Tryz.zeroValue150
 t53:=Tryz.underlying176
 a53:=Tryz.isAgg176
 z53:=Tryz.sizeOf176
 v53:=Tryz.zeroValue176
 t131:=Tryz.underlying201
 a131:=Tryz.isAgg201
 z131:=Tryz.sizeOf201
 v131:=Tryz.zeroValue201
 t182:=Tryz.underlying267
 a182:=Tryz.isAgg267
 z182:=Tryz.sizeOf267
 v182:=Tryz.zeroValue267
 t183:=Tryz.underlying268
 a183:=Tryz.isAgg268
 z183:=Tryz.sizeOf268
 v183:=Tryz.zeroValue268
 t218:=Tryz.underlying275
 a218:=Tryz.isAgg275
 z218:=Tryz.sizeOf275
 v218:=Tryz.zeroValue275
 t222:=Tryz.underlying279
 a222:=Tryz.isAgg279
 z222:=Tryz.sizeOf279
 v222:=Tryz.zeroValue279
 t228:=Tryz.underlying286
 a228:=Tryz.isAgg286
 z228:=Tryz.sizeOf286
 v228:=Tryz.zeroValue286
 t229:=Tryz.underlying172
 a229:=Tryz.isAgg172
 z229:=Tryz.sizeOf172
 v229:=Tryz.zeroValue172 }
open Go.Sort Go.RowKit in
theorem Tryz.slices_Sort_int(blk off cap:Nat)(zs:List Int)(w:World)(hH:Holds (Value.int .i64) w blk off zs.toArray)(hblk:blk<w.heap.size)(hsz:zs.length<4611686018427387904) :
  Calls Tryz.prog 185 #[.slice (some ⟨blk,off,none⟩) zs.length cap] w λe w'=>
   e=.returned (.tuple #[])/\∃n os,w'=grow (putRow (Value.int .i64) (Sort.ahead w n) blk off (zs.mergeSort λx y=>decide (x<=y)).toArray) os:=Any.slices_Sort_int Tryz.lays189 blk off cap zs w hH hblk hsz
def Tryz.laysNm220_ren:Go.Shelf.Ren:=⟨fun|20=>186|n=>n,fun|22=>55|3=>3|4=>4|0=>0|n=>n,fun|n=>n⟩
theorem Tryz.laysNm220:Go.Proofs.Lays2.n20 Tryz.prog Tryz.laysNm220_ren:={
 mixed:=by kernel_rfl
 f20:=Tryz.func186.trans (congrArg some (by kernel_rfl))
 t0:=Tryz.underlying0
 a0:=Tryz.isAgg0
 z0:=Tryz.sizeOf0
 v0:=Tryz.zeroValue0
 t3:=Tryz.underlying3
 a3:=Tryz.isAgg3
 z3:=Tryz.sizeOf3
 v3:=Tryz.zeroValue3
 t4:=Tryz.underlying4
 a4:=Tryz.isAgg4
 z4:=Tryz.sizeOf4
 v4:=Tryz.zeroValue4
 t22:=Tryz.underlying55
 a22:=Tryz.isAgg55
 z22:=Tryz.sizeOf55
 v22:=Tryz.zeroValue55
 i3:=by kernel_rfl }
open Go.RowKit Go.Lib Go.Sort in
theorem Tryz.slices_Compact_int(blk off cap:Nat)(zs:List Int)(w:World)(hH:Holds (Value.int .i64) w blk off zs.toArray)(hsz:zs.length<=9223372036854775807)(hcap:zs.length<=cap) :
  Calls Tryz.prog 186 #[.slice (some ⟨blk,off,none⟩) zs.length cap] w λe w'=>e=.returned (.slice (some ⟨blk,off,none⟩) (Lib.compact zs).length cap)/\∃q,w'=putRow (Value.int .i64) (Sort.ahead w q) blk off (Lib.compact zs++List.replicate (zs.length-(Lib.compact zs).length) 0).toArray:=Any.slices_Compact_int Tryz.laysNm220 blk off cap zs w hH hsz hcap
open Go.RowKit Go.Lib Go.Sort in
theorem Tryz.slices_Compact_int_empty(a:Option Addr)(cap:Nat)(w:World) :
  Calls Tryz.prog 186 #[.slice a 0 cap] w λe w'=>e=.returned (.slice a 0 cap)/\w'=w:=Any.slices_Compact_int_empty Tryz.laysNm220 a cap w
open Go.RowKit Go.Sort in
theorem Tryz.slices_Sort_int_none(p:Option Addr)(cap:Nat)(w:World) :
  Calls Tryz.prog 185 #[.slice p 0 cap] w λe w'=>e=.returned (.tuple #[])/\w'=w:=Any.slices_Sort_int_none Tryz.lays189 p cap w
def Tryz.sortIvl_ren:Go.Shelf.Ren:=⟨fun|6=>202|15=>197|14=>215|28=>214|29=>155|20=>222|21=>223|22=>224|23=>225|24=>226|25=>227|26=>228|27=>229|46=>231|47=>217|48=>218|49=>232|50=>233|57=>234|n=>n,fun|22=>65|24=>94|25=>264|3=>3|39=>92|0=>0|53=>150|55=>176|4=>4|46=>268|45=>267|50=>201|5=>5|9=>9|66=>275|70=>279|76=>286|77=>172|n=>n,fun|n=>n⟩
theorem Tryz.sortIvl:Go.Proofs.SlLaysF0.n6 Tryz.prog Tryz.sortIvl_ren:={
 mixed:=by kernel_rfl
 f6:=⟨Tryz.f202.name,by decide,Tryz.func202.trans (congrArg some (by kernel_rfl))⟩
 f14:=⟨Tryz.f215.name,by decide,Tryz.func215.trans (congrArg some (by kernel_rfl))⟩
 f15:=Tryz.func197.trans (congrArg some (by kernel_rfl))
 f20:=⟨Tryz.f222.name,by decide,Tryz.func222.trans (congrArg some (by kernel_rfl))⟩
 f21:=⟨Tryz.f223.name,by decide,Tryz.func223.trans (congrArg some (by kernel_rfl))⟩
 f22:=⟨Tryz.f224.name,by decide,Tryz.func224.trans (congrArg some (by kernel_rfl))⟩
 f23:=⟨Tryz.f225.name,by decide,Tryz.func225.trans (congrArg some (by kernel_rfl))⟩
 f24:=⟨Tryz.f226.name,by decide,Tryz.func226.trans (congrArg some (by kernel_rfl))⟩
 f25:=⟨Tryz.f227.name,by decide,Tryz.func227.trans (congrArg some (by kernel_rfl))⟩
 f26:=⟨Tryz.f228.name,by decide,Tryz.func228.trans (congrArg some (by kernel_rfl))⟩
 f27:=⟨Tryz.f229.name,by decide,Tryz.func229.trans (congrArg some (by kernel_rfl))⟩
 f28:=Tryz.func214.trans (congrArg some (by kernel_rfl))
 f29:=Tryz.func155.trans (congrArg some (by kernel_rfl))
 f46:=⟨Tryz.f231.name,by decide,Tryz.func231.trans (congrArg some (by kernel_rfl))⟩
 f47:=Tryz.func217.trans (congrArg some (by kernel_rfl))
 f48:=Tryz.func218.trans (congrArg some (by kernel_rfl))
 f49:=⟨Tryz.f232.name,by decide,Tryz.func232.trans (congrArg some (by kernel_rfl))⟩
 f50:=⟨Tryz.f233.name,by decide,Tryz.func233.trans (congrArg some (by kernel_rfl))⟩
 f57:=⟨Tryz.f234.name,by decide,Tryz.func234.trans (congrArg some (by kernel_rfl))⟩
 t0:=Tryz.underlying0
 a0:=Tryz.isAgg0
 z0:=Tryz.sizeOf0
 v0:=Tryz.zeroValue0
 t3:=Tryz.underlying3
 a3:=Tryz.isAgg3
 z3:=Tryz.sizeOf3
 v3:=Tryz.zeroValue3
 t4:=Tryz.underlying4
 a4:=Tryz.isAgg4
 z4:=Tryz.sizeOf4
 v4:=Tryz.zeroValue4
 t5:=Tryz.underlying5
 a5:=Tryz.isAgg5
 z5:=Tryz.sizeOf5
 v5:=Tryz.zeroValue5
 t9:=Tryz.underlying9
 a9:=Tryz.isAgg9
 z9:=Tryz.sizeOf9
 v9:=Tryz.zeroValue9
 t22:=Tryz.underlying65
 a22:=Tryz.isAgg65
 z22:=Tryz.sizeOf65
 v22:=Tryz.zeroValue65
 t25:=Tryz.underlying264
 a25:=Tryz.isAgg264
 z25:=Tryz.sizeOf264
 v25:=Tryz.zeroValue264
 t39:=Tryz.underlying92
 a39:=Tryz.isAgg92
 z39:=Tryz.sizeOf92
 v39:=Tryz.zeroValue92
 t45:=Tryz.underlying267
 a45:=Tryz.isAgg267
 z45:=Tryz.sizeOf267
 v45:=Tryz.zeroValue267
 t46:=Tryz.underlying268
 a46:=Tryz.isAgg268
 z46:=Tryz.sizeOf268
 v46:=Tryz.zeroValue268
 t50:=Tryz.underlying201
 a50:=Tryz.isAgg201
 z50:=Tryz.sizeOf201
 v50:=Tryz.zeroValue201
 t53:=Tryz.underlying150
 a53:=Tryz.isAgg150
 z53:=Tryz.sizeOf150
 v53:=Tryz.zeroValue150
 t55:=Tryz.underlying176
 a55:=Tryz.isAgg176
 z55:=Tryz.sizeOf176
 v55:=Tryz.zeroValue176
 t66:=Tryz.underlying275
 a66:=Tryz.isAgg275
 z66:=Tryz.sizeOf275
 v66:=Tryz.zeroValue275
 t70:=Tryz.underlying279
 a70:=Tryz.isAgg279
 z70:=Tryz.sizeOf279
 v70:=Tryz.zeroValue279
 t76:=Tryz.underlying286
 a76:=Tryz.isAgg286
 z76:=Tryz.sizeOf286
 v76:=Tryz.zeroValue286
 t77:=Tryz.underlying172
 a77:=Tryz.isAgg172
 z77:=Tryz.sizeOf172
 v77:=Tryz.zeroValue172 }
end Go.Proofs
namespace Go.Proofs.YtjcimdpldlamfaaGreatDoor
open Go.RowKit Go.Sort
def yK(n:Int):List Value:=[.int .i64 n]
theorem nK(x:Int):(yK x).length=1:=rfl
theorem jV{a:Int}:∀u∈(#[.int .i64 a]:Array Value).toList,u.oneCell'=true:=by simp[Value.oneCell']
theorem jW{a b:Int}:∀u∈(#[.int .i64 a,.int .i64 b]:Array Value).toList,u.oneCell'=true:=by simp[Value.oneCell']
theorem TX:(Tryz.prog.info? 3).map (λi=>(i.zero,i.size,i.bytes))=some (some (.int .i64 0),1,8):=by kernel_rfl
theorem qA:∃i,Tryz.prog.info? 3=some i/\i.zero=some (.int .i64 0)/\i.size=1/\i.bytes=8:=by
 obtain⟨C,B,A⟩:=Option.map_eq_some_iff.1 TX;simp only[Prod.mk.injEq]at A;exact⟨C,B,A.1,A.2.1,A.2.2⟩
structure zI(w:World)(A:Option Addr)(c:Nat)(l:List Int):Prop where
 lc:l.length<=c
 cm:c<=maxLen
 sl:zU ra 1 w A l
section
variable {w w':World}{A:Option Addr}{c k base g n:Nat}{l:List Int}{v:Value}
theorem zI.ext(h:zI w A c l)(hb:Below w.heap.size w w'):zI w' A c l:=⟨h.lc,h.cm,h.sl.ext ra.stable hb⟩
theorem zI.len(h:zI w A c l):l.length<=9223372036854775807:=Nat.le_trans h.lc h.cm
theorem zI.get(h:zI w A c l){x:Int}(G:l[k]?=some x):∃b B,A=some ⟨b,B,none⟩/\b<w.heap.size/\w.cell? ⟨b,B+k,none⟩=some (.int .i64 x):=by
 obtain⟨b,B,F⟩:=h.sl;obtain⟨D,E,C,_⟩:=F k x G;rw[Nat.mul_one]at C;exact⟨b,B,D,E,C⟩
theorem zI.i64(h:zI w A c l):∀x,x∈l->zM x:=λx hx=>by
 obtain⟨k,hk⟩:=List.getElem?_of_mem hx;obtain⟨b,off,hS⟩:=h.sl;exact(hS k x hk).2.2.2
theorem rM(h:Own yK 1 w base 3 v l)(hi:∀x,x∈l->zM x):∃A c,v=.slice A l.length c/\zI w A c l:=by
 obtain⟨A,c,D,B⟩:=Own.slAt (R:=ra) (enc:=yK) (λ_=>rfl) (λx E b o C=>⟨by have:=C 0 _ rfl;simpa using this,hi x E⟩) h;subst D;exact⟨A,c,rfl,h.room.1,h.room.2,B⟩
theorem zI.flat{b off:Nat}(h:zI w (some ⟨b,off,none⟩) c l):∀(j:Nat) u,(l.flatMap yK)[j]?=some u->w.cell? ⟨b,off+j,none⟩=some u:=λj u C=>by
 have hj:j<l.length:=by have:=zy C;rw[wG nK]at this;omega
 obtain⟨x,D⟩:=zl hj;obtain⟨E,A,e,_,F⟩:=h.get D;obtain⟨rfl,rfl⟩:b=E/\off=A:=by simpa using e
 have B:=lK nK D (show 0<1 by decide);rw[Nat.mul_one,Nat.add_zero,C]at B;rw[F,B];rfl
theorem ak(d:Array Int)(t:Nat)(h:t<d.size):(flatK yK 1 d)[t]! = .int .i64 d[t]! := by
 rw[get_flatK _ _ _ _ (by omega),Nat.div_one,Nat.mod_one];rfl
theorem aq{d:Array Int}(h:HoldsK yK 1 w g 0 d):Holds (Value.int .i64) w g 0 d:=λj hj=>by
 have:=h j (by rw[size_flatK];omega);rw[ak d j hj]at this;exact this
theorem jk(d:Array Int):putRow (Value.int .i64) w g 0 d=putRowK yK 1 w g 0 d:=by
 unfold putRowK putRow
 congr 1
 funext c
 unfold putCells;refine Array.ext (by simp) λi B C=>?_;simp only[Array.getElem_mapIdx,Nat.zero_le,true_and,Nat.zero_add,Nat.sub_zero,size_flatK,Nat.mul_one,id]
 by_cases A:i<d.size
 ·rw[if_pos A,if_pos A,ak d i A]
 rw[if_neg A,if_neg A]
end
def Ti(l:List Int)(v:Value)(w:World)(base:Nat)(e:Ending)(w':World):Prop:=e=.returned (.tuple #[])/\∃r,(∀x,x∈r↔x∈l)/\r.length=l.length/\r.Pairwise (·<=·)/\Own yK 1 w' base 3 v r/\Below base w w'
theorem iI(v:Value)(l:List Int)(w:World)(base:Nat)(A:Own yK 1 w base 3 v l)(C:base<=w.heap.size)(O:l.length<=100000) :
  Calls Tryz.prog 185 #[v] w (Ti l v w base):=by
 rcases A.2 with⟨F,K⟩|⟨g,G,J,F,M,I,_⟩
 ·rw[F]
  have B:l=[]:=List.eq_nil_of_length_eq_zero K;refine(Tryz.slices_Sort_int_none none 0 w).mono λe w' ⟨he,hw⟩=>⟨he,[],by simp[B],by simp[B],by simp,by subst hw;rw[<-F,<-B];exact A,by rw[hw];exact Below.refl _ _⟩
 have D:g<w.heap.size:=by
  rcases Nat.lt_or_ge g w.heap.size with D|hge
  ·exact D
  rw[Array.getElem?_eq_none hge]at I;cases I
 rw[F]at A⊢;have L:=aq (A.holdsK (sz:=1) (λ_=>rfl) (by decide));refine(Tryz.slices_Sort_int g 0 G l w L D (by omega)).mono λe w' ⟨he,n,os,hw⟩=>?_;have E:(l.mergeSort λx y=>decide (x<=y)).length=l.length:=List.length_mergeSort _;refine⟨he,l.mergeSort λx y=>decide (x<=y),λx=>List.mem_mergeSort,E,?_,?_,?_⟩
 ·have H:=List.pairwise_mergeSort (le:=λx y:Int=>decide (x<=y)) (λa b c H N=>by simp at *;omega) (λa b=>by simp;omega) l
  exact H.imp λh=>by simpa using h
 ·rw[hw,jk]
  exact A.sortWorld (sz:=1) (m:=n) (os:=os) (λ_=>rfl) (by decide) E
 rw[hw,jk];exact kT M C
end Go.Proofs.YtjcimdpldlamfaaGreatDoor
namespace Go.Proofs.YtjcimdpldlamfaaGreatDoor
set_option maxRecDepth 100000
set_option maxHeartbeats 4000000
open Go.RowKit Go.Shelf
theorem bG{D:Func}{p:Tmp}{B:TypeId}(h:D.results=#[.cell p B])(A:Array Value)(P:Program)(w:World)(b:Nat)(t:TypeId)(cs:Array Value){d:_}(G:A.getD p undef=.pointer (some ⟨b,0,none⟩))(E:zj w b t cs)
  (H:P.underlying B=some (.struct d)) (hi:(P.info? B).map (·.size)=some cs.size):(results D A).run P w=.ok (.agg cs) w:=by
 have F:=run_loadVar_row (P:=P) w b t B cs (0,0) (.struct d) E H rfl hi;have C:A[p]?.getD undef=.pointer (some ⟨b,0,none⟩):=by rw[<-G];simp
 simp only[results,h];simp[C,asAddr,F]
theorem Xq:(Tryz.prog.info? 241).map (·.size)=some 3:=by kernel_rfl
def gD(A:Option Addr)(n c:Nat)(o:Option Int):Array Value:=#[.slice A n c,.int .i64 (o.getD 0),.bool o.isSome]
def gE(A:Option Addr)(n c:Nat)(o:Option Int):Value:=.agg (gD A n c o)
theorem Zg{l:List zg}{t:Int}{n:Nat}(hl:n<=1000000):∀x,x∈xv l t n->zM x:=λx hx=>by
 obtain⟨h1,h2,_⟩:=se hx;unfold zM;omega
theorem Own.set_far{α:Type}{enc:α->List Value}{k:Nat}{w:World}{base g:Nat}{e t:TypeId}{v:Value}{l:List α}{cs:Array Value}(h:Own enc k w base e v l)(hB:zj w g t cs)(ht:t≠e)(i:Nat)(u:Value):Own enc k (w.setCell ⟨g,i,none⟩ u) base e v l:=
 h.keep λb cs' hb=>hb.far (by
  rintro rfl;unfold zj at hb hB;rw[hB]at hb
  cases hb
  exact ht rfl) u
def PY(state l:List zg)(t:Int)(w:World)(e:Ending)(w':World):Prop:=∃A c base,e=.returned (gE A (yQ l t).length c (xN state t))/\Own yK 1 w' base 3 (.slice A (yQ l t).length c) (yQ l t)/\w.heap.size<=base/\Below w.heap.size w w'
theorem Ux(A B:Option Addr)(c d:Nat)(C l:List zg)(t:Int)(w:World)(z:PiecesAt w A c C)(hB:PiecesAt w B d l)(hl:l.length<=1000) :
  Calls Tryz.prog 180 #[.slice A C.length c,.slice B l.length d,.int .i64 t] w (PY C l t w):=by
 obtain⟨i0,hi,J0,K0,L0⟩:=qA;have m1:=z.len;have m2:=hB.len;have HA:=zc z;have HB:=zc hB;clear z hB
 go_enter Tryz.func180,Tryz.ntmps180
 go_wp2_with fail;obtain⟨E,D⟩:∃E,E=((w.alloc (Obj.cells #[.slice none 0 0,.int .i64 0,.bool false] 241)).alloc (Obj.cells #[.slice none 0 0,.int .i64 0,.bool false] 241)):=⟨_,rfl⟩;have C0:Below w.heap.size w E:=by rw[D];go_grown
 have r:zj E w.heap.size 241 #[.slice none 0 0,.int .i64 0,.bool false]:=by rw[D];exact(zj.new _ _ _).alloc _
 have H:zj E (w.heap.size+1) 241 #[.slice none 0 0,.int .i64 0,.bool false]:=by rw[D];exact zj.new_ (by simp)
 have Q0:w.heap.size+2=E.heap.size:=by rw[D];simp
 rw[<-D];clear D
 go_loopw [12] (λx wr=>∃(k:Nat) (a:Value),k<=l.length/\x=.int .i64 k/\zj wr (w.heap.size+1) 241 #[a,.int .i64 0,.bool false]/\Own yK 1 wr E.heap.size 3 a (xv l t k)/\Below (w.heap.size+1) E wr/\E.heap.size<=wr.heap.size) (λx _=>l.length-(intOf x).toNat)
 case atStart=>exact⟨0,_,Nat.zero_le _,rfl,H,Own.nil,Below.refl _ _,Nat.le_refl _⟩
 clear H;obtain⟨k,a,hk,rfl,H,L,Y,c0⟩:=hrel;have r:=r.below Y (by omega);have J:Below w.heap.size w wr:=C0.trans (Y.mono (by omega))
 by_cases H0:k<l.length
 case neg=>
  obtain rfl:k=l.length:=by omega
  obtain⟨M,U,rfl⟩:=L.form;have S:Hid (Own yK 1 wr E.heap.size 3 (.slice M (yQ l t).length U) (yQ l t)):=zc L;have i:=ja A c C t wr (HA.out.ext J);obtain⟨N,hN⟩:∃N,(xv l t l.length).length=N:=⟨_,rfl⟩;have T:Hid ((yQ l t).length=N):=zc hN;rw[hN]at H;clear L hN;go_wp2_with fail;refine i.mono ?_;rintro e w1 ⟨rfl,G⟩;have O:=H.ext G;have R:=r.ext G
  obtain⟨f1,f2,f3⟩:=O.facts;obtain⟨g1,g2,g3⟩:=R.facts;have S:=zc (S.out.ext G);have m:=za J G;clear i r H Y J G;unfold Pv;obtain⟨Z,X⟩:∃x,(xN C t).getD 0=x:=⟨_,rfl⟩;obtain⟨q,W⟩:∃x,(xN C t).isSome=x:=⟨_,rfl⟩;rw[X,W];have HV:=zc (And.intro X W);clear X W;go_wp2_with fail;have K:w.heap.size≠w.heap.size+1:=by omega
  have BR:=(((((R.far (p:=⟨w.heap.size+1,1,none⟩) K (.int .i64 Z)).far (p:=⟨w.heap.size+1,2,none⟩) K (.bool q)).set_ 0 (.slice M N U)).set_ 1 (.int .i64 Z)).set_ 2 (.bool q));refine bodyPost_ret (v:=gE M N U (xN C t)) ?_ rfl ?_
  ·rw[show gE M N U (xN C t)=.agg (((#[Value.slice none 0 0,.int .i64 0,.bool false].setIfInBounds 0 (.slice M N U)).setIfInBounds 1 (.int .i64 Z)).setIfInBounds 2 (.bool q)) from by unfold gE gD;rw[HV.out.1,HV.out.2];rfl]
   exact bG rfl _ _ _ w.heap.size 241 _ rfl BR Tryz.underlying241 (by simpa using Xq)
  refine⟨M,U,E.heap.size,by rw[T.out],?_,by omega,?_⟩
  ·have b1:=O.set_ 1 (.int .i64 Z)
   have b2:=b1.set_ 2 (.bool q);have r2:=(R.far (p:=⟨w.heap.size+1,1,none⟩) K (.int .i64 Z)).far (p:=⟨w.heap.size+1,2,none⟩) K (.bool q);have r3:=r2.set_ 0 (.slice M N U);have r4:=r3.set_ 1 (.int .i64 Z);exact((((S.out.set_far O (by decide) _ _).set_far b1 (by decide) _ _).set_far r2 (by decide) _ _).set_far r3 (by decide) _ _).set_far r4 (by decide) _ _
  exact((((m.setCell (by simp) _).setCell (by simp) _).setCell (by simp) _).setCell (by simp) _).setCell (by simp) _
 obtain⟨x,hx⟩:=zl H0;obtain⟨b,e0,rfl,P0,x0,x1,x2⟩:=(HB.out.ext J).get hx;have u:=zc hx;have o:(xv l t k).length+1<=1000000:=by have:=gU (l:=l) (t:=t) (n:=k);omega
 clear hx
 by_cases h:x.f<=t
 case neg=>
  have E0:decide (x.f<=t)=false:=by simpa using h
  have T:Hid (xv l t (k+1)=xv l t k):=zc (by rw[pO u.out,show ng x t=false by simp[ng];omega];simp);clear h;go_wp2_with fail;go_roundw
  case rel=>exact⟨k+1,a,by omega,by go_num,H.alloc _,by rw[T.out];exact L.alloc _,Y.alloc (by omega) _,by simp;omega⟩
  case measure=>simp[intOf];omega
 case pos=>
 have E0:decide (x.f<=t)=true:=by simpa using h
 by_cases s:t<x.t
 case neg=>
  have F0:decide (t<x.t)=false:=by simpa using s
  have T:Hid (xv l t (k+1)=xv l t k):=zc (by rw[pO u.out,show ng x t=false by simp[ng];omega];simp);clear h s;go_wp2_with fail;go_roundw
  case rel=>exact⟨k+1,a,by omega,by go_num,H.alloc _,by rw[T.out];exact L.alloc _,Y.alloc (by omega) _,by simp;omega⟩
  case measure=>simp[intOf];omega
 have F0:decide (t<x.t)=true:=by simpa using s
 have T:Hid (xv l t (k+1)=xv l t k++[(k:Int)]):=zc (by rw[pO u.out,show ng x t=true by simp[ng];omega];simp);obtain⟨I,F⟩:∃I,I=xv l t k:=⟨_,rfl⟩;have g:=zc F;rw[<-F]at L o;have Q:=H.alloc (Obj.cells #[.int .i64 x.f,.int .i64 x.t,.int .i64 x.v] 210);obtain⟨f1,f2,f3⟩:=Q.facts;clear h s F;go_wp2_with (at_builtin;refine zr (enc:=yK) rfl (.tmp 28) (.tmp 30) 55 rfl E.heap.size 3 i0 _ 1 8 Tryz.underlying55 hi J0 K0 L0 rfl (by decide) a I (k:Int) rfl (L.alloc _) #[.int .i64 k] rfl (wr.heap.size+1) (by simp) rfl rfl jV o (by decide) (by simp;omega) ?_;intro gn y w6 V j G0 a0;have P:=G0 _ _ _ Q ((L.alloc _).other Q (by decide));obtain⟨e1,e2,e3⟩:=P.facts)
 go_roundw
 case rel=>
  have D0:Below (w.heap.size+1) E w6:=(Y.alloc (by omega) _).trans (j.mono (by omega));have M0:=j.size;exact⟨k+1,.slice (some ⟨gn,0,none⟩) (I.length+1) y,by omega,by go_num,P.set_ 0 _,by rw[T.out,<-g.out];exact V.set_far P (by decide) _ _,D0.setCell (Nat.le_refl _) _,by simp at M0⊢;omega⟩
 case measure=>simp[intOf];omega
end Go.Proofs.YtjcimdpldlamfaaGreatDoor
namespace Go.Proofs.YtjcimdpldlamfaaGreatDoor
set_option maxHeartbeats 4000000
set_option maxRecDepth 100000
open Go.RowKit Go.Shelf
theorem Zf{l:List zg}{k i:Int}:∀{is:List Int} {v:Int},oZ l k v (is++[i])=qM k (oZ l k v is) (cP l i)
 |[],_=>rfl
 |_::is,_=>Zf (is:=is)
theorem Pf{l:List zg}{j:Nat}{x:zg}(A:l[j]?=some x):cP l j=x.v:=by unfold cP;rw[Int.toNat_natCast,A];rfl
theorem jp{l:List zg}{k:Int}(D:mF l)(C:1<=k/\k<=3):∀(is:List Int) (v A:Int),(∀i,i∈is->0<=i/\i<l.length)->(-A<=v/\v<=A)->0<=A->-(A+is.length*1000000000)<=oZ l k v is/\oZ l k v is<=A+is.length*1000000000
 |[],v,A,_,hv,_=>by simp only[oZ,List.length_nil];omega
 |i::is,v,A,hi,hv,hA=>by
  have h0:=hi i (by simp);obtain⟨x,hx⟩:=zl (show i.toNat<l.length by omega);have hx2:cP l i=x.v:=by unfold cP;rw[hx];rfl
  have B:=WU C hv hA (D x (List.mem_of_getElem? hx)).1.2.2;rw[<-hx2]at B;have F:=jp D C is (qM k v (cP l i)) (A+1000000000) (λj E=>hi j (List.mem_cons_of_mem _ E)) B (by omega);simp only[oZ,List.length_cons];omega
theorem ef(a b k:Int)(K:1<=k/\k<=3)(h1:-1000000000000<=a)(D:a<=1000000000000)(F:zL b=true)(w:World):Calls Tryz.prog 195 #[.int .i64 a,.int .i64 b,.int .i64 k] w λe L=>e=.returned (.int .i64 (qM k a b))/\w=L:=by
 have J:=wQ.1 F;have M:IntKind.i64.wrap (a+b)=a+b:=IntWalk.i64_in _ (by omega);have E:k=1∨k=2∨k=3:=by omega
 clear F K;have A:qM 1 a b=min a b:=by unfold qM;rw[if_neg (by decide),if_pos rfl]
 have B:qM 2 a b=max a b:=by unfold qM;rw[if_neg (by decide),if_neg (by decide)]
 have C:qM 3 a b=a+b:=by unfold qM;rw[if_pos rfl]
 have G:=zc A.symm;have H:=zc B.symm;have I:=zc C.symm;clear A B C h1 D J;rcases E with rfl|rfl|rfl
 all_goals
  go_enter Tryz.func195,Tryz.ntmps195
  go_wp2_with fail;go_ret
  first
  |exact⟨zC G.out,rfl⟩
  |exact⟨zC H.out,rfl⟩
  |exact⟨zC I.out,rfl⟩
theorem kL(A B:Option Addr)(c d n:Nat)(o:Option Int)(I:List Int)(l:List zg)(C:Int)(w:World)(M:zI w A c I)(hn:I.length=n)(h0:I≠[])(hi:∀i,i∈I->0<=i/\i<l.length)(U:PiecesAt w B d l)(t:mF l)(hl:l.length<=200)(R:I.length<=200)(q:1<=C/\C<=3) :
  Calls Tryz.prog 182 #[gE A n c o,.slice B l.length d,.int .i64 C] w λe w'=>e=.returned (.int .i64 (rP l C I))/\Below w.heap.size w w':=by
 have m2:=U.len;obtain⟨i,D,rfl⟩:∃i D,I=i::D:=by
  cases I with
  |nil=>exact absurd rfl h0
  |cons i D=>exact⟨i,D,rfl⟩
 obtain⟨j,rfl⟩:∃j:Nat,i=j:=⟨i.toNat,by have:=hi i (by simp);omega⟩;have m:j<l.length:=by have:=hi j (by simp);omega
 obtain⟨x,V⟩:=zl m;have u:n=D.length+1:=by rw[<-hn];simp
 have a0:D.length+1<=c:=by have:=M.lc;simpa using this
 subst u;have W0:c<=9223372036854775807:=M.cm;have HB:=zc U;have HA:=zc M;have X:=zc hi;have HM:=zc t;have HK:=zc q;have HL:=zc hl;have HV:Hid (rP l C ((j:Int)::D)=oZ l C x.v D):=zc (by show oZ l C (cP l j) D=_;rw[Pf V]);have Z:=zc (t x (List.mem_of_getElem? V)).1.2.2;have Y:Hid (D.length<=200):=zc (by simp at R;omega);obtain⟨b,F,rfl,O,x0⟩:=M.get (k:=0) (x:=(j:Int)) rfl
 obtain⟨L,E,rfl,P,y0,y1,y2⟩:=U.get V;rw[Nat.add_zero]at x0;have X0:∀J:Obj,(w.alloc J).cell? ⟨b,F,none⟩=some (.int .i64 j):=λJ=>((ze (Below.refl _ w) J).cell (p:=⟨b,F,none⟩) O).trans x0;have Y2:∀J:Obj,(w.alloc J).cell? ⟨L,E+j*3+2,none⟩=some (.int .i64 x.v):=λJ=>((ze (Below.refl _ w) J).cell (p:=⟨L,E+j*3+2,none⟩) P).trans y2;have Z0:1<=D.length+1:=by omega
 rw[HV.out];clear M U hi t q V hn h0 x0 y0 y1 y2 hl R HV;unfold gE gD
 by_cases g:c=1
 case pos=>
  obtain rfl:D=[]:=List.eq_nil_of_length_eq_zero (by omega);subst g
  go_enter Tryz.func182,Tryz.ntmps182
  go_wp2_with fail
  go_loopw [7,22] (λa y wr=>y=.int .i64 0/\a=.int .i64 x.v/\Below w.heap.size w wr) (λ_ _ _=>0)
  case atStart=>exact⟨rfl,rfl,by go_grown⟩
  obtain⟨rfl,rfl,K⟩:=hrel;go_wp2_with fail;go_ret;exact⟨rfl,K⟩
 have V0:1<c:=by omega
 go_enter Tryz.func182,Tryz.ntmps182
 go_wp2_with fail
 go_loopw [7,22] (λa y wr=>∃k:Nat,k<=D.length/\y=.int .i64 k/\a=.int .i64 (oZ l C x.v (D.take k))/\Below w.heap.size w wr) (λ_ y _=>D.length-(intOf y).toNat)
 case atStart=>exact⟨0,Nat.zero_le _,rfl,rfl,by go_grown⟩
 clear X0 Y2;obtain⟨k,q,rfl,rfl,K⟩:=hrel
 by_cases s:k<D.length
 case neg=>
  obtain rfl:k=D.length:=by omega
  rw[List.take_length];go_wp2_with fail;go_ret;exact⟨rfl,K⟩
 obtain⟨i2,G⟩:=zl s;obtain⟨H,rfl⟩:∃H:Nat,i2=H:=⟨i2.toNat,by have:=X.out i2 (List.mem_cons_of_mem _ (List.mem_of_getElem? G));omega⟩;have h:H<l.length:=by have:=X.out H (List.mem_cons_of_mem _ (List.mem_of_getElem? G));omega
 obtain⟨z,W⟩:=zl h;obtain⟨b',S,e',_,u0⟩:=HA.out.get (k:=k+1) (x:=(H:Int)) (by rw[List.getElem?_cons_succ];exact G);obtain⟨rfl,rfl⟩:b=b'/\F=S:=by simpa using e'
 obtain⟨b3,T,e3,_,v0,v1,v2⟩:=HB.out.get W;obtain⟨rfl,rfl⟩:L=b3/\E=T:=by simpa using e3
 have u0:wr.cell? ⟨b,F+1+k,none⟩=some (.int .i64 H):=by rw[show F+1+k=F+(k+1) by omega];exact(K.cell (p:=⟨b,F+(k+1),none⟩) O).trans u0
 have v2:wr.cell? ⟨L,E+H*3+2,none⟩=some (.int .i64 z.v):=(K.cell (p:=⟨L,E+H*3+2,none⟩) P).trans v2;have HN:Hid (D.take (k+1)=D.take k++[(H:Int)]):=zc (by rw[List.take_add_one,G];rfl);have HS:Hid (oZ l C x.v (D.take (k+1))=qM C (oZ l C x.v (D.take k)) z.v):=zc (by rw[HN.out,Zf,Pf W]);have Q:=jp HM.out HK.out (D.take k) x.v 1000000000 (λi hi=>X.out i (List.mem_cons_of_mem _ (List.mem_of_mem_take hi))) (by have:=wQ.1 Z.out;omega) (by omega)
 have r:(D.take k).length<=200:=by rw[List.length_take];have:=Y.out;omega
 obtain⟨f,N⟩:∃f,oZ l C x.v (D.take k)=f:=⟨_,rfl⟩;rw[N]at Q HS⊢;have hT:=ef f z.v C HK.out (by omega) (by omega) (HM.out z (List.mem_of_getElem? W)).1.2.2;have Y0:(k:Int)+1<(c:Int):=by omega
 clear G W e' e3 v0 v1 Q r N;go_wp2_with fail;refine(hT _).mono ?_;rintro e w5 ⟨rfl,rfl⟩;go_wp2_with fail;go_roundw
 case rel=>exact⟨k+1,by omega,by go_num,by rw[HS.out],K⟩
 case measure=>simp[intOf];omega
end Go.Proofs.YtjcimdpldlamfaaGreatDoor
namespace Go.Proofs.YtjcimdpldlamfaaGreatDoor
open Go.RowKit
structure ru(S m:List Int)(i k:Nat):Prop where
 len:m.length=S.length
 uniq:kl S i (m.take k)
 ki:k<=i
 il:i<=S.length
 rest:∀j x,i<=j->S[j]?=some x->m[j]?=some x
section
variable {S m:List Int}{i k:Nat}{x z:Int}
theorem ru.start:ru S S 0 0:=⟨rfl,by simpa using kl.start,Nat.le_refl _,Nat.zero_le _,λ_ _ _ h=>h⟩
theorem ru.klen(h:ru S m i k):(m.take k).length=k:=by
 have:=h.ki;have:=h.il;have:=h.len;rw[List.length_take];omega
theorem ru.put(h:ru S m i k)(O:S.Pairwise (·<=·))(C:S[i]?=some x)(A:i=0∨∃z,m[k-1]?=some z/\z≠x):ru S (m.set k x) (i+1) (k+1):=by
 have L:=zy C;have N:=h.ki;have F:k<m.length:=by rw[h.len];omega
 have e:(m.set k x).take (k+1)=m.take k++[x]:=by
  rw[List.take_add_one,List.getElem?_set_self F,List.take_set_of_le (Nat.le_refl _)];rfl
 refine⟨by rw[List.length_set];exact h.len,?_,by omega,by omega,λj y Q P=>?_⟩
 ·rw[e]
  rcases A with rfl|⟨z,A,B⟩
  ·obtain rfl:k=0:=by omega
   simpa using kl.first C
  have M:0<k:=by
   rcases Nat.eq_zero_or_pos k with D|D
   ·exfalso
    subst D;have I:=h.uniq.pos
    by_cases E:0<i
    ·have:=I E (by omega)
     simp at this
    obtain rfl:i=0:=by omega
    have J:=h.rest 0 x (Nat.le_refl _) C;simp only[Nat.zero_sub]at A;rw[J]at A;exact B (by simpa using A.symm)
   exact D
  have H:m.take k=m.take (k-1)++[z]:=by
   have K:k=(k-1)+1:=by omega
   conv=>lhs;rw[K,List.take_add_one,A]
   rfl
  have G:=h.uniq;rw[H]at G⊢;exact G.new O C B
 rw[List.getElem?_set_ne (by omega)];exact h.rest j y (by omega) P
theorem ru.skip(h:ru S m i k)(B:S[i]?=some x)(hi:i≠0)(I:m[k-1]?=some x):ru S m (i+1) k:=by
 have E:=zy B;have G:=h.ki;have F:0<k:=by
  have:=h.uniq.pos (by omega) (by omega);rw[h.klen]at this;exact this
 refine⟨h.len,?_,by omega,by omega,λj y J H=>h.rest j y (by omega) H⟩;have C:m.take k=m.take (k-1)++[x]:=by
  have D:k=(k-1)+1:=by omega
  conv=>lhs;rw[D,List.take_add_one,I]
  rfl
 have A:=h.uniq;rw[C]at A⊢;exact A.same B
end
theorem Own.cut{α:Type}{enc:α->List Value}{sz:Nat}{w:World}{base n c k:Nat}{e:TypeId}{A:Option Addr}{m:List α}(F:∀x,(enc x).length=sz)(P:0<sz)(h:Own enc sz w base e (.slice A n c) m)(M:k<=n):Own enc sz w base e (.slice A k c) (m.take k):=by
 rcases h.2 with⟨D,E⟩|⟨g,I,J,H,_⟩
 ·simp only[Value.slice.injEq]at D
  obtain⟨rfl,rfl,rfl⟩:=D;obtain rfl:k=0:=by omega
  exact Own.nil
 simp only[Value.slice.injEq]at H;obtain⟨rfl,rfl,rfl⟩:=H;obtain⟨_,L,N,B,Q,K,C,O⟩:=h.cells F;have G:(m.take k).length=k:=by rw[List.length_take];omega
 have E:=Own.of_cells (m:=m.take k) F P K L (by rw[G];omega) B C (O.take k)
 rwa[G]at E
end Go.Proofs.YtjcimdpldlamfaaGreatDoor
namespace Go.Proofs.YtjcimdpldlamfaaGreatDoor
open Go Go.RowKit
section
variable {P:Program}{ops:Array Oper}{Q:Exit->Act->World->Prop}{md:Region.Mode}{S:World->Prop}
theorem zV.two{n i j:Nat}{H I:Oper}{f:Nat}{A:Array Bool}{a:Act}{w:World}(hi:ops[i]?=some H)(M:ops[j]?=some I)
  (C:(Region.ready md ops A== [i,j] && Region.wanted H (yielded ops a.tmps) && Region.wanted I (yielded ops a.tmps))=true)
  (h1:∀K:Act->World->Prop,Hid (∀D B,((i<n->S B)/\zV P md ops Q S n f (A.setIfInBounds i true) D B)->K D B)->Oper.wp P H a w K Q)
  (L:∀K:Act->World->Prop,Hid (∀D B,((j<n->S B)/\zV P md ops Q S n f (A.setIfInBounds j true) D B)->K D B)->Oper.wp P I a w K Q):zV P md ops Q S n (f+1) A a w:=by
 simp only[Bool.and_eq_true,beq_iff_eq]at C;obtain⟨⟨C,F⟩,G⟩:=C;refine⟨λJ=>(by rw[J]at C;cases C),λk E=>?_⟩;rw[C]at E;have E:k=i∨k=j:=by simpa using E
 unfold wpOp;rcases E with rfl|rfl
 ·simp only[hi,F,if_true]
  exact .inl (h1 _ (zc λ_ _ h=>h))
 simp only[M,G,if_true];exact .inl (L _ (zc λ_ _ h=>h))
end
end Go.Proofs.YtjcimdpldlamfaaGreatDoor
namespace Go.Proofs.YtjcimdpldlamfaaGreatDoor
set_option maxHeartbeats 1000000
open Go.RowKit
theorem Uu{α:Type}{a b:List α}(B:a.length=b.length){k:Nat}(A:a.length<=k)(h:a.take k=b.take k):a=b:=by
 rwa[List.take_of_length_le A,List.take_of_length_le (by omega)]at h
theorem Rh{α:Type}{a b:List α}{k:Nat}{x y:α}(B:a[k]?=some x)(C:b[k]?=some y)(h:a.take k=b.take k)(A:x=y):a.take (k+1)=b.take (k+1):=by
 rw[List.take_add_one,List.take_add_one,B,C,h,A]
theorem Sw{α:Type}{a b:List α}{k:Nat}{x y:α}(C:a[k]?=some x)(B:b[k]?=some y)(A:¬x=y):¬a=b:=by
 rintro rfl;rw[C]at B;exact A (by simpa using B)
theorem bo(A B:Option Addr)(c d:Nat)(a b:List Int)(w:World)(F:zU ra 1 w A a)(G:zU ra 1 w B b)(T:a.length<=maxLen)(_U:b.length<=maxLen) :
  Calls Tryz.prog 148 #[.slice A a.length c,.slice B b.length d] w λe f=>e=.returned (.bool (decide (a=b)))/\Below w.heap.size w f:=by
 unfold maxLen at T _U
 by_cases H:a.length=b.length
 case neg=>
  have J:((a.length:Int) != (b.length:Int))=true:=by simp;omega
  go_enter Tryz.func148,Tryz.ntmps148
  go_wp2_with fail;go_ret;exact⟨yW (by symm;simp;intro h;exact H (by rw[h])),Below.refl _ _⟩
 have J:((a.length:Int) != (b.length:Int))=false:=by simp;omega
 obtain⟨j,n,F⟩:=F;obtain⟨l,o,G⟩:=G;have S:=zc H;have X:a.length<=b.length:=by omega
 have Y:b.length<=a.length:=by omega
 clear H
 go_enter Tryz.func148,Tryz.ntmps148
 go_wp2_with fail
 go_loopw [13] (λv wr=>∃k:Nat,k<=a.length/\v=.int .i64 k/\Hid (a.take k=b.take k)/\Below w.heap.size w wr) (λv _=>a.length-(intOf v).toNat)
 case atStart=>exact⟨0,Nat.zero_le _,rfl,zc (by simp),Below.refl _ _⟩
 obtain⟨k,m,rfl,M,E⟩:=hrel
 by_cases I:k<a.length
 ·obtain⟨x,K⟩:=zl I
  obtain⟨y,L⟩:=zl (show k<b.length by omega);obtain⟨rfl,V,Q,_⟩:=F k x K;obtain⟨rfl,W,R,_⟩:=G k y L;have g:=Q.now E;have i:=R.now E;simp only[Nat.mul_one]at g i;have N:=zc K;have O:=zc L;have P:k<b.length:=by omega
  clear F G K L Q R
  by_cases C:x=y
  ·have D:=zc C
   have Z:(x != y)=false:=by simp[C]
   clear C;go_wp2_with fail
   go_quiet (fail)
   go_wp2;go_roundw
   case rel=>exact⟨k+1,by omega,by go_num,zc (Rh N.out O.out M.out D.out),zo E _⟩
   case measure=>simp[intOf];omega
  have D:=zc C;have Z:(x != y)=true:=by simp[C]
  clear C;go_wp2_with fail
  go_quiet (fail)
  go_wp2;go_ret;exact⟨yW (by symm;simp;exact Sw N.out O.out D.out),zo E _⟩
 go_wp2_with fail;go_ret;exact⟨yW (by symm;simp;exact Uu S.out (by omega) M.out),E⟩
end Go.Proofs.YtjcimdpldlamfaaGreatDoor
namespace Go.Proofs.YtjcimdpldlamfaaGreatDoor
set_option maxHeartbeats 1000000
open Go.RowKit Go.Shelf
def PZ(fn:Nat)(lb:Array Value)(p:zw->Bool)(w:World):Prop:=
 ∀(W:World) (x:zw),Below w.heap.size w W->Calls Tryz.prog fn (#[PF x]++lb) W λe w'=>e=.returned (.bool (p x))/\Below W.heap.size W w'
def Zm(p:zw->Bool)(l:List zw)(r:Int):Prop:=
 (r=-1/\∀x,x∈l->p x=false)∨∃(k:Nat) (x:zw),r=k/\l[k]?=some x/\p x=true/\∀y,y∈l.take k->p y=false
theorem Zm.any{p:zw->Bool}{l:List zw}{r:Int}(h:Zm p l r):decide (r ≥ 0)=l.any p:=by
 rw[Bool.eq_iff_iff,List.any_eq_true,decide_eq_true_iff];rcases h with⟨rfl,h⟩|⟨k,x,rfl,B,A,_⟩
 ·exact⟨λC=>by omega,λ⟨x,B,A⟩=>by rw[h x B]at A;simp at A⟩
 exact⟨λ_=>⟨x,List.mem_of_getElem? B,A⟩,λ_=>by omega⟩
theorem kA(D:Nat)(Q:Array Value)(p:zw->Bool)(W:∀B w,(callFunc D B).run Tryz.prog w=.ok (.enter D B) w)(A:Option Addr)(c:Nat)(l:List zw)(w:World)(J:IvlsAt w A c l)(P:PZ D Q p w) :
  Calls Tryz.prog 198 #[.slice A l.length c,.func (.func D) #[] Q] w λe N=>(∃r,e=.returned (.int .i64 r)/\Zm p l r)/\Below w.heap.size w N:=by
 have Y:=J.len;have R:=zc J;have S:=zc P;clear J P
 go_enter Tryz.func198,Tryz.ntmps198
 go_wp2_with fail
 go_loopw [5,8] (λ_ v wr=>∃k:Nat,k<=l.length/\v=.int .i64 k/\Hid (∀y,y∈l.take k->p y=false)/\Below w.heap.size w wr) (λ_ v _=>l.length-(intOf v).toNat)
 case atStart=>exact⟨0,Nat.zero_le _,rfl,zc (by simp),Below.refl _ _⟩
 obtain⟨k,X,rfl,I,F⟩:=hrel
 by_cases L:k<l.length
 case neg=>
  obtain rfl:k=l.length:=by omega
  go_wp2_with fail;go_ret;exact⟨⟨-1,rfl,.inl ⟨rfl,by have:=I.out;rwa[List.take_length]at this⟩⟩,F⟩
 obtain⟨x,M⟩:=zl L;obtain⟨b,T,rfl,K,U,V⟩:=R.out.get M;rw[<-F.cell (by exact K)]at U V;have O:=zc M;have G:=S.out wr x F;clear M
 cases H:p x
 case true=>
  rw[H]at G;go_wp2_with (go_at_fn D;refine G.mono ?_;rintro e N ⟨rfl,C⟩);go_ret;exact⟨⟨k,rfl,.inr ⟨k,x,rfl,O.out,H,I.out⟩⟩,za F C⟩
 case false=>
  rw[H]at G;go_wp2_with (go_at_fn D;refine G.mono ?_;rintro e N ⟨rfl,C⟩);go_roundw
  case rel=>
   refine⟨k+1,by omega,by go_num,zc λy E=>?_,za F C⟩;rw[wC O.out]at E;rcases List.mem_append.1 E with E|E
   ·exact I.out y E
   obtain rfl:y=x:=by simpa using E
   exact H
  case measure=>simp[intOf];omega
theorem iZ(C:Nat)(D:Array Value)(p:zw->Bool)(J:∀B w,(callFunc C B).run Tryz.prog w=.ok (.enter C B) w)(A:Option Addr)(c:Nat)(l:List zw)(w:World)(E:IvlsAt w A c l)(F:PZ C D p w) :
  Calls Tryz.prog 187 #[.slice A l.length c,.func (.func C) #[] D] w λe G=>e=.returned (.bool (l.any p))/\Below w.heap.size w G:=by
 have H:=zc E;have I:=zc F;clear E F
 go_enter Tryz.func187,Tryz.ntmps187
 go_wp2_with (go_at_call 198;refine(kA C D p J A c l _ H.out I.out).mono ?_;rintro e G ⟨⟨r,rfl,L⟩,K⟩);go_ret;exact⟨yW L.any,K⟩
end Go.Proofs.YtjcimdpldlamfaaGreatDoor
