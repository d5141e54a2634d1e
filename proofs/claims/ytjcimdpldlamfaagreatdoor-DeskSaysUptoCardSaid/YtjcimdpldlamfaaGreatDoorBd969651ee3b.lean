import Derived.Shelf.Strings.OnBuilder
import Derived.Shelf.Strings.Prefix
import Derived.Shelf.Strings.Split
import Derived.Shelf.Strings.Count
import Derived.Shelf.Slices.Turned
import Derived.Shelf.Strings.BuilderK
import Derived.Shelf.LaysM
import Derived.Shelf.Strconv.Itoa3
import Derived.Shelf.Strings.Cut
import Derived.Lib.AppendIntMem
import Derived.Laws.Concat
import Derived.Test.YtjcimdpldlamfaaGreatDoorBda3d75061b5
namespace Go.Proofs.YtjcimdpldlamfaaGreatDoor
open Go.Proofs Go.Shelf
def Dsk.lays156_ren:Go.Shelf.Ren:=⟨fun|156=>44|165=>94|166=>15|169=>17|240=>28|241=>129|276=>43|277=>149|n=>n,fun|31=>23|9=>9|3=>3|4=>4|0=>0|20=>20|72=>35|76=>39|70=>32|37=>33|75=>38|127=>59|164=>73|5=>5|80=>42|n=>n,fun|n=>n⟩
theorem Dsk.lays156:Go.Proofs.Lays.n156 Tryz.prog Dsk.lays156_ren:={
 mixed:=by kernel_rfl
 f156:=Tryz.func44.trans (congrArg some (by kernel_rfl))
 f165:=Tryz.func94.trans (congrArg some (by kernel_rfl))
 f166:=Tryz.func15.trans (congrArg some (by kernel_rfl))
 f169:=Tryz.func17.trans (congrArg some (by kernel_rfl))
 f240:=Tryz.func28.trans (congrArg some (by kernel_rfl))
 f241:=Tryz.func129.trans (congrArg some (by kernel_rfl))
 f276:=Tryz.func43.trans (congrArg some (by kernel_rfl))
 f277:=Tryz.func149.trans (congrArg some (by kernel_rfl))
 t0:=Tryz.underlying0
 a0:=Tryz.isAgg0
 z0:=Tryz.sizeOf0
 v0:=Tryz.zeroValue0
 t3:=Tryz.underlying3
 a3:=Tryz.isAgg3
 z3:=Tryz.sizeOf3
 v3:=Tryz.zeroValue3
 t4:=Tryz.underlying4
 a4:=Tryz.isAgg4
 z4:=Tryz.sizeOf4
 v4:=Tryz.zeroValue4
 t9:=Tryz.underlying9
 a9:=Tryz.isAgg9
 z9:=Tryz.sizeOf9
 v9:=Tryz.zeroValue9
 t20:=Tryz.underlying20
 a20:=Tryz.isAgg20
 z20:=Tryz.sizeOf20
 v20:=Tryz.zeroValue20
 t31:=Tryz.underlying23
 a31:=Tryz.isAgg23
 z31:=Tryz.sizeOf23
 v31:=Tryz.zeroValue23
 t37:=Tryz.underlying33
 a37:=Tryz.isAgg33
 z37:=Tryz.sizeOf33
 v37:=Tryz.zeroValue33
 t70:=Tryz.underlying32
 a70:=Tryz.isAgg32
 z70:=Tryz.sizeOf32
 v70:=Tryz.zeroValue32
 t72:=Tryz.underlying35
 a72:=Tryz.isAgg35
 z72:=Tryz.sizeOf35
 v72:=Tryz.zeroValue35
 t75:=Tryz.underlying38
 a75:=Tryz.isAgg38
 z75:=Tryz.sizeOf38
 v75:=Tryz.zeroValue38
 t76:=Tryz.underlying39
 a76:=Tryz.isAgg39
 z76:=Tryz.sizeOf39
 v76:=Tryz.zeroValue39
 t127:=Tryz.underlying59
 a127:=Tryz.isAgg59
 z127:=Tryz.sizeOf59
 v127:=Tryz.zeroValue59
 t164:=Tryz.underlying73
 a164:=Tryz.isAgg73
 z164:=Tryz.sizeOf73
 v164:=Tryz.zeroValue73 }
theorem Dsk.Builder_Extra_156:Builder.Extra Tryz.prog Dsk.lays156_ren:={
 sizeBuilder:=by kernel_rfl
 liesBuilder:=by kernel_rfl
 t5:=Tryz.underlying5
 a5:=Tryz.isAgg5
 z5:=Tryz.sizeOf5
 v5:=Tryz.zeroValue5
 infoByte:=by kernel_rfl
 cellsByte:=by kernel_rfl
 sizeByte:=by kernel_rfl
 neB5:=by decide }
open Go.RowKit in
theorem Dsk.strings_Join_none(a:Option Addr)(c:Nat)(sep:ByteArray)(w:World) :
  Calls Tryz.prog 44 #[.slice a 0 c,.string sep] w λe w'=>e=.returned (.string ⟨#[]⟩)/\w'=w:=Any.strings_Join_none Dsk.lays156 Dsk.Builder_Extra_156 a c sep w
open Go.RowKit in
theorem Dsk.strings_Join(bk o c:Nat)(xs:List ByteArray)(sep:ByteArray)(w:World)(hcells:∀(j:Nat) x,xs[j]?=some x->w.cell? ⟨bk,o+j,none⟩=some (.string x))(hbk:bk<w.heap.size)(hN:xs.length<=140737488355328)(hcap:xs.length<=c)(hlen:(Lib.join (xs.map (·.data.toList)) sep.data.toList).length<=140737488355328) :
  Calls Tryz.prog 44 #[.slice (some ⟨bk,o,none⟩) xs.length c,.string sep] w λe w'=>e=.returned (.string ⟨(Lib.join (xs.map (·.data.toList)) sep.data.toList).toArray⟩)/\Below w.heap.size w w':=Any.strings_Join Dsk.lays156 Dsk.Builder_Extra_156 bk o c xs sep w hcells hbk hN hcap hlen
def Dsk.lays221_ren:Go.Shelf.Ren:=⟨fun|221=>26|268=>41|138=>9|143=>21|195=>19|197=>93|218=>20|219=>35|260=>128|217=>72|225=>73|224=>74|267=>75|266=>117|314=>118|n=>n,fun|9=>9|3=>3|31=>23|4=>4|0=>0|105=>121|21=>21|5=>5|46=>92|119=>182|139=>185|138=>184|146=>151|51=>150|n=>n,fun|1=>0|3=>1|4=>2|n=>n⟩
theorem Dsk.lays221:Go.Proofs.Lays.n221 Tryz.prog Dsk.lays221_ren:={
 mixed:=by kernel_rfl
 f138:=Tryz.func9.trans (congrArg some (by kernel_rfl))
 f143:=Tryz.func21.trans (congrArg some (by kernel_rfl))
 f195:=Tryz.func19.trans (congrArg some (by kernel_rfl))
 f197:=Tryz.func93.trans (congrArg some (by kernel_rfl))
 f217:=Tryz.func72.trans (congrArg some (by kernel_rfl))
 f218:=Tryz.func20.trans (congrArg some (by kernel_rfl))
 f219:=Tryz.func35.trans (congrArg some (by kernel_rfl))
 f221:=Tryz.func26.trans (congrArg some (by kernel_rfl))
 f224:=Tryz.func74.trans (congrArg some (by kernel_rfl))
 f225:=Tryz.func73.trans (congrArg some (by kernel_rfl))
 f260:=Tryz.func128.trans (congrArg some (by kernel_rfl))
 f266:=Tryz.func117.trans (congrArg some (by kernel_rfl))
 f267:=Tryz.func75.trans (congrArg some (by kernel_rfl))
 f268:=Tryz.func41.trans (congrArg some (by kernel_rfl))
 f314:=Tryz.func118.trans (congrArg some (by kernel_rfl))
 t0:=Tryz.underlying0
 a0:=Tryz.isAgg0
 z0:=Tryz.sizeOf0
 v0:=Tryz.zeroValue0
 t3:=Tryz.underlying3
 a3:=Tryz.isAgg3
 z3:=Tryz.sizeOf3
 v3:=Tryz.zeroValue3
 t4:=Tryz.underlying4
 a4:=Tryz.isAgg4
 z4:=Tryz.sizeOf4
 v4:=Tryz.zeroValue4
 t5:=Tryz.underlying5
 a5:=Tryz.isAgg5
 z5:=Tryz.sizeOf5
 v5:=Tryz.zeroValue5
 t9:=Tryz.underlying9
 a9:=Tryz.isAgg9
 z9:=Tryz.sizeOf9
 v9:=Tryz.zeroValue9
 t21:=Tryz.underlying21
 a21:=Tryz.isAgg21
 z21:=Tryz.sizeOf21
 v21:=Tryz.zeroValue21
 t31:=Tryz.underlying23
 a31:=Tryz.isAgg23
 z31:=Tryz.sizeOf23
 v31:=Tryz.zeroValue23
 t46:=Tryz.underlying92
 a46:=Tryz.isAgg92
 z46:=Tryz.sizeOf92
 v46:=Tryz.zeroValue92
 t51:=Tryz.underlying150
 a51:=Tryz.isAgg150
 z51:=Tryz.sizeOf150
 v51:=Tryz.zeroValue150
 t105:=Tryz.underlying121
 a105:=Tryz.isAgg121
 z105:=Tryz.sizeOf121
 v105:=Tryz.zeroValue121
 t119:=Tryz.underlying182
 a119:=Tryz.isAgg182
 z119:=Tryz.sizeOf182
 t138:=Tryz.underlying184
 a138:=Tryz.isAgg184
 z138:=Tryz.sizeOf184
 v138:=Tryz.zeroValue184
 t139:=Tryz.underlying185
 a139:=Tryz.isAgg185
 z139:=Tryz.sizeOf185
 v139:=Tryz.zeroValue185
 t146:=Tryz.underlying151
 a146:=Tryz.isAgg151
 z146:=Tryz.sizeOf151
 v146:=Tryz.zeroValue151
 g1:=by kernel_rfl
 g3:=by kernel_rfl
 g4:=by kernel_rfl }
open Go.RowKit Go.Lib in
theorem Dsk.strings_genSplit(s sep:ByteArray)(sv:Nat)(n:Int)(N:Nat)(m:Int)(w:World)(hs:s.size<4294967281)(hm:w.cell? ⟨0,0,none⟩=some (.int .i64 m))(h1:1<=sep.size)(hsv:sv<=sep.size)(hn0:n≠0)(hn63:n<=9223372036854775807)(hN:(N:Int)=min (if n<0 then (Lib.countB s sep:Int)+1 else n) ((s.size:Int)+1)) :
  Calls Tryz.prog 26 #[.string s,.string sep,.int .i64 sv,.int .i64 n] w λe w'=>
   e=.returned (.slice (some ⟨w.heap.size,0,none⟩) (Lib.splitB sep sv (N-1) s).length N)/\w'=w.alloc (.cells (Lib.cellsOf (Lib.splitB sep sv (N-1) s) N) 9):=Any.strings_genSplit Dsk.lays221 (by kernel_rfl) s sep sv n N m w hs hm h1 hsv hn0 hn63 hN
def Dsk.lays102_ren:Go.Shelf.Ren:=⟨fun|102=>14|209=>27|207=>42|n=>n,fun|9=>9|4=>4|3=>3|n=>n,fun|n=>n⟩
theorem Dsk.lays102:Go.Proofs.Lays.n102 Tryz.prog Dsk.lays102_ren:={
 mixed:=by kernel_rfl
 f102:=Tryz.func14.trans (congrArg some (by kernel_rfl))
 f207:=Tryz.func42.trans (congrArg some (by kernel_rfl))
 f209:=Tryz.func27.trans (congrArg some (by kernel_rfl))
 t3:=Tryz.underlying3
 a3:=Tryz.isAgg3
 z3:=Tryz.sizeOf3
 v3:=Tryz.zeroValue3
 t4:=Tryz.underlying4
 a4:=Tryz.isAgg4
 z4:=Tryz.sizeOf4
 v4:=Tryz.zeroValue4
 t9:=Tryz.underlying9
 a9:=Tryz.isAgg9
 z9:=Tryz.sizeOf9
 v9:=Tryz.zeroValue9 }
open Go.RowKit Go.Lib in
theorem Dsk.strings_TrimSuffix(s p:ByteArray)(w:World)(hs:s.size<=9223372036854775807) :
  Calls Tryz.prog 14 #[.string s,.string p] w λe w'=>e=.returned (.string ⟨(Lib.trimSuffix s.data.toList p.data.toList).toArray⟩)/\w'=w:=Any.strings_TrimSuffix Dsk.lays102 s p w hs
def Dsk.lays109_ren:Go.Shelf.Ren:=⟨fun|109=>37|n=>n,fun|31=>23|9=>9|3=>3|0=>0|4=>4|n=>n,fun|n=>n⟩
theorem Dsk.lays109:Go.Proofs.Lays.n109 Tryz.prog Dsk.lays109_ren:={
 mixed:=by kernel_rfl
 f109:=Tryz.func37.trans (congrArg some (by kernel_rfl))
 t0:=Tryz.underlying0
 a0:=Tryz.isAgg0
 z0:=Tryz.sizeOf0
 v0:=Tryz.zeroValue0
 t3:=Tryz.underlying3
 a3:=Tryz.isAgg3
 z3:=Tryz.sizeOf3
 v3:=Tryz.zeroValue3
 t4:=Tryz.underlying4
 a4:=Tryz.isAgg4
 z4:=Tryz.sizeOf4
 v4:=Tryz.zeroValue4
 t9:=Tryz.underlying9
 a9:=Tryz.isAgg9
 z9:=Tryz.sizeOf9
 v9:=Tryz.zeroValue9
 t31:=Tryz.underlying23
 a31:=Tryz.isAgg23
 z31:=Tryz.sizeOf23
 v31:=Tryz.zeroValue23 }
open Go.Lib in
theorem Dsk.slices_Index_string(b off n c:Nat)(zs:List ByteArray)(x:ByteArray)(w:World)(hz:n<=zs.length)(hbig:n<=9223372036854775807)(hc:∀j,j<zs.length->w.cell? ⟨b,off+j,none⟩=some (.string (zs.getD j ByteArray.empty))) :
  Calls Tryz.prog 37 #[.slice (some ⟨b,off,none⟩) n c,.string x] w λe w'=>e=.returned (.int .i64 (Lib.idxOfS (zs.take n) x))/\w'=w:=Any.slices_Index_string Dsk.lays109 b off n c zs x w hz hbig hc
def Txt.laysM171_ren:Go.Shelf.Ren:=⟨fun|171=>36|243=>76|246=>119|283=>144|284=>145|285=>146|286=>147|129=>155|317=>154|318=>156|319=>157|320=>158|337=>161|338=>162|n=>n,fun|3=>3|9=>9|2=>2|4=>4|171=>175|0=>0|53=>176|37=>33|5=>5|173=>179|212=>206|51=>150|20=>20|213=>207|46=>92|232=>225|233=>226|n=>n,fun|17=>3|18=>4|19=>5|n=>n⟩
theorem Txt.laysM171:Go.Proofs.LaysM.n171 Tryz.prog Txt.laysM171_ren:={
 mixed:=by kernel_rfl
 f129:=Tryz.func155.trans (congrArg some (by kernel_rfl))
 f171:=Tryz.func36.trans (congrArg some (by kernel_rfl))
 f243:=Tryz.func76.trans (congrArg some (by kernel_rfl))
 f246:=Tryz.func119.trans (congrArg some (by kernel_rfl))
 f283:=Tryz.func144.trans (congrArg some (by kernel_rfl))
 f284:=Tryz.func145.trans (congrArg some (by kernel_rfl))
 f285:=Tryz.func146.trans (congrArg some (by kernel_rfl))
 f286:=Tryz.func147.trans (congrArg some (by kernel_rfl))
 f317:=Tryz.func154.trans (congrArg some (by kernel_rfl))
 f318:=Tryz.func156.trans (congrArg some (by kernel_rfl))
 f319:=Tryz.func157.trans (congrArg some (by kernel_rfl))
 f320:=Tryz.func158.trans (congrArg some (by kernel_rfl))
 f337:=Tryz.func161.trans (congrArg some (by kernel_rfl))
 f338:=Tryz.func162.trans (congrArg some (by kernel_rfl))
 t0:=Tryz.underlying0
 a0:=Tryz.isAgg0
 z0:=Tryz.sizeOf0
 v0:=Tryz.zeroValue0
 t2:=Tryz.underlying2
 a2:=Tryz.isAgg2
 z2:=Tryz.sizeOf2
 v2:=Tryz.zeroValue2
 t3:=Tryz.underlying3
 a3:=Tryz.isAgg3
 z3:=Tryz.sizeOf3
 v3:=Tryz.zeroValue3
 t4:=Tryz.underlying4
 a4:=Tryz.isAgg4
 z4:=Tryz.sizeOf4
 v4:=Tryz.zeroValue4
 t5:=Tryz.underlying5
 a5:=Tryz.isAgg5
 z5:=Tryz.sizeOf5
 v5:=Tryz.zeroValue5
 t9:=Tryz.underlying9
 a9:=Tryz.isAgg9
 z9:=Tryz.sizeOf9
 v9:=Tryz.zeroValue9
 t20:=Tryz.underlying20
 a20:=Tryz.isAgg20
 z20:=Tryz.sizeOf20
 v20:=Tryz.zeroValue20
 t37:=Tryz.underlying33
 a37:=Tryz.isAgg33
 z37:=Tryz.sizeOf33
 v37:=Tryz.zeroValue33
 t46:=Tryz.underlying92
 a46:=Tryz.isAgg92
 z46:=Tryz.sizeOf92
 v46:=Tryz.zeroValue92
 t51:=Tryz.underlying150
 a51:=Tryz.isAgg150
 z51:=Tryz.sizeOf150
 v51:=Tryz.zeroValue150
 t53:=Tryz.underlying176
 a53:=Tryz.isAgg176
 z53:=Tryz.sizeOf176
 v53:=Tryz.zeroValue176
 t171:=Tryz.underlying175
 a171:=Tryz.isAgg175
 z171:=Tryz.sizeOf175
 v171:=Tryz.zeroValue175
 t173:=Tryz.underlying179
 a173:=Tryz.isAgg179
 z173:=Tryz.sizeOf179
 v173:=Tryz.zeroValue179
 t212:=Tryz.underlying206
 a212:=Tryz.isAgg206
 z212:=Tryz.sizeOf206
 v212:=Tryz.zeroValue206
 t213:=Tryz.underlying207
 a213:=Tryz.isAgg207
 z213:=Tryz.sizeOf207
 t232:=Tryz.underlying225
 a232:=Tryz.isAgg225
 z232:=Tryz.sizeOf225
 v232:=Tryz.zeroValue225
 t233:=Tryz.underlying226
 a233:=Tryz.isAgg226
 z233:=Tryz.sizeOf226
 v233:=Tryz.zeroValue226
 g17:=by kernel_rfl
 g18:=by kernel_rfl
 g19:=by kernel_rfl
 i0:=by kernel_rfl
 i2:=by kernel_rfl
 i3:=by kernel_rfl
 i4:=by kernel_rfl
 i5:=by kernel_rfl
 i9:=by kernel_rfl
 i20:=by kernel_rfl
 i37:=by kernel_rfl
 i46:=by kernel_rfl
 i51:=by kernel_rfl
 i53:=by kernel_rfl
 i171:=by kernel_rfl
 i173:=by kernel_rfl
 i212:=by kernel_rfl
 i232:=by kernel_rfl
 i233:=by kernel_rfl
 m17:=by kernel_rfl
 m18:=by kernel_rfl
 m19:=by kernel_rfl }
open Go.RowKit Go.Sort Go.Lib in
theorem Txt.strconv_Itoa(n : Int)(h0 : -9223372036854775808 ≤ n)(h1 : n ≤ 9223372036854775807)(w : World)(htab : Lib.TabIs Tryz.prog w "internal/strconv.uint64pow10" .u64 Lib.pow10Tab) :
  Calls Tryz.prog 36 #[.int .i64 n] w λe w'=>e=.returned (.string ⟨(Lib.itoa n).toArray⟩)/\∃k os,w'=grow (w.drewN k) os:=Any.strconv_Itoa Txt.laysM171 n h0 h1 w htab
def Txt.lays145_ren:Go.Shelf.Ren:=⟨fun|145=>95|220=>130|219=>35|217=>72|225=>73|224=>74|267=>75|266=>117|314=>118|n=>n,fun|9=>9|4=>4|59=>124|3=>3|5=>5|46=>92|146=>151|51=>150|n=>n,fun|1=>0|n=>n⟩
theorem Txt.lays145:Go.Proofs.Lays.n145 Tryz.prog Txt.lays145_ren:={
 mixed:=by kernel_rfl
 f145:=Tryz.func95.trans (congrArg some (by kernel_rfl))
 f217:=Tryz.func72.trans (congrArg some (by kernel_rfl))
 f219:=Tryz.func35.trans (congrArg some (by kernel_rfl))
 f220:=Tryz.func130.trans (congrArg some (by kernel_rfl))
 f224:=Tryz.func74.trans (congrArg some (by kernel_rfl))
 f225:=Tryz.func73.trans (congrArg some (by kernel_rfl))
 f266:=Tryz.func117.trans (congrArg some (by kernel_rfl))
 f267:=Tryz.func75.trans (congrArg some (by kernel_rfl))
 f314:=Tryz.func118.trans (congrArg some (by kernel_rfl))
 t3:=Tryz.underlying3
 a3:=Tryz.isAgg3
 z3:=Tryz.sizeOf3
 v3:=Tryz.zeroValue3
 t4:=Tryz.underlying4
 a4:=Tryz.isAgg4
 z4:=Tryz.sizeOf4
 v4:=Tryz.zeroValue4
 t5:=Tryz.underlying5
 a5:=Tryz.isAgg5
 z5:=Tryz.sizeOf5
 v5:=Tryz.zeroValue5
 t9:=Tryz.underlying9
 a9:=Tryz.isAgg9
 z9:=Tryz.sizeOf9
 v9:=Tryz.zeroValue9
 t46:=Tryz.underlying92
 a46:=Tryz.isAgg92
 z46:=Tryz.sizeOf92
 v46:=Tryz.zeroValue92
 t51:=Tryz.underlying150
 a51:=Tryz.isAgg150
 z51:=Tryz.sizeOf150
 v51:=Tryz.zeroValue150
 t59:=Tryz.underlying124
 a59:=Tryz.isAgg124
 z59:=Tryz.sizeOf124
 v59:=Tryz.zeroValue124
 t146:=Tryz.underlying151
 a146:=Tryz.isAgg151
 z146:=Tryz.sizeOf151
 v146:=Tryz.zeroValue151
 g1:=by kernel_rfl }
open Go.RowKit Go.Lib in
theorem Txt.strings_Cut(s sep:ByteArray)(m:Int)(w:World)(hs:s.size<4294967281)(hm:w.cell? ⟨0,0,none⟩=some (.int .i64 m)) :
  Calls Tryz.prog 95 #[.string s,.string sep] w λe w'=>e=.returned (.tuple #[.string ⟨(Lib.cut s.data.toList sep.data.toList).1.toArray⟩,.string ⟨(Lib.cut s.data.toList sep.data.toList).2.1.toArray⟩,.bool (Lib.cut s.data.toList sep.data.toList).2.2])/\∃n,w'=w.drewN n:=Any.strings_Cut Txt.lays145 s sep m w hs hm
def Txt.lays146_ren:Go.Shelf.Ren:=⟨fun|146=>13|221=>26|268=>41|138=>9|143=>21|195=>19|197=>93|218=>20|219=>35|260=>128|217=>72|225=>73|224=>74|267=>75|266=>117|314=>118|n=>n,fun|9=>9|31=>23|3=>3|4=>4|0=>0|105=>121|21=>21|5=>5|46=>92|119=>182|139=>185|138=>184|146=>151|51=>150|n=>n,fun|1=>0|3=>1|4=>2|n=>n⟩
theorem Txt.lays146:Go.Proofs.Lays.n146 Tryz.prog Txt.lays146_ren:={
 mixed:=by kernel_rfl
 f138:=Tryz.func9.trans (congrArg some (by kernel_rfl))
 f143:=Tryz.func21.trans (congrArg some (by kernel_rfl))
 f146:=Tryz.func13.trans (congrArg some (by kernel_rfl))
 f195:=Tryz.func19.trans (congrArg some (by kernel_rfl))
 f197:=Tryz.func93.trans (congrArg some (by kernel_rfl))
 f217:=Tryz.func72.trans (congrArg some (by kernel_rfl))
 f218:=Tryz.func20.trans (congrArg some (by kernel_rfl))
 f219:=Tryz.func35.trans (congrArg some (by kernel_rfl))
 f221:=Tryz.func26.trans (congrArg some (by kernel_rfl))
 f224:=Tryz.func74.trans (congrArg some (by kernel_rfl))
 f225:=Tryz.func73.trans (congrArg some (by kernel_rfl))
 f260:=Tryz.func128.trans (congrArg some (by kernel_rfl))
 f266:=Tryz.func117.trans (congrArg some (by kernel_rfl))
 f267:=Tryz.func75.trans (congrArg some (by kernel_rfl))
 f268:=Tryz.func41.trans (congrArg some (by kernel_rfl))
 f314:=Tryz.func118.trans (congrArg some (by kernel_rfl))
 t0:=Tryz.underlying0
 a0:=Tryz.isAgg0
 z0:=Tryz.sizeOf0
 v0:=Tryz.zeroValue0
 t3:=Tryz.underlying3
 a3:=Tryz.isAgg3
 z3:=Tryz.sizeOf3
 v3:=Tryz.zeroValue3
 t4:=Tryz.underlying4
 a4:=Tryz.isAgg4
 z4:=Tryz.sizeOf4
 v4:=Tryz.zeroValue4
 t5:=Tryz.underlying5
 a5:=Tryz.isAgg5
 z5:=Tryz.sizeOf5
 v5:=Tryz.zeroValue5
 t9:=Tryz.underlying9
 a9:=Tryz.isAgg9
 z9:=Tryz.sizeOf9
 v9:=Tryz.zeroValue9
 t21:=Tryz.underlying21
 a21:=Tryz.isAgg21
 z21:=Tryz.sizeOf21
 v21:=Tryz.zeroValue21
 t31:=Tryz.underlying23
 a31:=Tryz.isAgg23
 z31:=Tryz.sizeOf23
 v31:=Tryz.zeroValue23
 t46:=Tryz.underlying92
 a46:=Tryz.isAgg92
 z46:=Tryz.sizeOf92
 v46:=Tryz.zeroValue92
 t51:=Tryz.underlying150
 a51:=Tryz.isAgg150
 z51:=Tryz.sizeOf150
 v51:=Tryz.zeroValue150
 t105:=Tryz.underlying121
 a105:=Tryz.isAgg121
 z105:=Tryz.sizeOf121
 v105:=Tryz.zeroValue121
 t119:=Tryz.underlying182
 a119:=Tryz.isAgg182
 z119:=Tryz.sizeOf182
 t138:=Tryz.underlying184
 a138:=Tryz.isAgg184
 z138:=Tryz.sizeOf184
 v138:=Tryz.zeroValue184
 t139:=Tryz.underlying185
 a139:=Tryz.isAgg185
 z139:=Tryz.sizeOf185
 v139:=Tryz.zeroValue185
 t146:=Tryz.underlying151
 a146:=Tryz.isAgg151
 z146:=Tryz.sizeOf151
 v146:=Tryz.zeroValue151
 g1:=by kernel_rfl
 g3:=by kernel_rfl
 g4:=by kernel_rfl }
open Go.RowKit Go.Lib in
theorem Txt.strings_Split(s sep:ByteArray)(m:Int)(w:World)(hs:s.size<4294967281)(hm:w.cell? ⟨0,0,none⟩=some (.int .i64 m))(h1:1<=sep.size) :
  Calls Tryz.prog 13 #[.string s,.string sep] w λe w'=>
   e=.returned (.slice (some ⟨w.heap.size,0,none⟩) (Lib.countB s sep+1) (Lib.countB s sep+1))/\w'=w.alloc (.cells ((Lib.splitB sep 0 (Lib.countB s sep) s).map Value.string).toArray 9):=Any.strings_Split Txt.lays146 (by kernel_rfl) s sep m w hs hm h1
def Txt.lays169_ren:Go.Shelf.Ren:=⟨fun|169=>17|n=>n,fun|70=>32|9=>9|0=>0|72=>35|37=>33|127=>59|3=>3|5=>5|n=>n,fun|n=>n⟩
theorem Txt.lays169:Go.Proofs.Lays.n169 Tryz.prog Txt.lays169_ren:={
 mixed:=by kernel_rfl
 f169:=Tryz.func17.trans (congrArg some (by kernel_rfl))
 t0:=Tryz.underlying0
 a0:=Tryz.isAgg0
 z0:=Tryz.sizeOf0
 v0:=Tryz.zeroValue0
 t3:=Tryz.underlying3
 a3:=Tryz.isAgg3
 z3:=Tryz.sizeOf3
 v3:=Tryz.zeroValue3
 t9:=Tryz.underlying9
 a9:=Tryz.isAgg9
 z9:=Tryz.sizeOf9
 v9:=Tryz.zeroValue9
 t37:=Tryz.underlying33
 a37:=Tryz.isAgg33
 z37:=Tryz.sizeOf33
 v37:=Tryz.zeroValue33
 t70:=Tryz.underlying32
 a70:=Tryz.isAgg32
 z70:=Tryz.sizeOf32
 v70:=Tryz.zeroValue32
 t72:=Tryz.underlying35
 a72:=Tryz.isAgg35
 z72:=Tryz.sizeOf35
 v72:=Tryz.zeroValue35
 t127:=Tryz.underlying59
 a127:=Tryz.isAgg59
 z127:=Tryz.sizeOf59
 v127:=Tryz.zeroValue59 }
theorem Txt.Builder_Extra_169:Builder.Extra Tryz.prog Txt.lays169_ren:={
 sizeBuilder:=by kernel_rfl
 liesBuilder:=by kernel_rfl
 t5:=Tryz.underlying5
 a5:=Tryz.isAgg5
 z5:=Tryz.sizeOf5
 v5:=Tryz.zeroValue5
 infoByte:=by kernel_rfl
 cellsByte:=by kernel_rfl
 sizeByte:=by kernel_rfl
 neB5:=by decide }
open Go.RowKit in
theorem Txt.Builder_String_any_k(B b:Nat)(l:List UInt8)(w:World)(h:Lib.IsBuilderF 35 5 B b (Lib.byteCells l) w)(hBw:B<=w.heap.size) :
  Calls Tryz.prog 17 #[.pointer (some ⟨b,0,none⟩)] w λe w'=>e=.returned (.string ⟨l.toArray⟩)/\(Lib.IsBuilderF 35 5 B b (Lib.byteCells l) w'/\Below B w w'/\Lib.OthersKept 5 (some b) w w'):=Any.Builder_String_any_k Txt.lays169 Txt.Builder_Extra_169 B b l w h hBw
open Go.RowKit Go.Shelf
def ITab(w : World) : Prop := Lib.TabIs Tryz.prog w "internal/strconv.uint64pow10" .u64 Lib.pow10Tab
theorem Rf : ∃ g, Tryz.prog.globalNamed "internal/strconv.uint64pow10" = some g := ⟨3, by kernel_rfl⟩
theorem ITab.ext{w A:World}(h:ITab w)(B:Below w.heap.size w A):ITab A:=by
 obtain⟨g,C⟩:=Rf;exact Go.Joins.tab_stays C h B (Nat.le_refl _)
abbrev bs(l:List UInt8):ByteArray:=⟨l.toArray⟩
theorem Zx(a b:List UInt8):bs a++bs b=bs (a++b):=by unfold bs;rw[ByteArray.mk_append_mk]
theorem wO(n:Int)(hn:zM n)(w:World)(ht:ITab w):Calls Tryz.prog 36 #[.int .i64 n] w λe w'=>e=.returned (.string (bs (Lib.itoa n)))/\Below w.heap.size w w':=
 (Txt.strconv_Itoa n hn.1 hn.2 w ht).mono λe w' ⟨h1,k,os,h2⟩=>⟨h1,by rw[h2];exact Lib.below_grow _ w (Nat.le_refl _) k os⟩
set_option maxHeartbeats 2000000
open Go.RowKit
theorem xT(l:List UInt8):(bs l).size=l.length:=by simp[ByteArray.size]
theorem UL{l:List UInt8}{k:Nat}{b:UInt8}(h:l[k]?=some b):yl (bs l) k=b.toNat:=by
 have A:=zy h;rw[rf (by rw[xT];exact A)];obtain⟨_,rfl⟩:=List.getElem?_eq_some_iff.1 h;rfl
theorem fi{b:UInt8}(h:48<=b.toNat/\b.toNat<=57):vC b=true:=by simpa[vC]using h
theorem jI{b:UInt8}(h:¬(48<=b.toNat/\b.toNat<=57)):vC b=false:=by simp only[vC,decide_eq_false_iff_not];exact h
theorem YA{l:List UInt8}{k:Nat}{b:UInt8}(A:l[k]?=some b)(h:(l.take k).all vC=true)(B:vC b=true):(l.take (k+1)).all vC=true:=by
 rw[List.take_add_one,A,List.all_append,h];simp[B]
theorem UC{l:List UInt8}{k:Nat}{b:UInt8}(A:l[k]?=some b)(B:vC b=false):l.all vC=false:=by
 rw[List.all_eq_false];exact⟨b,List.mem_of_getElem? A,by simp[B]⟩
theorem ck{l:List UInt8}{k:Nat}{b:UInt8}(A:l[k]?=some b):vU (l.take (k+1))=10*vU (l.take k)+(b.toNat-48):=by
 have e:l.take (k+1)=l.take k++[b]:=by rw[List.take_add_one,A];rfl
 rw[e,VZ]
theorem Wb{l:List UInt8}{k:Nat}(h:(l.take k).all vC=true)(C:k<=4):vU (l.take k)<10000:=by
 have A:=cj _ h;have B:10 ^ (l.take k).length<=10 ^ 4:=Nat.pow_le_pow_right (by decide) (by rw[List.length_take];omega);omega
theorem fQ(l:List UInt8)(w:World)(g:l.length<=9223372036854775807):Calls Tryz.prog 70 #[.string (bs l)] w λe Q=>e=.returned (.int .i64 (yL l))/\Below w.heap.size w Q:=by
 obtain⟨s,P⟩:∃s,bs l=s:=⟨_,rfl⟩;have F:s.size=l.length:=by rw[<-P,xT]
 have U:Hid (∀k b,l[k]?=some b->yl s k=b.toNat):=zc λk b h=>by rw[<-P];exact UL h
 rw[P];have j:s.size<=9223372036854775807:=by omega
 clear P
 by_cases W:1<=s.size/\s.size<=4
 case neg=>
  have G:Hid (yL l=-1):=zc (eo λh=>W (by rw[F];exact⟨h.1,h.2.1⟩));rw[G.out];clear F
  go_enter Tryz.func70,Tryz.ntmps70
  go_wp2_with (go_at_call 115;refine(nd _ _ _ _ (by omega)).mono ?_;rintro e Q ⟨rfl,rfl⟩);go_ret;exact⟨rfl,by go_grown⟩
 obtain⟨N,D⟩:=zl (show 0<l.length by omega);have A:=U.out 0 N D;have Y:0<s.size:=by omega
 have c:((s[0]'Y).toNat)=yl s 0:=(rf Y).symm
 by_cases I:N=48/\1<l.length
 case pos=>
  have G:Hid (yL l=-1):=zc (eo λh=>h.2.2 ⟨by rw[D,I.1],I.2⟩);rw[G.out];have T:((yl s 0:Int)== 48)=true:=by rw[A,I.1];rfl
  have Z:decide ((s.size:Int)>1)=true:=by simp;omega
  clear F I D A
  go_enter Tryz.func70,Tryz.ntmps70
  go_wp2_with (go_at_call 115;refine(ug _ _ _ _ (by omega)).mono ?_;rintro e Q ⟨rfl,rfl⟩);go_ret;exact⟨rfl,by go_grown⟩
 have a:Hid (1<=l.length/\l.length<=4/\¬(l[0]?=some 48/\1<l.length)):=zc ⟨by omega,by omega,λh=>I ⟨by rw[D]at h;exact Option.some.inj h.1,h.2⟩⟩;have p:s.size<=4:=W.2;have m:(((yl s 0:Int)== 48)=true/\decide ((s.size:Int)>1)=false)∨((yl s 0:Int)== 48)=false:=by
  by_cases J:N=48
  ·left
   refine⟨by rw[A,J];rfl,?_⟩;simp;have:¬1<l.length:=λh=>I ⟨J,h⟩;omega
  right
  have:N.toNat≠48:=λh=>J (by apply UInt8.toNat_inj.1;rw[h];rfl);rw[A];simp;omega
 have H:=zc F;clear I D A F g;rcases m with⟨T,Z⟩|T
 all_goals
  go_enter Tryz.func70,Tryz.ntmps70
  go_wp2_with (go_at_call 115;refine(ug _ _ _ _ (by omega)).mono ?_;rintro e Q ⟨rfl,rfl⟩)
  go_loopw [3,21] (λn i wr=>∃k:Nat,k<=s.size/\i=.int .i64 k/\n=.int .i64 (vU (l.take k):Nat)/\Hid ((l.take k).all vC=true)/\Below w.heap.size w wr) (λ_ i _=>s.size-(intOf i).toNat)
  case atStart=>exact⟨0,Nat.zero_le _,rfl,rfl,zc rfl,Below.refl _ _⟩
  obtain⟨k,q,rfl,rfl,M,J⟩:=hrel;have X:=Wb M.out (by omega);clear T c
  try clear Z
  by_cases K:k<s.size
  case neg=>
   obtain rfl:k=s.size:=by omega
   have G:Hid (yL l=(vU (l.take s.size):Int)):=zc (by
    rw[H.out,List.take_length];refine UW a.out ?_;have:=M.out
    rwa[H.out,List.take_length]at this)
   obtain⟨r,E⟩:∃r,vU (l.take s.size)=r:=⟨_,rfl⟩;rw[E]at X G⊢;clear E;go_wp2_with fail;go_ret;exact⟨by rw[G.out];rfl,J⟩
  obtain⟨b,C⟩:=zl (show k<l.length by rw[<-H.out];exact K);have B:=U.out k b C;have o:((s[k]'K).toNat)=yl s k:=(rf K).symm;have f:=lF s k
  by_cases L:48<=b.toNat/\b.toNat<=57
  case neg=>
   have G:Hid (yL l=-1):=zc (XN (UC C (jI L)));have O:decide ((yl s k:Int)<48)=true∨(decide ((yl s k:Int)<48)=false/\decide ((yl s k:Int)>57)=true):=by
    rw[B];simp;omega
   clear L C B;rcases O with O|⟨O,S⟩
   all_goals
    go_wp2_with fail;go_ret;exact⟨by rw[G.out];rfl,J⟩
  have O:decide ((yl s k:Int)<48)=false:=by rw[B];simp;omega
  have S:decide ((yl s k:Int)>57)=false:=by rw[B];simp;omega
  have V:Hid ((vU (l.take (k+1)):Int)=10*(vU (l.take k):Int)+((yl s k:Int)-48)):=zc (by rw[ck C,B];omega);have R:=zc (YA C M.out (fi L));have d:48<=yl s k/\yl s k<=57:=by rw[B];exact L
  clear L C B M;obtain⟨r,E⟩:∃r,vU (l.take k)=r:=⟨_,rfl⟩;rw[E]at X V⊢;clear E;go_wp2_with fail;go_roundw
  case rel=>exact⟨k+1,by omega,by go_num,by rw[V.out],R,J⟩
  case measure=>simp[intOf];omega
theorem Va(l:List UInt8)(w:World)(c:l.length<=9223372036854775807):Calls Tryz.prog 77 #[.string (bs l)] w λe P=>e=.returned (.int .i64 (yL l))/\Below w.heap.size w P:=by
 obtain⟨s,S⟩:∃s,bs l=s:=⟨_,rfl⟩;have B:Hid (s.size=l.length):=zc (by rw[<-S,xT]);have Y:Hid (∀k b,l[k]?=some b->yl s k=b.toNat):=zc λk b h=>by rw[<-S];exact UL h
 rw[S];have t:s.size<=9223372036854775807:=by rw[B.out];exact c
 clear S c
 go_enter Tryz.func77,Tryz.ntmps77
 go_wp2_with fail
 go_loopw [3,4] (λn i wr=>∃k:Nat,k<=s.size/\k<=5/\i=.int .i64 k/\n=.int .i64 (vU (l.take k):Nat)/\Hid ((l.take k).all vC=true)/\Below w.heap.size w wr) (λ_ i _=>5-(intOf i).toNat)
 case atStart=>exact⟨0,Nat.zero_le _,by omega,rfl,rfl,zc rfl,Below.refl _ _⟩
 obtain⟨k,z,p,rfl,rfl,Q,J⟩:=hrel;have N:vU (l.take k)<100000:=by
  have a:=cj _ Q.out;have I:10 ^ (l.take k).length<=10 ^ 5:=Nat.pow_le_pow_right (by decide) (by rw[List.length_take];omega);omega
 by_cases C:k<s.size/\k<5
 case neg=>
  by_cases a:1<=s.size/\s.size<=4
  case neg=>
   have H:Hid (yL l=-1):=zc (eo λh=>a (by rw[B.out];exact⟨h.1,h.2.1⟩));have L:Hid (vQ (s.size:Int) 1 4=false):=zc (nI (by omega));obtain⟨r,A⟩:∃r,vU (l.take k)=r:=⟨_,rfl⟩;rw[A]at N⊢;clear A
   by_cases W:k<s.size
   ·have X:¬k<5:=λh=>C ⟨W,h⟩
    have K:decide ((k:Int)<5)=false:=by simp;omega
    clear C X;go_wp2_with (go_at_call 82;refine(xh _ _ _ _).mono ?_;rw[L.out];rintro e P ⟨rfl,rfl⟩);go_ret;exact⟨by rw[H.out];rfl,J⟩
   clear C;go_wp2_with (go_at_call 82;refine(xh _ _ _ _).mono ?_;rw[L.out];rintro e P ⟨rfl,rfl⟩);go_ret;exact⟨by rw[H.out];rfl,J⟩
  obtain rfl:k=s.size:=by omega
  have L:Hid (vQ (s.size:Int) 1 4=true):=zc (lN (by omega));have g:Hid (l.all vC=true):=zc (by have:=Q.out;rwa[B.out,List.take_length]at this);have O:vU (l.take s.size)=vU l:=by rw[B.out,List.take_length]
  rw[O]at N⊢;clear O;obtain⟨U,G⟩:=zl (show 0<l.length by rw[<-B.out];omega);have E:=Y.out 0 U G;have d:0<s.size:=by omega
  have x:((s[0]'d).toNat)=yl s 0:=(rf d).symm
  by_cases I:U=48/\1<l.length
  case pos=>
   have H:Hid (yL l=-1):=zc (eo λh=>h.2.2 ⟨by rw[G,I.1],I.2⟩);have v:((yl s 0:Int)== 48)=true:=by rw[E,I.1];rfl
   have f:decide ((s.size:Int)>1)=true:=by have:=I.2;rw[<-B.out]at this;simp;omega
   obtain⟨r,A⟩:∃r,vU l=r:=⟨_,rfl⟩;rw[A]at N⊢;clear A I G E C;go_wp2_with (go_at_call 82;refine(xh _ _ _ _).mono ?_;rw[L.out];rintro e P ⟨rfl,rfl⟩);go_ret;exact⟨by rw[H.out];rfl,J⟩
  have H:Hid (yL l=(vU l:Int)):=zc (UW ⟨by rw[<-B.out];omega,by rw[<-B.out];omega,λh=>I ⟨by rw[G]at h;exact Option.some.inj h.1,h.2⟩⟩ g.out);have u:(decide ((s.size:Int)>1)=true/\((yl s 0:Int)== 48)=false)∨decide ((s.size:Int)>1)=false:=by
   by_cases J:1<s.size
   ·left
    refine⟨by simp;omega,?_⟩;have:U.toNat≠48:=λh=>I ⟨by apply UInt8.toNat_inj.1;rw[h];rfl,by rw[<-B.out];exact J⟩;rw[E];simp;omega
   right
   simp;omega
  obtain⟨r,A⟩:∃r,vU l=r:=⟨_,rfl⟩;rw[A]at N H⊢;clear A I G E C;rcases u with⟨f,v⟩|f
  all_goals
   go_wp2_with (go_at_call 82;refine(xh _ _ _ _).mono ?_;rw[L.out];rintro e P ⟨rfl,rfl⟩);go_ret;exact⟨by rw[H.out];rfl,J⟩
 obtain⟨b,F⟩:=zl (show k<l.length by rw[<-B.out];exact C.1);have D:=Y.out k b F;have M:=C.1;have q:k<5:=C.2;have o:decide ((k:Int)<5)=true:=by simp;omega
 have y:((s[k]'M).toNat)=yl s k:=(rf M).symm;have m:=lF s k
 by_cases K:48<=b.toNat/\b.toNat<=57
 case neg=>
  have H:Hid (yL l=-1):=zc (XN (UC F (jI K)));have R:decide ((yl s k:Int)<48)=true∨(decide ((yl s k:Int)<48)=false/\decide ((yl s k:Int)>57)=true):=by
   rw[D];simp;omega
  clear K F D C;rcases R with R|⟨R,V⟩
  all_goals
   go_wp2_with fail;go_ret;exact⟨by rw[H.out];rfl,J⟩
 have R:decide ((yl s k:Int)<48)=false:=by rw[D];simp;omega
 have V:decide ((yl s k:Int)>57)=false:=by rw[D];simp;omega
 have Z:Hid ((vU (l.take (k+1)):Int)=(vU (l.take k):Int)*10+(yl s k:Int)-48):=zc (by rw[ck F,D];omega);have T:=zc (YA F Q.out (fi K));have j:48<=yl s k/\yl s k<=57:=by rw[D];exact K
 clear K F D Q C;obtain⟨r,A⟩:∃r,vU (l.take k)=r:=⟨_,rfl⟩;rw[A]at N Z⊢;clear A;go_wp2_with fail;go_roundw
 case rel=>exact⟨k+1,by omega,by omega,by go_num,by rw[Z.out],T,J⟩
 case measure=>simp[intOf];omega
end Go.Proofs.YtjcimdpldlamfaaGreatDoor
