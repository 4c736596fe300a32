/-
  WHAT IS PROVED HERE: 28 texts joined, each with its own head: what the walks of the program give. Conditions: each at its place.
-/
import Derived.Test.YtdkkhmjlamkgdaaGreatDoorBq1
import Derived.Ground.Names2Prog
import Derived.Ground.SlgmProg
import Derived.Test.YtdkkhmjlamkgdaaGreatDoorProg
import Derived.Shelf.Strings.Builder1
import Derived.Shelf.Strings.Builder2
import Derived.Shelf.Strings.OnBuilder
import Derived.Shelf.Strings.Trim
import Derived.Shelf.Strings.BuilderK
import Derived.Shelf.Strconv.Itoa3
import Derived.Shelf.Slices.Turned
import Derived.Shelf.Slices.Equal
import Derived.Shelf.Slices.Empties2
import Derived.Shelf.SlGeneric
import Derived.Shelf.SlIterI.Nil
import Derived.Shelf.SlIter.Nil
import Derived.Shelf.SortM.Plain
import Derived.Shelf.SortM.SortNone
import Derived.Shelf.Spec.SlicesInsert
import Derived.Shelf.Spec.SlicesInsertGrow
import Derived.Ground.GgzProg
import Derived.Lib.SlKeysI
import Derived.Deep.Cut
import Derived.ControlIn
import Derived.Scope
import Derived.RangeFuncNested
import Derived.RangeFuncBound
import Derived.RangeFuncCalls
import Derived.RangeFuncLeaves
import Derived.Shelf.Abstract
import Derived.Shelf.RegionOpen
import Derived.OwnWalkIn
import Derived.TacticsInMore
import Derived.LoopNIn
import Derived.LoopIn
import Derived.RangeFuncBox
import Derived.Maps.AppendAt
import Derived.Lib.Join
import Derived.StillTailTactics
import Derived.RangeFuncWrites
namespace Go.Proofs
open Go.Shelf
def Tryz.sortedA_ren:Go.Shelf.Ren:=⟨fun | 6=>76 | 8=>110 | 9=>111 | 11=>126 | 13=>128 | 12=>127 | 23=>164 | 24=>165 | 14=>155 | 15=>156 | 16=>157 | 17=>158 | 18=>159 | 19=>160 | 20=>161 | 21=>162 | 22=>163 | 25=>195 | 26=>196 | 27=>197 | 28=>198 | 29=>199 | 30=>200 | 31=>217 | n=>n,fun | 26=>3 | 28=>131 | 24=>46 | 0=>0 | 3=>3 | 37=>175 | 48=>210 | 50=>191 | 4=>4 | 40=>203 | 39=>202 | 45=>207 | 5=>5 | 9=>9 | 51=>234 | 55=>238 | 57=>248 | 58=>249 | 33=>159 | n=>n,fun | n=>n⟩
theorem Tryz.sortedA:Go.Proofs.SlLaysZI.n6 Tryz.prog Tryz.sortedA_ren:={
 mixed:=by kernel_rfl
 f6:=⟨Tryz.f76.name,by decide,Tryz.func76.trans (congrArg some (by kernel_rfl))⟩
 f8:=⟨Tryz.f110.name,by decide,Tryz.func110.trans (congrArg some (by kernel_rfl))⟩
 f11:=⟨Tryz.f126.name,by decide,Tryz.func126.trans (congrArg some (by kernel_rfl))⟩
 t0:=Tryz.underlying0
 a0:=Tryz.isAgg0
 z0:=Tryz.sizeOf0
 v0:=Tryz.zeroValue0
 t24:=Tryz.underlying46
 a24:=Tryz.isAgg46
 z24:=Tryz.sizeOf46
 v24:=Tryz.zeroValue46
 t26:=Tryz.underlying3
 a26:=Tryz.isAgg3
 z26:=Tryz.sizeOf3
 v26:=Tryz.zeroValue3
 t28:=Tryz.underlying131
 a28:=Tryz.isAgg131
 z28:=Tryz.sizeOf131
 v28:=Tryz.zeroValue131
 i26:=by kernel_rfl }
def Tryz.sortA_ren:Go.Shelf.Ren:=⟨fun | 5=>111 | 8=>128 | 7=>127 | 19=>164 | 20=>165 | 10=>155 | 11=>156 | 12=>157 | 13=>158 | 14=>159 | 15=>160 | 16=>161 | 17=>162 | 18=>163 | 30=>195 | 31=>196 | 32=>197 | 33=>198 | 34=>199 | 35=>200 | 40=>217 | n=>n,fun | 23=>46 | 25=>3 | 3=>3 | 32=>175 | 22=>46 | 0=>0 | 44=>210 | 46=>191 | 4=>4 | 36=>203 | 35=>202 | 41=>207 | 5=>5 | 9=>9 | 53=>234 | 57=>238 | 63=>248 | 64=>249 | n=>n,fun | n=>n⟩
theorem Tryz.sortA:Go.Proofs.SlLaysM.n5 Tryz.prog Tryz.sortA_ren:={
 mixed:=by kernel_rfl
 f5:=⟨Tryz.f111.name,by decide,Tryz.func111.trans (congrArg some (by kernel_rfl))⟩
 f7:=⟨Tryz.f127.name,by decide,Tryz.func127.trans (congrArg some (by kernel_rfl))⟩
 f8:=Tryz.func128.trans (congrArg some (by kernel_rfl))
 f10:=⟨Tryz.f155.name,by decide,Tryz.func155.trans (congrArg some (by kernel_rfl))⟩
 f11:=⟨Tryz.f156.name,by decide,Tryz.func156.trans (congrArg some (by kernel_rfl))⟩
 f12:=⟨Tryz.f157.name,by decide,Tryz.func157.trans (congrArg some (by kernel_rfl))⟩
 f13:=⟨Tryz.f158.name,by decide,Tryz.func158.trans (congrArg some (by kernel_rfl))⟩
 f14:=⟨Tryz.f159.name,by decide,Tryz.func159.trans (congrArg some (by kernel_rfl))⟩
 f15:=⟨Tryz.f160.name,by decide,Tryz.func160.trans (congrArg some (by kernel_rfl))⟩
 f16:=⟨Tryz.f161.name,by decide,Tryz.func161.trans (congrArg some (by kernel_rfl))⟩
 f17:=⟨Tryz.f162.name,by decide,Tryz.func162.trans (congrArg some (by kernel_rfl))⟩
 f18:=⟨Tryz.f163.name,by decide,Tryz.func163.trans (congrArg some (by kernel_rfl))⟩
 f19:=Tryz.func164.trans (congrArg some (by kernel_rfl))
 f20:=Tryz.func165.trans (congrArg some (by kernel_rfl))
 f30:=⟨Tryz.f195.name,by decide,Tryz.func195.trans (congrArg some (by kernel_rfl))⟩
 f31:=Tryz.func196.trans (congrArg some (by kernel_rfl))
 f32:=Tryz.func197.trans (congrArg some (by kernel_rfl))
 f33:=⟨Tryz.f198.name,by decide,Tryz.func198.trans (congrArg some (by kernel_rfl))⟩
 f34:=⟨Tryz.f199.name,by decide,Tryz.func199.trans (congrArg some (by kernel_rfl))⟩
 f35:=⟨Tryz.f200.name,by decide,Tryz.func200.trans (congrArg some (by kernel_rfl))⟩
 f40:=⟨Tryz.f217.name,by decide,Tryz.func217.trans (congrArg some (by kernel_rfl))⟩
 t0:=Tryz.underlying0
 a0:=Tryz.isAgg0
 z0:=Tryz.sizeOf0
 v0:=Tryz.zeroValue0
 t3:=Tryz.underlying3
 a3:=Tryz.isAgg3
 z3:=Tryz.sizeOf3
 v3:=Tryz.zeroValue3
 t4:=Tryz.underlying4
 a4:=Tryz.isAgg4
 z4:=Tryz.sizeOf4
 v4:=Tryz.zeroValue4
 t5:=Tryz.underlying5
 a5:=Tryz.isAgg5
 z5:=Tryz.sizeOf5
 v5:=Tryz.zeroValue5
 t9:=Tryz.underlying9
 a9:=Tryz.isAgg9
 z9:=Tryz.sizeOf9
 v9:=Tryz.zeroValue9
 t22:=Tryz.underlying46
 a22:=Tryz.isAgg46
 z22:=Tryz.sizeOf46
 v22:=Tryz.zeroValue46
 t23:=Tryz.underlying46
 a23:=Tryz.isAgg46
 z23:=Tryz.sizeOf46
 v23:=Tryz.zeroValue46
 t25:=Tryz.underlying3
 a25:=Tryz.isAgg3
 z25:=Tryz.sizeOf3
 v25:=Tryz.zeroValue3
 t32:=Tryz.underlying175
 a32:=Tryz.isAgg175
 z32:=Tryz.sizeOf175
 v32:=Tryz.zeroValue175
 t35:=Tryz.underlying202
 a35:=Tryz.isAgg202
 z35:=Tryz.sizeOf202
 v35:=Tryz.zeroValue202
 t36:=Tryz.underlying203
 a36:=Tryz.isAgg203
 z36:=Tryz.sizeOf203
 v36:=Tryz.zeroValue203
 t41:=Tryz.underlying207
 a41:=Tryz.isAgg207
 z41:=Tryz.sizeOf207
 v41:=Tryz.zeroValue207
 t44:=Tryz.underlying210
 a44:=Tryz.isAgg210
 z44:=Tryz.sizeOf210
 v44:=Tryz.zeroValue210
 t46:=Tryz.underlying191
 a46:=Tryz.isAgg191
 z46:=Tryz.sizeOf191
 v46:=Tryz.zeroValue191
 t53:=Tryz.underlying234
 a53:=Tryz.isAgg234
 z53:=Tryz.sizeOf234
 v53:=Tryz.zeroValue234
 t57:=Tryz.underlying238
 a57:=Tryz.isAgg238
 z57:=Tryz.sizeOf238
 v57:=Tryz.zeroValue238
 t63:=Tryz.underlying248
 a63:=Tryz.isAgg248
 z63:=Tryz.sizeOf248
 v63:=Tryz.zeroValue248
 t64:=Tryz.underlying249
 a64:=Tryz.isAgg249
 z64:=Tryz.sizeOf249
 v64:=Tryz.zeroValue249 }
def Tryz.keysSt_ren:Go.Shelf.Ren:=⟨fun | 7=>77 | 10=>112 | n=>n,fun | 23=>94 | 26=>3 | 3=>103 | 28=>131 | 0=>0 | 27=>130 | 33=>159 | 4=>4 | n=>n,fun | n=>n⟩
theorem Tryz.keysSt:Go.Proofs.SlLaysZI.n7 Tryz.prog Tryz.keysSt_ren:={
 mixed:=by kernel_rfl
 f7:=⟨Tryz.f77.name,by decide,Tryz.func77.trans (congrArg some (by kernel_rfl))⟩
 f10:=⟨Tryz.f112.name,by decide,Tryz.func112.trans (congrArg some (by kernel_rfl))⟩
 t0:=Tryz.underlying0
 a0:=Tryz.isAgg0
 z0:=Tryz.sizeOf0
 v0:=Tryz.zeroValue0
 t4:=Tryz.underlying4
 a4:=Tryz.isAgg4
 z4:=Tryz.sizeOf4
 v4:=Tryz.zeroValue4
 t23:=Tryz.underlying94
 a23:=Tryz.isAgg94
 z23:=Tryz.sizeOf94
 v23:=Tryz.zeroValue94
 t26:=Tryz.underlying3
 a26:=Tryz.isAgg3
 z26:=Tryz.sizeOf3
 v26:=Tryz.zeroValue3
 t27:=Tryz.underlying130
 a27:=Tryz.isAgg130
 z27:=Tryz.sizeOf130
 v27:=Tryz.zeroValue130
 t28:=Tryz.underlying131
 a28:=Tryz.isAgg131
 z28:=Tryz.sizeOf131
 v28:=Tryz.zeroValue131
 t33:=Tryz.underlying159
 a33:=Tryz.isAgg159
 z33:=Tryz.sizeOf159
 v33:=Tryz.zeroValue159 }
def Tryz.keysTpl_ren:Go.Shelf.Ren:=⟨fun | 7=>81 | 10=>118 | n=>n,fun | 23=>95 | 26=>9 | 3=>52 | 28=>141 | 0=>0 | 27=>140 | 33=>122 | 4=>4 | n=>n,fun | n=>n⟩
theorem Tryz.keysTpl:Go.Proofs.SlLaysZ.n7 Tryz.prog Tryz.keysTpl_ren:={
 mixed:=by kernel_rfl
 f7:=⟨Tryz.f81.name,by decide,Tryz.func81.trans (congrArg some (by kernel_rfl))⟩
 f10:=⟨Tryz.f118.name,by decide,Tryz.func118.trans (congrArg some (by kernel_rfl))⟩
 t0:=Tryz.underlying0
 a0:=Tryz.isAgg0
 z0:=Tryz.sizeOf0
 v0:=Tryz.zeroValue0
 t4:=Tryz.underlying4
 a4:=Tryz.isAgg4
 z4:=Tryz.sizeOf4
 v4:=Tryz.zeroValue4
 t23:=Tryz.underlying95
 a23:=Tryz.isAgg95
 z23:=Tryz.sizeOf95
 v23:=Tryz.zeroValue95
 t26:=Tryz.underlying9
 a26:=Tryz.isAgg9
 z26:=Tryz.sizeOf9
 v26:=Tryz.zeroValue9
 t27:=Tryz.underlying140
 a27:=Tryz.isAgg140
 z27:=Tryz.sizeOf140
 v27:=Tryz.zeroValue140
 t28:=Tryz.underlying141
 a28:=Tryz.isAgg141
 z28:=Tryz.sizeOf141
 v28:=Tryz.zeroValue141
 t33:=Tryz.underlying122
 a33:=Tryz.isAgg122
 z33:=Tryz.sizeOf122
 v33:=Tryz.zeroValue122 }
def Tryz.keysEd_ren:Go.Shelf.Ren:=⟨fun | 7=>113 | 10=>129 | n=>n,fun | 23=>104 | 26=>9 | 3=>135 | 28=>141 | 0=>0 | 27=>140 | 33=>122 | 4=>4 | n=>n,fun | n=>n⟩
theorem Tryz.keysEd:Go.Proofs.SlLaysZ.n7 Tryz.prog Tryz.keysEd_ren:={
 mixed:=by kernel_rfl
 f7:=⟨Tryz.f113.name,by decide,Tryz.func113.trans (congrArg some (by kernel_rfl))⟩
 f10:=⟨Tryz.f129.name,by decide,Tryz.func129.trans (congrArg some (by kernel_rfl))⟩
 t0:=Tryz.underlying0
 a0:=Tryz.isAgg0
 z0:=Tryz.sizeOf0
 v0:=Tryz.zeroValue0
 t4:=Tryz.underlying4
 a4:=Tryz.isAgg4
 z4:=Tryz.sizeOf4
 v4:=Tryz.zeroValue4
 t23:=Tryz.underlying104
 a23:=Tryz.isAgg104
 z23:=Tryz.sizeOf104
 v23:=Tryz.zeroValue104
 t26:=Tryz.underlying9
 a26:=Tryz.isAgg9
 z26:=Tryz.sizeOf9
 v26:=Tryz.zeroValue9
 t27:=Tryz.underlying140
 a27:=Tryz.isAgg140
 z27:=Tryz.sizeOf140
 v27:=Tryz.zeroValue140
 t28:=Tryz.underlying141
 a28:=Tryz.isAgg141
 z28:=Tryz.sizeOf141
 v28:=Tryz.zeroValue141
 t33:=Tryz.underlying122
 a33:=Tryz.isAgg122
 z33:=Tryz.sizeOf122
 v33:=Tryz.zeroValue122 }
def Tryz.sortedS_ren:Go.Shelf.Ren:=⟨fun | 6=>80 | 8=>116 | 9=>117 | 11=>140 | 13=>128 | 12=>141 | 23=>164 | 24=>165 | 14=>172 | 15=>173 | 16=>174 | 17=>175 | 18=>176 | 19=>177 | 20=>178 | 21=>179 | 22=>180 | 25=>204 | 26=>196 | 27=>197 | 28=>205 | 29=>206 | 30=>207 | 31=>220 | n=>n,fun | 26=>9 | 28=>141 | 24=>30 | 0=>0 | 3=>3 | 37=>175 | 48=>210 | 50=>191 | 4=>4 | 40=>203 | 39=>202 | 45=>207 | 5=>5 | 9=>9 | 51=>234 | 55=>238 | 57=>248 | 58=>249 | 33=>122 | n=>n,fun | n=>n⟩
theorem Tryz.sortedS:Go.Proofs.SlLaysZ.n6 Tryz.prog Tryz.sortedS_ren:={
 mixed:=by kernel_rfl
 f6:=⟨Tryz.f80.name,by decide,Tryz.func80.trans (congrArg some (by kernel_rfl))⟩
 f8:=⟨Tryz.f116.name,by decide,Tryz.func116.trans (congrArg some (by kernel_rfl))⟩
 f11:=⟨Tryz.f140.name,by decide,Tryz.func140.trans (congrArg some (by kernel_rfl))⟩
 t0:=Tryz.underlying0
 a0:=Tryz.isAgg0
 z0:=Tryz.sizeOf0
 v0:=Tryz.zeroValue0
 t24:=Tryz.underlying30
 a24:=Tryz.isAgg30
 z24:=Tryz.sizeOf30
 v24:=Tryz.zeroValue30
 t26:=Tryz.underlying9
 a26:=Tryz.isAgg9
 z26:=Tryz.sizeOf9
 v26:=Tryz.zeroValue9
 t28:=Tryz.underlying141
 a28:=Tryz.isAgg141
 z28:=Tryz.sizeOf141
 v28:=Tryz.zeroValue141
 i26:=by kernel_rfl }
def Tryz.sortS_ren:Go.Shelf.Ren:=⟨fun | 6=>117 | 8=>128 | 9=>141 | 19=>164 | 20=>165 | 21=>172 | 22=>173 | 23=>174 | 24=>175 | 25=>176 | 26=>177 | 27=>178 | 28=>179 | 29=>180 | 36=>204 | 31=>196 | 32=>197 | 37=>205 | 38=>206 | 39=>207 | 41=>220 | n=>n,fun | 27=>30 | 29=>9 | 3=>3 | 32=>175 | 26=>30 | 0=>0 | 44=>210 | 46=>191 | 4=>4 | 36=>203 | 35=>202 | 41=>207 | 5=>5 | 9=>9 | 53=>234 | 57=>238 | 63=>248 | 64=>249 | n=>n,fun | n=>n⟩
theorem Tryz.sortS:Go.Proofs.SlLaysM.n6 Tryz.prog Tryz.sortS_ren:={
 mixed:=by kernel_rfl
 f6:=⟨Tryz.f117.name,by decide,Tryz.func117.trans (congrArg some (by kernel_rfl))⟩
 f8:=Tryz.func128.trans (congrArg some (by kernel_rfl))
 f9:=⟨Tryz.f141.name,by decide,Tryz.func141.trans (congrArg some (by kernel_rfl))⟩
 f19:=Tryz.func164.trans (congrArg some (by kernel_rfl))
 f20:=Tryz.func165.trans (congrArg some (by kernel_rfl))
 f21:=⟨Tryz.f172.name,by decide,Tryz.func172.trans (congrArg some (by kernel_rfl))⟩
 f22:=⟨Tryz.f173.name,by decide,Tryz.func173.trans (congrArg some (by kernel_rfl))⟩
 f23:=⟨Tryz.f174.name,by decide,Tryz.func174.trans (congrArg some (by kernel_rfl))⟩
 f24:=⟨Tryz.f175.name,by decide,Tryz.func175.trans (congrArg some (by kernel_rfl))⟩
 f25:=⟨Tryz.f176.name,by decide,Tryz.func176.trans (congrArg some (by kernel_rfl))⟩
 f26:=⟨Tryz.f177.name,by decide,Tryz.func177.trans (congrArg some (by kernel_rfl))⟩
 f27:=⟨Tryz.f178.name,by decide,Tryz.func178.trans (congrArg some (by kernel_rfl))⟩
 f28:=⟨Tryz.f179.name,by decide,Tryz.func179.trans (congrArg some (by kernel_rfl))⟩
 f29:=⟨Tryz.f180.name,by decide,Tryz.func180.trans (congrArg some (by kernel_rfl))⟩
 f31:=Tryz.func196.trans (congrArg some (by kernel_rfl))
 f32:=Tryz.func197.trans (congrArg some (by kernel_rfl))
 f36:=⟨Tryz.f204.name,by decide,Tryz.func204.trans (congrArg some (by kernel_rfl))⟩
 f37:=⟨Tryz.f205.name,by decide,Tryz.func205.trans (congrArg some (by kernel_rfl))⟩
 f38:=⟨Tryz.f206.name,by decide,Tryz.func206.trans (congrArg some (by kernel_rfl))⟩
 f39:=⟨Tryz.f207.name,by decide,Tryz.func207.trans (congrArg some (by kernel_rfl))⟩
 f41:=⟨Tryz.f220.name,by decide,Tryz.func220.trans (congrArg some (by kernel_rfl))⟩
 t0:=Tryz.underlying0
 a0:=Tryz.isAgg0
 z0:=Tryz.sizeOf0
 v0:=Tryz.zeroValue0
 t3:=Tryz.underlying3
 a3:=Tryz.isAgg3
 z3:=Tryz.sizeOf3
 v3:=Tryz.zeroValue3
 t4:=Tryz.underlying4
 a4:=Tryz.isAgg4
 z4:=Tryz.sizeOf4
 v4:=Tryz.zeroValue4
 t5:=Tryz.underlying5
 a5:=Tryz.isAgg5
 z5:=Tryz.sizeOf5
 v5:=Tryz.zeroValue5
 t9:=Tryz.underlying9
 a9:=Tryz.isAgg9
 z9:=Tryz.sizeOf9
 v9:=Tryz.zeroValue9
 t26:=Tryz.underlying30
 a26:=Tryz.isAgg30
 z26:=Tryz.sizeOf30
 v26:=Tryz.zeroValue30
 t27:=Tryz.underlying30
 a27:=Tryz.isAgg30
 z27:=Tryz.sizeOf30
 v27:=Tryz.zeroValue30
 t29:=Tryz.underlying9
 a29:=Tryz.isAgg9
 z29:=Tryz.sizeOf9
 v29:=Tryz.zeroValue9
 t32:=Tryz.underlying175
 a32:=Tryz.isAgg175
 z32:=Tryz.sizeOf175
 v32:=Tryz.zeroValue175
 t35:=Tryz.underlying202
 a35:=Tryz.isAgg202
 z35:=Tryz.sizeOf202
 v35:=Tryz.zeroValue202
 t36:=Tryz.underlying203
 a36:=Tryz.isAgg203
 z36:=Tryz.sizeOf203
 v36:=Tryz.zeroValue203
 t41:=Tryz.underlying207
 a41:=Tryz.isAgg207
 z41:=Tryz.sizeOf207
 v41:=Tryz.zeroValue207
 t44:=Tryz.underlying210
 a44:=Tryz.isAgg210
 z44:=Tryz.sizeOf210
 v44:=Tryz.zeroValue210
 t46:=Tryz.underlying191
 a46:=Tryz.isAgg191
 z46:=Tryz.sizeOf191
 v46:=Tryz.zeroValue191
 t53:=Tryz.underlying234
 a53:=Tryz.isAgg234
 z53:=Tryz.sizeOf234
 v53:=Tryz.zeroValue234
 t57:=Tryz.underlying238
 a57:=Tryz.isAgg238
 z57:=Tryz.sizeOf238
 v57:=Tryz.zeroValue238
 t63:=Tryz.underlying248
 a63:=Tryz.isAgg248
 z63:=Tryz.sizeOf248
 v63:=Tryz.zeroValue248
 t64:=Tryz.underlying249
 a64:=Tryz.isAgg249
 z64:=Tryz.sizeOf249
 v64:=Tryz.zeroValue249 }
def Tryz.lays169_ren:Go.Shelf.Ren:=⟨fun | 169=>43 | n=>n,fun | 70=>80 | 9=>9 | 0=>0 | 72=>82 | 37=>62 | 127=>119 | 3=>3 | 5=>5 | n=>n,fun | n=>n⟩
theorem Tryz.lays169:Go.Proofs.Lays.n169 Tryz.prog Tryz.lays169_ren:={
 mixed:=by kernel_rfl
 f169:=Tryz.func43.trans (congrArg some (by kernel_rfl))
 t0:=Tryz.underlying0
 a0:=Tryz.isAgg0
 z0:=Tryz.sizeOf0
 v0:=Tryz.zeroValue0
 t3:=Tryz.underlying3
 a3:=Tryz.isAgg3
 z3:=Tryz.sizeOf3
 v3:=Tryz.zeroValue3
 t9:=Tryz.underlying9
 a9:=Tryz.isAgg9
 z9:=Tryz.sizeOf9
 v9:=Tryz.zeroValue9
 t37:=Tryz.underlying62
 a37:=Tryz.isAgg62
 z37:=Tryz.sizeOf62
 v37:=Tryz.zeroValue62
 t70:=Tryz.underlying80
 a70:=Tryz.isAgg80
 z70:=Tryz.sizeOf80
 v70:=Tryz.zeroValue80
 t72:=Tryz.underlying82
 a72:=Tryz.isAgg82
 z72:=Tryz.sizeOf82
 v72:=Tryz.zeroValue82
 t127:=Tryz.underlying119
 a127:=Tryz.isAgg119
 z127:=Tryz.sizeOf119
 v127:=Tryz.zeroValue119 }
theorem Tryz.Builder_Extra_169:Builder.Extra Tryz.prog Tryz.lays169_ren:={
 sizeBuilder:=by kernel_rfl
 liesBuilder:=by kernel_rfl
 t5:=Tryz.underlying5
 a5:=Tryz.isAgg5
 z5:=Tryz.sizeOf5
 v5:=Tryz.zeroValue5
 infoByte:=by kernel_rfl
 cellsByte:=by kernel_rfl
 sizeByte:=by kernel_rfl
 neB5:=by decide }
open Go.RowKit in
theorem Tryz.Builder_String_any (B b:Nat) (l:List UInt8) (w:World) (h:Lib.IsBuilder 82 5 B b (Lib.byteCells l) w) (hBw:B<=w.heap.size):
 Calls Tryz.prog 43 #[.pointer (some ⟨b,0,none⟩)] w fun e w'=>e=.returned (.string ⟨l.toArray⟩)/\Below B w w':=Any.Builder_String_any Tryz.lays169 Tryz.Builder_Extra_169 B b l w h hBw
def Tryz.lays156_ren:Go.Shelf.Ren:=⟨fun | 156=>99 | 165=>123 | 166=>41 | 169=>43 | 240=>63 | 241=>151 | 276=>94 | 277=>187 | n=>n,fun | 31=>30 | 9=>9 | 3=>3 | 4=>4 | 0=>0 | 20=>20 | 72=>82 | 76=>85 | 70=>80 | 37=>62 | 75=>84 | 127=>119 | 164=>152 | 5=>5 | 80=>89 | n=>n,fun | n=>n⟩
theorem Tryz.lays156:Go.Proofs.Lays.n156 Tryz.prog Tryz.lays156_ren:={
 mixed:=by kernel_rfl
 f156:=Tryz.func99.trans (congrArg some (by kernel_rfl))
 f165:=Tryz.func123.trans (congrArg some (by kernel_rfl))
 f166:=Tryz.func41.trans (congrArg some (by kernel_rfl))
 f169:=Tryz.func43.trans (congrArg some (by kernel_rfl))
 f240:=Tryz.func63.trans (congrArg some (by kernel_rfl))
 f241:=Tryz.func151.trans (congrArg some (by kernel_rfl))
 f276:=Tryz.func94.trans (congrArg some (by kernel_rfl))
 f277:=Tryz.func187.trans (congrArg some (by kernel_rfl))
 t0:=Tryz.underlying0
 a0:=Tryz.isAgg0
 z0:=Tryz.sizeOf0
 v0:=Tryz.zeroValue0
 t3:=Tryz.underlying3
 a3:=Tryz.isAgg3
 z3:=Tryz.sizeOf3
 v3:=Tryz.zeroValue3
 t4:=Tryz.underlying4
 a4:=Tryz.isAgg4
 z4:=Tryz.sizeOf4
 v4:=Tryz.zeroValue4
 t9:=Tryz.underlying9
 a9:=Tryz.isAgg9
 z9:=Tryz.sizeOf9
 v9:=Tryz.zeroValue9
 t20:=Tryz.underlying20
 a20:=Tryz.isAgg20
 z20:=Tryz.sizeOf20
 v20:=Tryz.zeroValue20
 t31:=Tryz.underlying30
 a31:=Tryz.isAgg30
 z31:=Tryz.sizeOf30
 v31:=Tryz.zeroValue30
 t37:=Tryz.underlying62
 a37:=Tryz.isAgg62
 z37:=Tryz.sizeOf62
 v37:=Tryz.zeroValue62
 t70:=Tryz.underlying80
 a70:=Tryz.isAgg80
 z70:=Tryz.sizeOf80
 v70:=Tryz.zeroValue80
 t72:=Tryz.underlying82
 a72:=Tryz.isAgg82
 z72:=Tryz.sizeOf82
 v72:=Tryz.zeroValue82
 t75:=Tryz.underlying84
 a75:=Tryz.isAgg84
 z75:=Tryz.sizeOf84
 v75:=Tryz.zeroValue84
 t76:=Tryz.underlying85
 a76:=Tryz.isAgg85
 z76:=Tryz.sizeOf85
 v76:=Tryz.zeroValue85
 t127:=Tryz.underlying119
 a127:=Tryz.isAgg119
 z127:=Tryz.sizeOf119
 v127:=Tryz.zeroValue119
 t164:=Tryz.underlying152
 a164:=Tryz.isAgg152
 z164:=Tryz.sizeOf152
 v164:=Tryz.zeroValue152 }
theorem Tryz.Builder_Extra_156:Builder.Extra Tryz.prog Tryz.lays156_ren:={
 sizeBuilder:=by kernel_rfl
 liesBuilder:=by kernel_rfl
 t5:=Tryz.underlying5
 a5:=Tryz.isAgg5
 z5:=Tryz.sizeOf5
 v5:=Tryz.zeroValue5
 infoByte:=by kernel_rfl
 cellsByte:=by kernel_rfl
 sizeByte:=by kernel_rfl
 neB5:=by decide }
open Go.RowKit in
theorem Tryz.strings_Join_none (a:Option Addr) (c:Nat) (sep:ByteArray) (w:World):
 Calls Tryz.prog 99 #[.slice a 0 c,.string sep] w fun e w'=>e=.returned (.string ⟨#[]⟩)/\w'=w:=Any.strings_Join_none Tryz.lays156 Tryz.Builder_Extra_156 a c sep w
open Go.RowKit in
theorem Tryz.strings_Join (bk o c:Nat) (xs:List ByteArray) (sep:ByteArray) (w:World) (hcells:∀ (j:Nat) x,xs[j]?=some x->w.cell? ⟨bk,o+j,none⟩=some (.string x)) (hbk:bk<w.heap.size) (hN:xs.length<=140737488355328) (hcap:xs.length<=c) (hlen:(Lib.join (xs.map (·.data.toList)) sep.data.toList).length<=140737488355328):
 Calls Tryz.prog 99 #[.slice (some ⟨bk,o,none⟩) xs.length c,.string sep] w fun e w'=>e=.returned (.string ⟨(Lib.join (xs.map (·.data.toList)) sep.data.toList).toArray⟩)/\Below w.heap.size w w':=Any.strings_Join Tryz.lays156 Tryz.Builder_Extra_156 bk o c xs sep w hcells hbk hN hcap hlen
def Tryz.lays160_ren:Go.Shelf.Ren:=⟨fun | 160=>154 | 232=>189 | 231=>188 | 227=>190 | 234=>192 | 233=>191 | 236=>194 | 235=>193 | 228=>213 | 271=>216 | 151=>215 | 197=>214 | 120=>223 | 152=>222 | 260=>221 | 137=>225 | 119=>226 | 224=>227 | 225=>228 | 217=>229 | 266=>230 | n=>n,fun | 9=>9 | 4=>4 | 3=>3 | 5=>5 | 117=>230 | 116=>229 | 0=>0 | 124=>233 | 21=>21 | 105=>245 | 46=>175 | 119=>259 | 139=>262 | 138=>261 | n=>n,fun | 3=>4 | 4=>5 | n=>n⟩
theorem Tryz.lays160:Go.Proofs.Lays.n160 Tryz.prog Tryz.lays160_ren:={
 mixed:=by kernel_rfl
 f119:=Tryz.func226.trans (congrArg some (by kernel_rfl))
 f120:=Tryz.func223.trans (congrArg some (by kernel_rfl))
 f137:=Tryz.func225.trans (congrArg some (by kernel_rfl))
 f151:=Tryz.func215.trans (congrArg some (by kernel_rfl))
 f152:=Tryz.func222.trans (congrArg some (by kernel_rfl))
 f160:=Tryz.func154.trans (congrArg some (by kernel_rfl))
 f197:=Tryz.func214.trans (congrArg some (by kernel_rfl))
 f217:=Tryz.func229.trans (congrArg some (by kernel_rfl))
 f224:=Tryz.func227.trans (congrArg some (by kernel_rfl))
 f225:=Tryz.func228.trans (congrArg some (by kernel_rfl))
 f227:=Tryz.func190.trans (congrArg some (by kernel_rfl))
 f228:=Tryz.func213.trans (congrArg some (by kernel_rfl))
 f231:=Tryz.func188.trans (congrArg some (by kernel_rfl))
 f232:=Tryz.func189.trans (congrArg some (by kernel_rfl))
 f233:=Tryz.func191.trans (congrArg some (by kernel_rfl))
 f234:=Tryz.func192.trans (congrArg some (by kernel_rfl))
 f235:=Tryz.func193.trans (congrArg some (by kernel_rfl))
 f236:=Tryz.func194.trans (congrArg some (by kernel_rfl))
 f260:=Tryz.func221.trans (congrArg some (by kernel_rfl))
 f266:=Tryz.func230.trans (congrArg some (by kernel_rfl))
 f271:=Tryz.func216.trans (congrArg some (by kernel_rfl))
 t0:=Tryz.underlying0
 a0:=Tryz.isAgg0
 z0:=Tryz.sizeOf0
 v0:=Tryz.zeroValue0
 t3:=Tryz.underlying3
 a3:=Tryz.isAgg3
 z3:=Tryz.sizeOf3
 v3:=Tryz.zeroValue3
 t4:=Tryz.underlying4
 a4:=Tryz.isAgg4
 z4:=Tryz.sizeOf4
 v4:=Tryz.zeroValue4
 t5:=Tryz.underlying5
 a5:=Tryz.isAgg5
 z5:=Tryz.sizeOf5
 v5:=Tryz.zeroValue5
 t9:=Tryz.underlying9
 a9:=Tryz.isAgg9
 z9:=Tryz.sizeOf9
 v9:=Tryz.zeroValue9
 t21:=Tryz.underlying21
 a21:=Tryz.isAgg21
 z21:=Tryz.sizeOf21
 v21:=Tryz.zeroValue21
 t46:=Tryz.underlying175
 a46:=Tryz.isAgg175
 z46:=Tryz.sizeOf175
 v46:=Tryz.zeroValue175
 t105:=Tryz.underlying245
 a105:=Tryz.isAgg245
 z105:=Tryz.sizeOf245
 v105:=Tryz.zeroValue245
 t116:=Tryz.underlying229
 a116:=Tryz.isAgg229
 z116:=Tryz.sizeOf229
 t117:=Tryz.underlying230
 a117:=Tryz.isAgg230
 z117:=Tryz.sizeOf230
 v117:=Tryz.zeroValue230
 t119:=Tryz.underlying259
 a119:=Tryz.isAgg259
 z119:=Tryz.sizeOf259
 t124:=Tryz.underlying233
 a124:=Tryz.isAgg233
 z124:=Tryz.sizeOf233
 v124:=Tryz.zeroValue233
 t138:=Tryz.underlying261
 a138:=Tryz.isAgg261
 z138:=Tryz.sizeOf261
 v138:=Tryz.zeroValue261
 t139:=Tryz.underlying262
 a139:=Tryz.isAgg262
 z139:=Tryz.sizeOf262
 v139:=Tryz.zeroValue262
 g3:=by kernel_rfl
 g4:=by kernel_rfl }
open Go.RowKit in
theorem Tryz.strings_Trim_one (s:ByteArray) (c:UInt8) (hc:c.toNat<128) (w:World) (hs:s.size<=9223372036854775807):
 Calls Tryz.prog 154 #[.string s,.string ⟨#[c]⟩] w fun e w'=>e=.returned (.string ⟨(Lib.trimB s.data.toList c).toArray⟩)/\(w'=w\/w'=w.drew):=Any.strings_Trim_one Tryz.lays160 s c hc w hs
open Go.RowKit in
theorem Tryz.Builder_String_any_k (B b:Nat) (l:List UInt8) (w:World) (h:Lib.IsBuilderF 82 5 B b (Lib.byteCells l) w) (hBw:B<=w.heap.size):
 Calls Tryz.prog 43 #[.pointer (some ⟨b,0,none⟩)] w fun e w'=>e=.returned (.string ⟨l.toArray⟩)/\(Lib.IsBuilderF 82 5 B b (Lib.byteCells l) w'/\Below B w w'/\Lib.OthersKept 5 (some b) w w'):=Any.Builder_String_any_k Tryz.lays169 Tryz.Builder_Extra_169 B b l w h hBw
def Tryz.lays171_ren:Go.Shelf.Ren:=⟨fun | 171=>54 | 243=>84 | 246=>119 | 283=>142 | 284=>143 | 285=>144 | 286=>145 | 129=>165 | 317=>181 | 318=>182 | 319=>183 | 320=>184 | 337=>208 | 338=>209 | n=>n,fun | 3=>3 | 9=>9 | 2=>2 | 4=>4 | 171=>190 | 0=>0 | 53=>191 | 37=>62 | 5=>5 | 173=>194 | 212=>223 | 51=>210 | 20=>20 | 213=>224 | 46=>175 | 232=>255 | 233=>256 | n=>n,fun | 17=>0 | 18=>2 | 19=>3 | n=>n⟩
theorem Tryz.lays171:Go.Proofs.Lays.n171 Tryz.prog Tryz.lays171_ren:={
 mixed:=by kernel_rfl
 f129:=Tryz.func165.trans (congrArg some (by kernel_rfl))
 f171:=Tryz.func54.trans (congrArg some (by kernel_rfl))
 f243:=Tryz.func84.trans (congrArg some (by kernel_rfl))
 f246:=Tryz.func119.trans (congrArg some (by kernel_rfl))
 f283:=Tryz.func142.trans (congrArg some (by kernel_rfl))
 f284:=Tryz.func143.trans (congrArg some (by kernel_rfl))
 f285:=Tryz.func144.trans (congrArg some (by kernel_rfl))
 f286:=Tryz.func145.trans (congrArg some (by kernel_rfl))
 f317:=Tryz.func181.trans (congrArg some (by kernel_rfl))
 f318:=Tryz.func182.trans (congrArg some (by kernel_rfl))
 f319:=Tryz.func183.trans (congrArg some (by kernel_rfl))
 f320:=Tryz.func184.trans (congrArg some (by kernel_rfl))
 f337:=Tryz.func208.trans (congrArg some (by kernel_rfl))
 f338:=Tryz.func209.trans (congrArg some (by kernel_rfl))
 t0:=Tryz.underlying0
 a0:=Tryz.isAgg0
 z0:=Tryz.sizeOf0
 v0:=Tryz.zeroValue0
 t2:=Tryz.underlying2
 a2:=Tryz.isAgg2
 z2:=Tryz.sizeOf2
 v2:=Tryz.zeroValue2
 t3:=Tryz.underlying3
 a3:=Tryz.isAgg3
 z3:=Tryz.sizeOf3
 v3:=Tryz.zeroValue3
 t4:=Tryz.underlying4
 a4:=Tryz.isAgg4
 z4:=Tryz.sizeOf4
 v4:=Tryz.zeroValue4
 t5:=Tryz.underlying5
 a5:=Tryz.isAgg5
 z5:=Tryz.sizeOf5
 v5:=Tryz.zeroValue5
 t9:=Tryz.underlying9
 a9:=Tryz.isAgg9
 z9:=Tryz.sizeOf9
 v9:=Tryz.zeroValue9
 t20:=Tryz.underlying20
 a20:=Tryz.isAgg20
 z20:=Tryz.sizeOf20
 v20:=Tryz.zeroValue20
 t37:=Tryz.underlying62
 a37:=Tryz.isAgg62
 z37:=Tryz.sizeOf62
 v37:=Tryz.zeroValue62
 t46:=Tryz.underlying175
 a46:=Tryz.isAgg175
 z46:=Tryz.sizeOf175
 v46:=Tryz.zeroValue175
 t51:=Tryz.underlying210
 a51:=Tryz.isAgg210
 z51:=Tryz.sizeOf210
 v51:=Tryz.zeroValue210
 t53:=Tryz.underlying191
 a53:=Tryz.isAgg191
 z53:=Tryz.sizeOf191
 v53:=Tryz.zeroValue191
 t171:=Tryz.underlying190
 a171:=Tryz.isAgg190
 z171:=Tryz.sizeOf190
 v171:=Tryz.zeroValue190
 t173:=Tryz.underlying194
 a173:=Tryz.isAgg194
 z173:=Tryz.sizeOf194
 v173:=Tryz.zeroValue194
 t212:=Tryz.underlying223
 a212:=Tryz.isAgg223
 z212:=Tryz.sizeOf223
 v212:=Tryz.zeroValue223
 t213:=Tryz.underlying224
 a213:=Tryz.isAgg224
 z213:=Tryz.sizeOf224
 t232:=Tryz.underlying255
 a232:=Tryz.isAgg255
 z232:=Tryz.sizeOf255
 v232:=Tryz.zeroValue255
 t233:=Tryz.underlying256
 a233:=Tryz.isAgg256
 z233:=Tryz.sizeOf256
 v233:=Tryz.zeroValue256
 g17:=by kernel_rfl
 g18:=by kernel_rfl
 g19:=by kernel_rfl }
open Go.RowKit Go.Sort Go.Lib in
theorem Tryz.strconv_Itoa_small (i:Nat) (hi:i<100) (w:World):
 Calls Tryz.prog 54 #[.int .i64 i] w fun e w'=>e=.returned (.string ⟨(Lib.decDigits i).toArray⟩)/\w'=w:=Any.strconv_Itoa_small Tryz.lays171 i hi w
def Tryz.lays110_ren:Go.Shelf.Ren:=⟨fun | 110=>85 | 109=>120 | n=>n,fun | 31=>30 | 9=>9 | 4=>4 | 3=>3 | 0=>0 | n=>n,fun | n=>n⟩
theorem Tryz.lays110:Go.Proofs.Lays.n110 Tryz.prog Tryz.lays110_ren:={
 mixed:=by kernel_rfl
 f109:=Tryz.func120.trans (congrArg some (by kernel_rfl))
 f110:=Tryz.func85.trans (congrArg some (by kernel_rfl))
 t0:=Tryz.underlying0
 a0:=Tryz.isAgg0
 z0:=Tryz.sizeOf0
 v0:=Tryz.zeroValue0
 t3:=Tryz.underlying3
 a3:=Tryz.isAgg3
 z3:=Tryz.sizeOf3
 v3:=Tryz.zeroValue3
 t4:=Tryz.underlying4
 a4:=Tryz.isAgg4
 z4:=Tryz.sizeOf4
 v4:=Tryz.zeroValue4
 t9:=Tryz.underlying9
 a9:=Tryz.isAgg9
 z9:=Tryz.sizeOf9
 v9:=Tryz.zeroValue9
 t31:=Tryz.underlying30
 a31:=Tryz.isAgg30
 z31:=Tryz.sizeOf30
 v31:=Tryz.zeroValue30 }
open Go.Lib in
theorem Tryz.slices_Contains_string (b off n c:Nat) (zs:List ByteArray) (x:ByteArray) (w:World) (hz:n<=zs.length) (hbig:n<=9223372036854775807) (hc:∀ j,j<zs.length->w.cell? ⟨b,off+j,none⟩=some (.string (zs.getD j ByteArray.empty))):
 Calls Tryz.prog 85 #[.slice (some ⟨b,off,none⟩) n c,.string x] w fun e w'=>e=.returned (.bool (Lib.containsS (zs.take n) x))/\w'=w:=Any.slices_Contains_string Tryz.lays110 b off n c zs x w hz hbig hc
open Go.Lib in
theorem Tryz.slices_Contains_string_empty (a:Option Addr) (c:Nat) (x:ByteArray) (w:World):
 Calls Tryz.prog 85 #[.slice a 0 c,.string x] w fun e w'=>e=.returned (.bool false)/\w'=w:=Any.slices_Contains_string_empty Tryz.lays110 a c x w
def Tryz.laysW_ren:Go.Shelf.Ren:=⟨fun | 166=>41 | 167=>42 | 240=>63 | 276=>94 | n=>n,fun | 0=>0 | 3=>3 | 4=>4 | 5=>5 | 9=>9 | 20=>20 | 37=>62 | 70=>80 | 72=>82 | 75=>84 | 164=>152 | 80=>89 | 76=>85 | n=>n,fun | n=>n⟩
theorem Tryz.lays166:Go.Proofs.Lays.n166 Tryz.prog Tryz.laysW_ren:={
 mixed:=by kernel_rfl
 f166:=Tryz.func41.trans (congrArg some (by kernel_rfl))
 f240:=Tryz.func63.trans (congrArg some (by kernel_rfl))
 f276:=Tryz.func94.trans (congrArg some (by kernel_rfl))
 t0:=Tryz.underlying0
 a0:=Tryz.isAgg0
 z0:=Tryz.sizeOf0
 v0:=Tryz.zeroValue0
 t3:=Tryz.underlying3
 a3:=Tryz.isAgg3
 z3:=Tryz.sizeOf3
 v3:=Tryz.zeroValue3
 t4:=Tryz.underlying4
 a4:=Tryz.isAgg4
 z4:=Tryz.sizeOf4
 v4:=Tryz.zeroValue4
 t9:=Tryz.underlying9
 a9:=Tryz.isAgg9
 z9:=Tryz.sizeOf9
 v9:=Tryz.zeroValue9
 t20:=Tryz.underlying20
 a20:=Tryz.isAgg20
 z20:=Tryz.sizeOf20
 v20:=Tryz.zeroValue20
 t37:=Tryz.underlying62
 a37:=Tryz.isAgg62
 z37:=Tryz.sizeOf62
 v37:=Tryz.zeroValue62
 t70:=Tryz.underlying80
 a70:=Tryz.isAgg80
 z70:=Tryz.sizeOf80
 v70:=Tryz.zeroValue80
 t72:=Tryz.underlying82
 a72:=Tryz.isAgg82
 z72:=Tryz.sizeOf82
 v72:=Tryz.zeroValue82
 t75:=Tryz.underlying84
 a75:=Tryz.isAgg84
 z75:=Tryz.sizeOf84
 v75:=Tryz.zeroValue84
 t164:=Tryz.underlying152
 a164:=Tryz.isAgg152
 z164:=Tryz.sizeOf152
 v164:=Tryz.zeroValue152 }
theorem Tryz.lays167:Go.Proofs.Lays.n167 Tryz.prog Tryz.laysW_ren:={
 mixed:=by kernel_rfl
 f167:=Tryz.func42.trans (congrArg some (by kernel_rfl))
 f240:=Tryz.func63.trans (congrArg some (by kernel_rfl))
 f276:=Tryz.func94.trans (congrArg some (by kernel_rfl))
 t0:=Tryz.underlying0
 a0:=Tryz.isAgg0
 z0:=Tryz.sizeOf0
 v0:=Tryz.zeroValue0
 t4:=Tryz.underlying4
 a4:=Tryz.isAgg4
 z4:=Tryz.sizeOf4
 v4:=Tryz.zeroValue4
 t5:=Tryz.underlying5
 a5:=Tryz.isAgg5
 z5:=Tryz.sizeOf5
 v5:=Tryz.zeroValue5
 t9:=Tryz.underlying9
 a9:=Tryz.isAgg9
 z9:=Tryz.sizeOf9
 v9:=Tryz.zeroValue9
 t20:=Tryz.underlying20
 a20:=Tryz.isAgg20
 z20:=Tryz.sizeOf20
 v20:=Tryz.zeroValue20
 t37:=Tryz.underlying62
 a37:=Tryz.isAgg62
 z37:=Tryz.sizeOf62
 v37:=Tryz.zeroValue62
 t70:=Tryz.underlying80
 a70:=Tryz.isAgg80
 z70:=Tryz.sizeOf80
 v70:=Tryz.zeroValue80
 t72:=Tryz.underlying82
 a72:=Tryz.isAgg82
 z72:=Tryz.sizeOf82
 v72:=Tryz.zeroValue82
 t75:=Tryz.underlying84
 a75:=Tryz.isAgg84
 z75:=Tryz.sizeOf84
 v75:=Tryz.zeroValue84
 t164:=Tryz.underlying152
 a164:=Tryz.isAgg152
 z164:=Tryz.sizeOf152
 v164:=Tryz.zeroValue152 }
theorem Tryz.Builder_Extra_W:Builder.Extra Tryz.prog Tryz.laysW_ren:={
 sizeBuilder:=by kernel_rfl
 liesBuilder:=by kernel_rfl
 t5:=Tryz.underlying5
 a5:=Tryz.isAgg5
 z5:=Tryz.sizeOf5
 v5:=Tryz.zeroValue5
 infoByte:=by kernel_rfl
 cellsByte:=by kernel_rfl
 sizeByte:=by kernel_rfl
 neB5:=by decide }
open Go.RowKit in
theorem Tryz.Builder_WriteByte (B b:Nat) (bs:List Value) (c:Int) (w:World) (h:Lib.IsBuilder 82 5 B b bs w) (hlen:bs.length+1<=140737488355328) (hBw:B<=w.heap.size):
 Calls Tryz.prog 42 #[.pointer (some ⟨b,0,none⟩),.int .u8 c] w fun e w'=>e=.returned .nilIface/\(Lib.BuilderAt 82 5 B b (.pointer (some ⟨b,0,none⟩)) (bs++[.int .u8 c]) w'/\Below B w w'):=Any.Builder_WriteByte Tryz.lays167 Tryz.Builder_Extra_W B b bs c w h hlen hBw
open Go.RowKit in
theorem Tryz.Builder_WriteString (B b:Nat) (bs:List Value) (s:ByteArray) (w:World) (h:Lib.IsBuilder 82 5 B b bs w) (hlen:bs.length+s.size<=140737488355328) (hBw:B<=w.heap.size):
 Calls Tryz.prog 41 #[.pointer (some ⟨b,0,none⟩),.string s] w fun e w'=>e=.returned (.tuple #[.int .i64 s.size,.nilIface])/\(Lib.BuilderAt 82 5 B b (.pointer (some ⟨b,0,none⟩)) (bs++Lib.strCells s) w'/\Below B w w'):=Any.Builder_WriteString Tryz.lays166 Tryz.Builder_Extra_W B b bs s w h hlen hBw
open Go.RowKit in
theorem Tryz.Builder_WriteByte_k (B b:Nat) (bs:List Value) (c:Int) (w:World) (h:Lib.IsBuilderF 82 5 B b bs w) (hlen:bs.length+1<=140737488355328) (hBw:B<=w.heap.size):
 Calls Tryz.prog 42 #[.pointer (some ⟨b,0,none⟩),.int .u8 c] w fun e w'=>e=.returned .nilIface/\(Lib.BuilderAtF 82 5 B b (.pointer (some ⟨b,0,none⟩)) (bs++[.int .u8 c]) w'/\Below B w w'/\Lib.OthersKept 5 (some b) w w'):=Any.Builder_WriteByte_k Tryz.lays167 Tryz.Builder_Extra_W B b bs c w h hlen hBw
open Go.RowKit in
theorem Tryz.Builder_WriteString_k (B b:Nat) (bs:List Value) (s:ByteArray) (w:World) (h:Lib.IsBuilderF 82 5 B b bs w) (hlen:bs.length+s.size<=140737488355328) (hBw:B<=w.heap.size):
 Calls Tryz.prog 41 #[.pointer (some ⟨b,0,none⟩),.string s] w fun e w'=>e=.returned (.tuple #[.int .i64 s.size,.nilIface])/\(Lib.BuilderAtF 82 5 B b (.pointer (some ⟨b,0,none⟩)) (bs++Lib.strCells s) w'/\Below B w w'/\Lib.OthersKept 5 (some b) w w'):=Any.Builder_WriteString_k Tryz.lays166 Tryz.Builder_Extra_W B b bs s w h hlen hBw
end Go.Proofs
namespace Go.Proofs.YtdkkhmjlamkgdaaGreatDoor
open Go.RowKit Mg Go.Shelf Go.Maps Go.Sort
section
variable {P:Program} {k:TypeId} {w:World} {b n:Nat} {D:DataW Value}
theorem keys_i (hown:w.ownsMap P k heldV b n D) (K:Keyed P k) (hk:P.underlying k=some (.int .i64)):(intKeys D).Nodup/\∀ x,x∈intKeys D↔Maps.has D (.int .i64 x)=true:=by
 obtain⟨es,hD,hpw,_⟩:=hown.entries K
 obtain⟨es',hD',hko⟩:=hown.keysOf
 obtain rfl:es=es':=by rw[hD]at hD';simpa using hD'
 subst hD
 have hke:∀ p∈es,∃ x,p.1=.int .i64 x:=fun p hp=>by obtain⟨v,hv⟩:=hko p hp;obtain⟨x,_,hx,_⟩:=Maps.keyOf_i64 hk hv;exact⟨x,hx⟩
 refine⟨?_,fun x=>?_⟩
 ·show (es.map fun p=>Go.intOf p.1).Nodup
  refine List.pairwise_map.2 (hpw.imp_of_mem fun {p q} hp' hq' hne e=>hne ?_)
  obtain⟨a,ha⟩:=hke p hp'
  obtain⟨b,hb⟩:=hke q hq'
  rw[ha,hb]at e ⊢
  exact congrArg _ e
 ·rw[has_eq,List.any_eq_true]
  show x∈es.map (fun p=>Go.intOf p.1)↔_
  rw[List.mem_map]
  constructor
  ·rintro ⟨p,hp',rfl⟩
   obtain⟨a,ha⟩:=hke p hp'
   exact⟨p,hp',by rw[ha];simp[Lit.sameKey,Go.intOf]⟩
  ·rintro ⟨p,hp',hs⟩
   obtain⟨a,ha⟩:=hke p hp'
   rw[ha]at hs
   exact⟨p,hp',by rw[ha];simpa [Lit.sameKey,Go.intOf] using hs⟩
theorem keys_s (hown:w.ownsMap P k heldV b n D) (K:Keyed P k) (hk:P.underlying k=some .string):(strKeys D).Nodup/\∀ x,x∈strKeys D↔Maps.has D (.string x)=true:=by
 obtain⟨es,hD,hpw,_⟩:=hown.entries K
 obtain⟨es',hD',hko⟩:=hown.keysOf
 obtain rfl:es=es':=by rw[hD]at hD';simpa using hD'
 subst hD
 have hke:∀ p∈es,∃ x,p.1=.string x:=fun p hp=>by obtain⟨v,hv⟩:=hko p hp;obtain⟨x,_,hx,_⟩:=Maps.keyOf_str hk hv;exact⟨x,hx⟩
 refine⟨?_,fun x=>?_⟩
 ·show (es.map fun p=>strOf p.1).Nodup
  refine List.pairwise_map.2 (hpw.imp_of_mem fun {p q} hp' hq' hne e=>hne ?_)
  obtain⟨a,ha⟩:=hke p hp'
  obtain⟨b,hb⟩:=hke q hq'
  rw[ha,hb]at e ⊢
  exact congrArg _ e
 ·rw[has_eq,List.any_eq_true]
  show x∈es.map (fun p=>strOf p.1)↔_
  rw[List.mem_map]
  constructor
  ·rintro ⟨p,hp',rfl⟩
   obtain⟨a,ha⟩:=hke p hp'
   exact⟨p,hp',by rw[ha];simp[Lit.sameKey,strOf]⟩
  ·rintro ⟨p,hp',hs⟩
   obtain⟨a,ha⟩:=hke p hp'
   rw[ha]at hs
   exact⟨p,hp',by rw[ha];simpa [Lit.sameKey,strOf] using hs⟩
end
theorem sort_i {l s:List Int} (hn:l.Nodup) (hp:s.Perm l):(s.mergeSort (fun x y=>decide (x<=y))).Pairwise (fun x y=>x<y)/\∀ y,y∈s.mergeSort (fun x y=>decide (x<=y))↔y∈l:=by
 have tr:∀ a b c:Int,decide (a<=b)=true->decide (b<=c)=true->decide (a<=c)=true:=fun a b c h1 h2=>by simp only[decide_eq_true_eq]at *;exact Int.le_trans h1 h2
 have to:∀ a b:Int,(decide (a<=b) || decide (b<=a))=true:=fun a b=>by simp only[Bool.or_eq_true,decide_eq_true_eq];exact Int.le_total a b
 have hq:=(List.mergeSort_perm s (fun x y=>decide (x<=y))).trans hp
 refine⟨?_,fun y=>hq.mem_iff⟩
 have h1:=List.pairwise_mergeSort tr to s
 have h2:(s.mergeSort (fun x y=>decide (x<=y))).Nodup:=(hq.nodup_iff).2 hn
 exact(h1.and h2).imp (fun ⟨a,b⟩=>by simp only[decide_eq_true_eq]at a;omega)
theorem sort_s {l s:List (List UInt8)} (hn:l.Nodup) (hp:s.Perm l):(s.mergeSort (fun x y=>decide (x<=y))).Pairwise (fun x y=>x<y)/\∀ y,y∈s.mergeSort (fun x y=>decide (x<=y))↔y∈l:=by
 have tr:∀ a b c:List UInt8,decide (a<=b)=true->decide (b<=c)=true->decide (a<=c)=true:=fun a b c h1 h2=>by simp only[decide_eq_true_eq]at *;exact List.le_trans h1 h2
 have to:∀ a b:List UInt8,(decide (a<=b) || decide (b<=a))=true:=fun a b=>by simp only[Bool.or_eq_true,decide_eq_true_eq];exact List.le_total a b
 have hq:=(List.mergeSort_perm s (fun x y=>decide (x<=y))).trans hp
 refine⟨?_,fun y=>hq.mem_iff⟩
 have h1:=List.pairwise_mergeSort tr to s
 have h2:(s.mergeSort (fun x y=>decide (x<=y))).Nodup:=(hq.nodup_iff).2 hn
 exact(h1.and h2).imp (fun ⟨a,b⟩=>by
  simp only[decide_eq_true_eq]at a
  rcases Std.le_iff_lt_or_eq.1 a with h | h
  ·exact h
  ·exact absurd h b)
theorem sortsI_any (m:Nat):AnyZI.SortsIn Tryz.prog Tryz.sortedA_ren Fence.wide m:=
 ⟨fun blk off cap ss W hH hblk hsz=>callsIn_wide.2 (AnyM.slices_Sort_int Tryz.sortA blk off cap ss W hH hblk hsz),
  fun p cap W=>callsIn_wide.2 (AnyM.slices_Sort_int_none Tryz.sortA p cap W)⟩
theorem sortsS_any (m:Nat):AnyZ.SortsIn Tryz.prog Tryz.sortedS_ren Fence.wide m:=
 ⟨fun blk off cap ss W hH hblk hsz=>callsIn_wide.2 (AnyM.slices_Sort_string Tryz.sortS blk off cap ss W hH hblk hsz),
  fun p cap W=>callsIn_wide.2 (AnyM.slices_Sort_string_none Tryz.sortS p cap W)⟩
def KeysI (n:Nat) (g:Value->Option Value) (B:Nat) (W:World) (e:Ending) (w':World):Prop:=∃ v s,e=.returned v/\IRow w' B v s/\s.Pairwise (fun x y=>x<y)/\(∀ y,y∈s↔okI y/\(g (.int .i64 y)).isSome=true)/\Below B W w'/\s.length<=n
def LRow (w:World) (B:Nat) (v:Value) (s:List ByteArray):Prop:=GRow w B 9 1 v (s.map fun x=>#[.string x])
def KeysS (n:Nat) (g:Value->Option Value) (B:Nat) (W:World) (e:Ending) (w':World):Prop:=∃ v s,e=.returned v/\LRow w' B v s/\s.Pairwise ltB/\(∀ y:ByteArray,y∈s↔y.size<=maxLen/\(g (.string y)).isSome=true)/\Below B W w'/\s.length<=n
theorem flat_str:∀ ss:List (List UInt8),(((ss.map bs).map fun x=>#[Value.string x]).flatMap Array.toList)=ss.map encStr
 |[]=>rfl
 |a::r=>by
  rw[List.map_cons,List.map_cons,List.flatMap_cons,flat_str r];rfl
theorem lrow_of {w:World} {B:Nat} {v:Value} {ss:List (List UInt8)} (h:w.ownsRow B 9 1 v ss.length (ss.map encStr)):LRow w B v (ss.map bs):=by
 refine⟨?_,fun c hc=>?_⟩
 ·rw[List.length_map,List.length_map,flat_str];exact h
 ·obtain⟨x,_,rfl⟩:=List.mem_map.1 hc
  exact⟨rfl,by intro u hu;simp at hu;subst hu;rfl⟩
theorem len_i {P:Program} {k:TypeId} {D:DataW Value} {w:World} {b n:Nat} (hown:w.ownsMap P k heldV b n D):(intKeys D).length=Maps.size D:=by
 obtain⟨es,rfl,_⟩:=hown.keysOf
 exact List.length_map _
theorem len_s {P:Program} {k:TypeId} {D:DataW Value} {w:World} {b n:Nat} (hown:w.ownsMap P k heldV b n D):(strKeys D).length=Maps.size D:=by
 obtain⟨es,rfl,_⟩:=hown.keysOf
 exact List.length_map _
theorem has_i {g:Value->Option Value} {D:DataW Value} {w:World} {b n:Nat} (hown:w.ownsMap Tryz.prog 3 heldV b n D) (hD:∀ key kl,keyOf Tryz.prog 3 key=some kl->Maps.has D kl=(g key).isSome/\∀ z,D.atKey kl (.held z)=.held ((g key).getD z)):
 (intKeys D).Nodup/\∀ y,y∈intKeys D↔okI y/\(g (.int .i64 y)).isSome=true:=by
 obtain⟨h1,h2⟩:=keys_i hown K_int Tryz.underlying3
 refine⟨h1,fun y=>?_⟩
 constructor
 ·intro hy
  have hw:=intKeys_wf hown Tryz.underlying3 y hy
  have hok:okI y:=by
   have e1:IntKind.i64.min=-9223372036854775808:=by decide
   have e2:IntKind.i64.max=9223372036854775807:=by decide
   simp only[Lit.wf,e1,e2,Bool.and_eq_true,decide_eq_true_eq]at hw
   exact hw
  exact⟨hok,by rw[<-(hD _ _ (key_int hok)).1];exact(h2 y).1 hy⟩
 ·rintro ⟨hok,hs⟩
  rw[h2,(hD _ _ (key_int hok)).1];exact hs
theorem has_s {g:Value->Option Value} {D:DataW Value} {w:World} {b n:Nat} (hown:w.ownsMap Tryz.prog 9 heldV b n D) (hD:∀ key kl,keyOf Tryz.prog 9 key=some kl->Maps.has D kl=(g key).isSome/\∀ z,D.atKey kl (.held z)=.held ((g key).getD z)):
 (strKeys D).Nodup/\∀ y:ByteArray,y.data.toList∈strKeys D↔y.size<=maxLen/\(g (.string y)).isSome=true:=by
 obtain⟨h1,h2⟩:=keys_s hown K_str Tryz.underlying9
 refine⟨h1,fun y=>?_⟩
 constructor
 ·intro hy
  have hw:=strKeys_le hown Tryz.underlying9 _ hy
  rw[size_list]at hw
  exact⟨hw,by rw[<-(hD _ _ (key_str hw)).1];exact(h2 _).1 hy⟩
 ·rintro ⟨hok,hs⟩
  rw[h2,(hD _ _ (key_str hok)).1];exact hs
theorem keysSt_any (mb:Option Nat) (W:World):Calls Tryz.prog 77 #[.map mb] W fun e w'=>e=.returned (.func (.func 112) #[] #[.pointer (some ⟨W.heap.size,0,none⟩)])/\w'=W.alloc (.cells #[.map mb] 94):=
 callsIn_wide.1 (AnyZI.keys_in Tryz.keysSt Fence.wide 5 trivial rfl mb W)
theorem sortedSt_any (b n:Nat) (g:Value->Option Value) (w:World) (h:KMap Tryz.prog 3 w b n g) (hl:n<=100000):
 Calls Tryz.prog 76 #[.func (.func 112) #[] #[.pointer (some ⟨w.heap.size,0,none⟩)]] (w.alloc (.cells #[.map (some b)] 94)) (KeysI n g (w.heap.size+1) (w.alloc (.cells #[.map (some b)] 94))):=by
 obtain⟨D,hown,hD⟩:=h
 have hsz:=hown.size_le
 have hbl:=hown.lt
 have hseq:SeqGives Fence.wide 2 Tryz.prog 112 #[.pointer (some ⟨w.heap.size,0,none⟩)] encZ (fun ss=>ss.Perm (intKeys D)) (Maps.size D) (w.alloc (.cells #[.map (some b)] 94)):=
  AnyZI.keys_gives (ρ:=Tryz.keysSt_ren) { Tryz.keysSt with } Fence.wide _ trivial rfl (by omega) w.heap.size b n D _ (by simp) (by simp) (by
   obtain⟨es,clock,hb,Ft,hs,hD⟩:=hown
   exact⟨es,clock,(Below.heap_alloc _ _ b hbl).trans hb,Ft,hs,hD⟩)
 have cS:=AnyZI.sorted_in Tryz.sortedA Fence.wide 5 trivial trivial trivial trivial rfl (by omega) (sortsI_any _) (enters_of Tryz.func111 (by kernel_rfl) rfl) 112 #[.pointer (some ⟨w.heap.size,0,none⟩)] trivial (enters_of Tryz.func112 (by kernel_rfl) rfl) _ _ (by unfold maxLen;omega) (by omega) _ hseq
 refine(callsIn_wide.1 cS).mono ?_
 rintro e w' ⟨v,ss,rfl,hp,hrow,_,hb⟩
 obtain⟨k1,k2⟩:=has_i hown hD
 obtain⟨u1,u2⟩:=sort_i k1 hp
 rw[World.size_alloc]at hrow hb
 refine⟨v,_,rfl,?_,u1,fun y=>(u2 y).trans (k2 y),hb,by rw[List.length_mergeSort,hp.length_eq,len_i hown];exact hsz⟩
 unfold IRow
 rw[List.length_mergeSort]
 exact hrow
theorem keysTpl_any (mb:Option Nat) (W:World):Calls Tryz.prog 81 #[.map mb] W fun e w'=>e=.returned (.func (.func 118) #[] #[.pointer (some ⟨W.heap.size,0,none⟩)])/\w'=W.alloc (.cells #[.map mb] 95):=
 callsIn_wide.1 (AnyZ.keys_in Tryz.keysTpl Fence.wide 5 trivial rfl mb W)
theorem sortedTpl_any (b n:Nat) (g:Value->Option Value) (w:World) (h:KMap Tryz.prog 9 w b n g) (hl:n<=100000):
 Calls Tryz.prog 80 #[.func (.func 118) #[] #[.pointer (some ⟨w.heap.size,0,none⟩)]] (w.alloc (.cells #[.map (some b)] 95)) (KeysS n g (w.heap.size+1) (w.alloc (.cells #[.map (some b)] 95))):=by
 obtain⟨D,hown,hD⟩:=h
 have hsz:=hown.size_le
 have hbl:=hown.lt
 have hseq:SeqGives Fence.wide 2 Tryz.prog 118 #[.pointer (some ⟨w.heap.size,0,none⟩)] encStr (fun ss=>ss.Perm (strKeys D)) (Maps.size D) (w.alloc (.cells #[.map (some b)] 95)):=
  AnyZ.keys_gives (ρ:=Tryz.keysTpl_ren) { Tryz.keysTpl with } Fence.wide _ trivial rfl (by omega) w.heap.size b n D _ (by simp) (by simp) (by
   obtain⟨es,clock,hb,Ft,hs,hD⟩:=hown
   exact⟨es,clock,(Below.heap_alloc _ _ b hbl).trans hb,Ft,hs,hD⟩)
 have cS:=AnyZ.sorted_in Tryz.sortedS Fence.wide 5 trivial trivial trivial trivial rfl (by omega) (sortsS_any _) (enters_of Tryz.func117 (by kernel_rfl) rfl) 118 #[.pointer (some ⟨w.heap.size,0,none⟩)] trivial (enters_of Tryz.func118 (by kernel_rfl) rfl) _ _ (by unfold maxLen;omega) (by omega) _ hseq
 refine(callsIn_wide.1 cS).mono ?_
 rintro e w' ⟨v,ss,rfl,hp,hrow,_,hb⟩
 obtain⟨k1,k2⟩:=has_s hown hD
 obtain⟨u1,u2⟩:=sort_s k1 hp
 rw[World.size_alloc]at hrow hb
 refine⟨v,(ss.mergeSort fun x y=>decide (x<=y)).map bs,rfl,lrow_of (by rw[List.length_mergeSort];exact hrow),?_,fun y=>?_,hb,by rw[List.length_map,List.length_mergeSort,hp.length_eq,len_s hown];exact hsz⟩
 ·refine List.pairwise_map.2 (u1.imp fun {a b} hab=>?_)
  rw[ltB_iff,bs_list,bs_list];exact hab
 ·rw[List.mem_map,<-k2]
  constructor
  ·rintro ⟨x,hx,rfl⟩
   rw[bs_list];exact(u2 x).1 hx
  ·intro hy
   exact⟨_,(u2 _).2 hy,bs_of y⟩
theorem keysEd_any (mb:Option Nat) (W:World):Calls Tryz.prog 113 #[.map mb] W fun e w'=>e=.returned (.func (.func 129) #[] #[.pointer (some ⟨W.heap.size,0,none⟩)])/\w'=W.alloc (.cells #[.map mb] 104):=
 callsIn_wide.1 (AnyZ.keys_in Tryz.keysEd Fence.wide 5 trivial rfl mb W)
theorem sortedEd_any (b n:Nat) (g:Value->Option Value) (w:World) (h:KMap Tryz.prog 9 w b n g) (hl:n<=100000):
 Calls Tryz.prog 80 #[.func (.func 129) #[] #[.pointer (some ⟨w.heap.size,0,none⟩)]] (w.alloc (.cells #[.map (some b)] 104)) (KeysS n g (w.heap.size+1) (w.alloc (.cells #[.map (some b)] 104))):=by
 obtain⟨D,hown,hD⟩:=h
 have hsz:=hown.size_le
 have hbl:=hown.lt
 have hseq:SeqGives Fence.wide 2 Tryz.prog 129 #[.pointer (some ⟨w.heap.size,0,none⟩)] encStr (fun ss=>ss.Perm (strKeys D)) (Maps.size D) (w.alloc (.cells #[.map (some b)] 104)):=
  AnyZ.keys_gives (ρ:=Tryz.keysEd_ren) { Tryz.keysEd with } Fence.wide _ trivial rfl (by omega) w.heap.size b n D _ (by simp) (by simp) (by
   obtain⟨es,clock,hb,Ft,hs,hD⟩:=hown
   exact⟨es,clock,(Below.heap_alloc _ _ b hbl).trans hb,Ft,hs,hD⟩)
 have cS:=AnyZ.sorted_in Tryz.sortedS Fence.wide 5 trivial trivial trivial trivial rfl (by omega) (sortsS_any _) (enters_of Tryz.func117 (by kernel_rfl) rfl) 129 #[.pointer (some ⟨w.heap.size,0,none⟩)] trivial (enters_of Tryz.func129 (by kernel_rfl) rfl) _ _ (by unfold maxLen;omega) (by omega) _ hseq
 refine(callsIn_wide.1 cS).mono ?_
 rintro e w' ⟨v,ss,rfl,hp,hrow,_,hb⟩
 obtain⟨k1,k2⟩:=has_s hown hD
 obtain⟨u1,u2⟩:=sort_s k1 hp
 rw[World.size_alloc]at hrow hb
 refine⟨v,(ss.mergeSort fun x y=>decide (x<=y)).map bs,rfl,lrow_of (by rw[List.length_mergeSort];exact hrow),?_,fun y=>?_,hb,by rw[List.length_map,List.length_mergeSort,hp.length_eq,len_s hown];exact hsz⟩
 ·refine List.pairwise_map.2 (u1.imp fun {a b} hab=>?_)
  rw[ltB_iff,bs_list,bs_list];exact hab
 ·rw[List.mem_map,<-k2]
  constructor
  ·rintro ⟨x,hx,rfl⟩
   rw[bs_list];exact(u2 x).1 hx
  ·intro hy
   exact⟨_,(u2 _).2 hy,bs_of y⟩
end Go.Proofs.YtdkkhmjlamkgdaaGreatDoor
namespace Go.Proofs.YtdkkhmjlamkgdaaGreatDoor
open Go.RowKit Mg Go.Shelf Go.Maps
theorem irow_get {w:World} {B:Nat} {v:Value} {l:List Int} (h:IRow w B v l) (j:Nat) (hj:j<l.length):∃ g cap,v=.slice (some ⟨g,0,none⟩) l.length cap/\w.heap[g]?.isSome=true/\w.cell? ⟨g,j,none⟩=some (.int .i64 l[j])/\l.length<=cap/\cap<=maxLen:=by
 rcases h.2 with ⟨_,hz⟩ | ⟨g,cap,cur,rfl,hb,hgg,hn,hc,hs,ht⟩
 ·omega
 ·refine⟨g,cap,rfl,by rw[hgg];rfl,?_,hn,hc⟩
  rw[rowcell hgg]
  have h5:(cur.toList.take (l.length * 1))[j]?=(l.map encI)[j]?:=by rw[ht]
  rw[List.getElem?_take_of_lt (by omega),List.getElem?_map,List.getElem?_eq_getElem hj]at h5
  rw[<-Array.getElem?_toList,h5];rfl
theorem irow_shape {w:World} {B:Nat} {v:Value} {l:List Int} (h:IRow w B v l):∃ ao cap,v=.slice ao l.length cap:=by
 rcases h.2 with ⟨rfl,hz⟩ | ⟨g,cap,cur,rfl,_⟩
 ·exact⟨none,0,by rw[hz]⟩
 ·exact⟨_,_,rfl⟩
theorem irow_same {w w':World} {B:Nat} {v:Value} {l:List Int} (h:IRow w B v l) (hk:∀ k,v.ownBlock=some k->w'.heap[k]?=w.heap[k]?):IRow w' B v l:=by
 refine⟨h.1,?_⟩
 rcases h.2 with hq | ⟨g,cap,cur,rfl,hb,hgg,rest⟩
 ·exact .inl hq
 ·exact .inr ⟨g,cap,cur,rfl,hb,(hk g rfl).trans hgg,rest⟩
theorem irow_blk {w:World} {B:Nat} {v:Value} {l:List Int} (h:IRow w B v l):∀ k,v.ownBlock=some k->B<=k/\k<w.heap.size/\∃ cells,w.heap[k]?=some (.cells cells 3 (0,0)):=fun k hk=>by
 rcases h.2 with ⟨rfl,_⟩ | ⟨g,cap,cur,rfl,hb,hgg,_⟩
 ·cases hk
 ·injection hk with hk
  subst hk
  exact⟨hb,hlt hgg,_,hgg⟩
theorem lrow_blk {w:World} {B:Nat} {v:Value} {l:List ByteArray} (h:LRow w B v l):∀ k,v.ownBlock=some k->B<=k/\k<w.heap.size/\∃ cells,w.heap[k]?=some (.cells cells 9 (0,0)):=fun k hk=>⟨(GRow.ge h k hk).1,(GRow.ge h k hk).2,GRow.blk h k hk⟩
theorem rows_apart {w:World} {k j:Nat} {a b:Array Value} {t u:TypeId} (h:w.heap[k]?=some (.cells a t (0,0))) (h2:w.heap[j]?=some (.cells b u (0,0))) (hne:t≠u):k≠j:=fun e=>by
 subst e
 rw[h]at h2
 injection h2 with h2
 injection h2 with _ h2
 exact hne h2
theorem irow_get_len {w:World} {B:Nat} {v:Value} {l:List Int} (h:IRow w B v l):l.length<=maxLen:=by
 rcases h.2 with ⟨_,hz⟩ | ⟨g,cap,cur,_,_,_,hn,hc,_⟩ <;> omega
theorem lrow_get_len {w:World} {B:Nat} {v:Value} {l:List ByteArray} (h:LRow w B v l):l.length<=maxLen:=by
 have hl:(l.map fun x=>(#[.string x]:Array Value)).length=l.length:=List.length_map _
 rcases h.1.2 with ⟨_,hz⟩ | ⟨g,cap,cur,_,_,_,hn,hc,_⟩ <;> omega
theorem lrow_get {w:World} {B:Nat} {v:Value} {l:List ByteArray} (h:LRow w B v l) (j:Nat) (hj:j<l.length):∃ g cap,v=.slice (some ⟨g,0,none⟩) l.length cap/\w.heap[g]?.isSome=true/\w.cell? ⟨g,j,none⟩=some (.string l[j])/\l.length<=cap/\cap<=maxLen:=by
 have hl:(l.map fun x=>(#[.string x]:Array Value)).length=l.length:=List.length_map _
 obtain⟨g,cap,e,h1,h2,h3,h4,h5,_⟩:=GRow.at_ h j (by rw[hl];exact hj)
 rw[hl]at e h3
 refine⟨g,cap,e,by rw[Array.getElem?_eq_getElem h2];rfl,?_,h3,h4⟩
 have:=h5 0 (by omega)
 rw[List.getElem_map]at this
 simpa using this
theorem lrow_shape {w:World} {B:Nat} {v:Value} {l:List ByteArray} (h:LRow w B v l):∃ ao cap,v=.slice ao l.length cap:=by
 obtain⟨ao,cap,e⟩:=GRow.shape h
 rw[List.length_map]at e
 exact⟨ao,cap,e⟩
section
def OrdSt (n:Nat) (g:Value->Option Value) (w:World) (e:Ending) (w':World):Prop:=
 ∃ (v:Value) (s:List Int),e=.returned v/\GRow w' w.heap.size 103 1 v (s.map fun i:Int=>((g (.int .i64 i)).getD (.pointer none)).cells)/\s.Pairwise (fun x y=>x<y)/\(∀ y:Int,y∈s↔okI y/\(g (.int .i64 y)).isSome=true)/\Below w.heap.size w w'/\s.length<=n
set_option maxRecDepth 100000 in
set_option maxHeartbeats 4000000 in
theorem orderedSt_any (b n:Nat) (g:Value->Option Value) (w:World) (h:KMap Tryz.prog 3 w b n g) (hl:n<=50000) (hv:∀ y:Int,okI y->∀ u,g (.int .i64 y)=some u->∃ a,u=.pointer a):
 Calls Tryz.prog 50 #[.map (some b)] w (OrdSt n g w):=by
 have HK:=Lib.hid h
 have hv:=Lib.hid hv
 have hb0:=h.lt
 have hb1:Below w.heap.size w (w.alloc (.cells #[.map (some b)] 94)):=bel1 _ _
 have HB1:=Lib.hid hb1
 have cK:=Lib.hid (keysSt_any (some b) w)
 have cS:=Lib.hid (sortedSt_any b n g w h (by omega))
 clear h hb1
 go_enter Tryz.func50,Tryz.ntmps50
 go_wp2_with fail
 refine cK.out.mono ?_
 rintro e w1 ⟨rfl,rfl⟩
 go_wp2_with fail
 refine cS.out.mono ?_
 rintro e w2 ⟨kv,s,rfl,hrow,hpw,hmem,hb2,hsn⟩
 have HB2:=Lib.hid (HB1.out.trans (hb2.mono (by omega)))
 have HR:=Lib.hid hrow
 have hok:∀ y∈s,okI y/\(g (.int .i64 y)).isSome=true:=fun y hy=>(hmem y).1 hy
 have HOK:=Lib.hid hok
 have HPW:=Lib.hid hpw
 have HMEM:=Lib.hid hmem
 obtain⟨ka,kc,rfl⟩:=irow_shape hrow
 have hsl:s.length<=9223372036854775807:=by have:=irow_get_len hrow;unfold maxLen at this;omega
 clear hrow hpw hmem hb2 hok cK cS
 go_wp2_with fail
 go_loopw [3,10] (fun v i wr=>∃ k:Nat,k<=s.length/\i=.int .i64 k/\Hid (GRow wr w.heap.size 103 1 v ((s.take k).map fun i:Int=>((g (.int .i64 i)).getD (.pointer none)).cells))/\Hid (IRow wr (w.heap.size+1) (.slice ka s.length kc) s)/\Hid (Below w.heap.size w wr)) (fun _ i _=>s.length - (intOf i).toNat)
 case atStart=>exact⟨0,Nat.zero_le _,rfl,Lib.hid (GRow.nil _ _ _ _),HR,HB2⟩
 case round=>
  obtain⟨k,hk,rfl,HV,HKR,HB⟩:=hrel
  by_cases hlt:k<s.length
  ·obtain⟨kg,kcap,hkv,_,kcell,kc1,kc2⟩:=irow_get HKR.out k hlt
   injection hkv with hka _ hkc
   subst hka hkc
   have hkb:=HB.out.size
   have hl:(Instr.lookup 94 (.map (some b)) (.int .i64 s[k]) false).run Tryz.prog wr=.ok ((g (.int .i64 s[k])).getD (.pointer none)) wr:=KMap.look (HK.out.below HB.out hb0) K_int Tryz.underlying94 (zero_pst _) (by exact key_int (HOK.out _ (List.getElem_mem hlt)).1)
   obtain⟨x1,hx⟩:∃ x1,(g (.int .i64 s[k])).getD (.pointer none)=.pointer x1:=by
    cases hg:g (.int .i64 s[k]) with
    |none=>exact⟨_,rfl⟩
    |some u=>obtain⟨a,rfl⟩:=hv.out _ (HOK.out _ (List.getElem_mem hlt)).1 _ hg;exact⟨a,rfl⟩
   rw[hx]at hl
   have HX:=Lib.hid hx
   have hsn2:((s.take k).map fun i:Int=>((g (.int .i64 i)).getD (.pointer none)).cells).length+1<=100000:=by
    rw[List.length_map,List.length_take]
    omega
   have HSN2:=Lib.hid hsn2
   have HTK:Hid (((s.take (k+1)).map fun i:Int=>((g (.int .i64 i)).getD (.pointer none)).cells)=((s.take k).map fun i:Int=>((g (.int .i64 i)).getD (.pointer none)).cells)++[#[.pointer x1]]):=Lib.hid (by
    rw[List.take_succ_eq_append_getElem hlt,List.map_append,List.map_singleton,hx];rfl)
   obtain⟨va,vc,rfl⟩:=HV.out.shape
   clear hx hsn2
   generalize s[k]=y at *
   generalize ((s.take k).map fun i:Int=>((g (.int .i64 i)).getD (.pointer none)).cells)=pre at *
   go_wp2_with (first|((with_reducible refine at_sslice _ _ _ rfl ?_);refine wpList_one_slice rfl E_pst _ rfl (.pointer x1) rfl (by simp[Act.eval]) ?_) | ((with_reducible refine at_sappend _ _ _ rfl ?_);refine wpList_app_one rfl E_pst _ _ rfl (by simp[Act.eval,Act.put]) (HV.out.alloc _) (#[.pointer x1]) rfl (by intro u hu;simp at hu;subst hu;rfl) wr.heap.size 1 (by simp[Act.eval,Act.put]) (World.alloc_heap_new wr _) HSN2.out (by rw[World.size_alloc];omega) ?_;intro v2 w2 hr2 hg2 hob2))
   have hold:∀ j,j<wr.heap.size->(Value.slice va pre.length vc).ownBlock≠some j->w2.heap[j]?=wr.heap[j]?:=fun j hj hne=>(hg2.block j (by rw[World.size_alloc];omega) (fun e=>hne e.symm)).trans (Below.heap_alloc wr _ j hj)
   have HR2:Hid (GRow w2 w.heap.size 103 1 v2 ((s.take (k+1)).map fun i:Int=>((g (.int .i64 i)).getD (.pointer none)).cells)):=Lib.hid (by rw[HTK.out];exact hr2)
   have HKR2:Hid (IRow w2 (w.heap.size+1) (.slice (some ⟨kg,0,none⟩) s.length kc) s):=Lib.hid (irow_same HKR.out fun j hj=>hold j (irow_blk HKR.out j hj).2.1 (fun e=>by
    obtain⟨_,_,cells,hc⟩:=irow_blk HKR.out j hj
    obtain⟨cells2,hc2⟩:=HV.out.blk j e
    exact rows_apart hc hc2 (by decide) rfl))
   have HB2:Hid (Below w.heap.size w w2):=Lib.hid ((HB.out.trans ((bel1 wr _).mono hkb)).grown hg2 (by rw[World.size_alloc];omega) (fun j hj=>(HV.out.ge j hj).1))
   clear hr2 hg2 hob2 hold
   go_wp2_with fail
   go_roundw
   case rel=>exact⟨k+1,by omega,by go_num,HR2,HKR2,HB2⟩
   case measure=>simp[intOf];omega
  ·have e:k=s.length:=by omega
   subst e
   have hF:=HV.out
   rw[List.take_length]at hF
   have HF:=Lib.hid hF
   clear hF
   go_wp2_with fail
   go_ret
   exact⟨_,s,rfl,HF.out,HPW.out,HMEM.out,HB.out,hsn⟩
def OrdEd (n:Nat) (g:Value->Option Value) (w:World) (e:Ending) (w':World):Prop:=
 ∃ (v:Value) (s:List ByteArray),e=.returned v/\GRow w' w.heap.size 135 1 v (s.map fun i:ByteArray=>((g (.string i)).getD (.pointer none)).cells)/\s.Pairwise ltB/\(∀ y:ByteArray,y∈s↔y.size<=maxLen/\(g (.string y)).isSome=true)/\Below w.heap.size w w'/\s.length<=n
set_option maxRecDepth 100000 in
set_option maxHeartbeats 4000000 in
theorem orderedEd_any (b n:Nat) (g:Value->Option Value) (w:World) (h:KMap Tryz.prog 9 w b n g) (hl:n<=50000) (hv:∀ y:ByteArray,y.size<=maxLen->∀ u,g (.string y)=some u->∃ a,u=.pointer a):
 Calls Tryz.prog 78 #[.map (some b)] w (OrdEd n g w):=by
 have HK:=Lib.hid h
 have hv:=Lib.hid hv
 have hb0:=h.lt
 have hb1:Below w.heap.size w (w.alloc (.cells #[.map (some b)] 104)):=bel1 _ _
 have HB1:=Lib.hid hb1
 have cK:=Lib.hid (keysEd_any (some b) w)
 have cS:=Lib.hid (sortedEd_any b n g w h (by omega))
 clear h hb1
 go_enter Tryz.func78,Tryz.ntmps78
 go_wp2_with fail
 refine cK.out.mono ?_
 rintro e w1 ⟨rfl,rfl⟩
 go_wp2_with fail
 refine cS.out.mono ?_
 rintro e w2 ⟨kv,s,rfl,hrow,hpw,hmem,hb2,hsn⟩
 have HB2:=Lib.hid (HB1.out.trans (hb2.mono (by omega)))
 have HR:=Lib.hid hrow
 have hok:∀ y∈s,y.size<=maxLen/\(g (.string y)).isSome=true:=fun y hy=>(hmem y).1 hy
 have HOK:=Lib.hid hok
 have HPW:=Lib.hid hpw
 have HMEM:=Lib.hid hmem
 obtain⟨ka,kc,rfl⟩:=lrow_shape hrow
 have hsl:s.length<=9223372036854775807:=by have:=lrow_get_len hrow;unfold maxLen at this;omega
 clear hrow hpw hmem hb2 hok cK cS
 go_wp2_with fail
 go_loopw [3,10] (fun v i wr=>∃ k:Nat,k<=s.length/\i=.int .i64 k/\Hid (GRow wr w.heap.size 135 1 v ((s.take k).map fun i:ByteArray=>((g (.string i)).getD (.pointer none)).cells))/\Hid (LRow wr (w.heap.size+1) (.slice ka s.length kc) s)/\Hid (Below w.heap.size w wr)) (fun _ i _=>s.length - (intOf i).toNat)
 case atStart=>exact⟨0,Nat.zero_le _,rfl,Lib.hid (GRow.nil _ _ _ _),HR,HB2⟩
 case round=>
  obtain⟨k,hk,rfl,HV,HKR,HB⟩:=hrel
  by_cases hlt:k<s.length
  ·obtain⟨kg,kcap,hkv,_,kcell,kc1,kc2⟩:=lrow_get HKR.out k hlt
   injection hkv with hka _ hkc
   subst hka hkc
   have hkb:=HB.out.size
   have hl:(Instr.lookup 104 (.map (some b)) (.string s[k]) false).run Tryz.prog wr=.ok ((g (.string s[k])).getD (.pointer none)) wr:=KMap.look (HK.out.below HB.out hb0) K_str Tryz.underlying104 (zero_ped _) (by exact key_str (HOK.out _ (List.getElem_mem hlt)).1)
   obtain⟨x1,hx⟩:∃ x1,(g (.string s[k])).getD (.pointer none)=.pointer x1:=by
    cases hg:g (.string s[k]) with
    |none=>exact⟨_,rfl⟩
    |some u=>obtain⟨a,rfl⟩:=hv.out _ (HOK.out _ (List.getElem_mem hlt)).1 _ hg;exact⟨a,rfl⟩
   rw[hx]at hl
   have HX:=Lib.hid hx
   have hsn2:((s.take k).map fun i:ByteArray=>((g (.string i)).getD (.pointer none)).cells).length+1<=100000:=by
    rw[List.length_map,List.length_take]
    omega
   have HSN2:=Lib.hid hsn2
   have HTK:Hid (((s.take (k+1)).map fun i:ByteArray=>((g (.string i)).getD (.pointer none)).cells)=((s.take k).map fun i:ByteArray=>((g (.string i)).getD (.pointer none)).cells)++[#[.pointer x1]]):=Lib.hid (by
    rw[List.take_succ_eq_append_getElem hlt,List.map_append,List.map_singleton,hx];rfl)
   obtain⟨va,vc,rfl⟩:=HV.out.shape
   clear hx hsn2
   generalize s[k]=y at *
   generalize ((s.take k).map fun i:ByteArray=>((g (.string i)).getD (.pointer none)).cells)=pre at *
   go_wp2_with (first|((with_reducible refine at_sslice _ _ _ rfl ?_);refine wpList_one_slice rfl E_ped _ rfl (.pointer x1) rfl (by simp[Act.eval]) ?_) | ((with_reducible refine at_sappend _ _ _ rfl ?_);refine wpList_app_one rfl E_ped _ _ rfl (by simp[Act.eval,Act.put]) (HV.out.alloc _) (#[.pointer x1]) rfl (by intro u hu;simp at hu;subst hu;rfl) wr.heap.size 1 (by simp[Act.eval,Act.put]) (World.alloc_heap_new wr _) HSN2.out (by rw[World.size_alloc];omega) ?_;intro v2 w2 hr2 hg2 hob2))
   have hold:∀ j,j<wr.heap.size->(Value.slice va pre.length vc).ownBlock≠some j->w2.heap[j]?=wr.heap[j]?:=fun j hj hne=>(hg2.block j (by rw[World.size_alloc];omega) (fun e=>hne e.symm)).trans (Below.heap_alloc wr _ j hj)
   have HR2:Hid (GRow w2 w.heap.size 135 1 v2 ((s.take (k+1)).map fun i:ByteArray=>((g (.string i)).getD (.pointer none)).cells)):=Lib.hid (by rw[HTK.out];exact hr2)
   have HKR2:Hid (LRow w2 (w.heap.size+1) (.slice (some ⟨kg,0,none⟩) s.length kc) s):=Lib.hid (GRow.same HKR.out fun j hj=>hold j (lrow_blk HKR.out j hj).2.1 (fun e=>by
    obtain⟨_,_,cells,hc⟩:=lrow_blk HKR.out j hj
    obtain⟨cells2,hc2⟩:=HV.out.blk j e
    exact rows_apart hc hc2 (by decide) rfl))
   have HB2:Hid (Below w.heap.size w w2):=Lib.hid ((HB.out.trans ((bel1 wr _).mono hkb)).grown hg2 (by rw[World.size_alloc];omega) (fun j hj=>(HV.out.ge j hj).1))
   clear hr2 hg2 hob2 hold
   go_wp2_with fail
   go_roundw
   case rel=>exact⟨k+1,by omega,by go_num,HR2,HKR2,HB2⟩
   case measure=>simp[intOf];omega
  ·have e:k=s.length:=by omega
   subst e
   have hF:=HV.out
   rw[List.take_length]at hF
   have HF:=Lib.hid hF
   clear hF
   go_wp2_with fail
   go_ret
   exact⟨_,s,rfl,HF.out,HPW.out,HMEM.out,HB.out,hsn⟩
def OrdTpl (n:Nat) (g:Value->Option Value) (w:World) (e:Ending) (w':World):Prop:=
 ∃ (v:Value) (s:List ByteArray),e=.returned v/\GRow w' w.heap.size 52 2 v (s.map fun i:ByteArray=>((g (.string i)).getD zeroTpl).cells)/\s.Pairwise ltB/\(∀ y:ByteArray,y∈s↔y.size<=maxLen/\(g (.string y)).isSome=true)/\Below w.heap.size w w'/\s.length<=n
set_option maxRecDepth 100000 in
set_option maxHeartbeats 4000000 in
theorem orderedTpl_any (b n:Nat) (g:Value->Option Value) (w:World) (h:KMap Tryz.prog 9 w b n g) (hl:n<=50000) (hv:∀ y:ByteArray,y.size<=maxLen->∀ u,g (.string y)=some u->∃ a b,u=.agg #[.string a,.string b]):
 Calls Tryz.prog 52 #[.map (some b)] w (OrdTpl n g w):=by
 have HK:=Lib.hid h
 have hv:=Lib.hid hv
 have hb0:=h.lt
 have hb1:Below w.heap.size w (w.alloc (.cells #[.map (some b)] 95)):=bel1 _ _
 have HB1:=Lib.hid hb1
 have cK:=Lib.hid (keysTpl_any (some b) w)
 have cS:=Lib.hid (sortedTpl_any b n g w h (by omega))
 clear h hb1
 go_enter Tryz.func52,Tryz.ntmps52
 go_wp2_with fail
 refine cK.out.mono ?_
 rintro e w1 ⟨rfl,rfl⟩
 go_wp2_with fail
 refine cS.out.mono ?_
 rintro e w2 ⟨kv,s,rfl,hrow,hpw,hmem,hb2,hsn⟩
 have HB2:=Lib.hid (HB1.out.trans (hb2.mono (by omega)))
 have HR:=Lib.hid hrow
 have hok:∀ y∈s,y.size<=maxLen/\(g (.string y)).isSome=true:=fun y hy=>(hmem y).1 hy
 have HOK:=Lib.hid hok
 have HPW:=Lib.hid hpw
 have HMEM:=Lib.hid hmem
 obtain⟨ka,kc,rfl⟩:=lrow_shape hrow
 have hsl:s.length<=9223372036854775807:=by have:=lrow_get_len hrow;unfold maxLen at this;omega
 clear hrow hpw hmem hb2 hok cK cS
 go_wp2_with fail
 go_loopw [3,10] (fun v i wr=>∃ k:Nat,k<=s.length/\i=.int .i64 k/\Hid (GRow wr w.heap.size 52 2 v ((s.take k).map fun i:ByteArray=>((g (.string i)).getD zeroTpl).cells))/\Hid (LRow wr (w.heap.size+1) (.slice ka s.length kc) s)/\Hid (Below w.heap.size w wr)) (fun _ i _=>s.length - (intOf i).toNat)
 case atStart=>exact⟨0,Nat.zero_le _,rfl,Lib.hid (GRow.nil _ _ _ _),HR,HB2⟩
 case round=>
  obtain⟨k,hk,rfl,HV,HKR,HB⟩:=hrel
  by_cases hlt:k<s.length
  ·obtain⟨kg,kcap,hkv,_,kcell,kc1,kc2⟩:=lrow_get HKR.out k hlt
   injection hkv with hka _ hkc
   subst hka hkc
   have hkb:=HB.out.size
   have hl:(Instr.lookup 95 (.map (some b)) (.string s[k]) false).run Tryz.prog wr=.ok ((g (.string s[k])).getD zeroTpl) wr:=KMap.look (HK.out.below HB.out hb0) K_str Tryz.underlying95 (zero_tpl _) (by exact key_str (HOK.out _ (List.getElem_mem hlt)).1)
   obtain⟨x1,x2,hx⟩:∃ x1 x2,(g (.string s[k])).getD zeroTpl=.agg #[.string x1,.string x2]:=by
    cases hg:g (.string s[k]) with
    |none=>exact⟨_,_,rfl⟩
    |some u=>obtain⟨a,b,rfl⟩:=hv.out _ (HOK.out _ (List.getElem_mem hlt)).1 _ hg;exact⟨a,b,rfl⟩
   rw[hx]at hl
   have HX:=Lib.hid hx
   have hsn2:((s.take k).map fun i:ByteArray=>((g (.string i)).getD zeroTpl).cells).length+1<=100000:=by
    rw[List.length_map,List.length_take]
    omega
   have HSN2:=Lib.hid hsn2
   have HTK:Hid (((s.take (k+1)).map fun i:ByteArray=>((g (.string i)).getD zeroTpl).cells)=((s.take k).map fun i:ByteArray=>((g (.string i)).getD zeroTpl).cells)++[#[.string x1,.string x2]]):=Lib.hid (by
    rw[List.take_succ_eq_append_getElem hlt,List.map_append,List.map_singleton,hx];rfl)
   obtain⟨va,vc,rfl⟩:=HV.out.shape
   clear hx hsn2
   generalize s[k]=y at *
   generalize ((s.take k).map fun i:ByteArray=>((g (.string i)).getD zeroTpl).cells)=pre at *
   go_wp2_with (first|((with_reducible refine at_sslice _ _ _ rfl ?_);refine wpList_one_slice rfl E_tpl _ rfl (.agg #[.string x1,.string x2]) rfl (by simp[Act.eval]) ?_) | ((with_reducible refine at_sappend _ _ _ rfl ?_);refine wpList_app_one rfl E_tpl _ _ rfl (by simp[Act.eval,Act.put]) (HV.out.alloc _) (#[.string x1,.string x2]) rfl (by intro u hu;simp at hu;rcases hu with rfl | rfl <;> rfl) wr.heap.size 1 (by simp[Act.eval,Act.put]) (World.alloc_heap_new wr _) HSN2.out (by rw[World.size_alloc];omega) ?_;intro v2 w2 hr2 hg2 hob2))
   have hold:∀ j,j<wr.heap.size->(Value.slice va pre.length vc).ownBlock≠some j->w2.heap[j]?=wr.heap[j]?:=fun j hj hne=>(hg2.block j (by rw[World.size_alloc];omega) (fun e=>hne e.symm)).trans (Below.heap_alloc wr _ j hj)
   have HR2:Hid (GRow w2 w.heap.size 52 2 v2 ((s.take (k+1)).map fun i:ByteArray=>((g (.string i)).getD zeroTpl).cells)):=Lib.hid (by rw[HTK.out];exact hr2)
   have HKR2:Hid (LRow w2 (w.heap.size+1) (.slice (some ⟨kg,0,none⟩) s.length kc) s):=Lib.hid (GRow.same HKR.out fun j hj=>hold j (lrow_blk HKR.out j hj).2.1 (fun e=>by
    obtain⟨_,_,cells,hc⟩:=lrow_blk HKR.out j hj
    obtain⟨cells2,hc2⟩:=HV.out.blk j e
    exact rows_apart hc hc2 (by decide) rfl))
   have HB2:Hid (Below w.heap.size w w2):=Lib.hid ((HB.out.trans ((bel1 wr _).mono hkb)).grown hg2 (by rw[World.size_alloc];omega) (fun j hj=>(HV.out.ge j hj).1))
   clear hr2 hg2 hob2 hold
   go_wp2_with fail
   go_roundw
   case rel=>exact⟨k+1,by omega,by go_num,HR2,HKR2,HB2⟩
   case measure=>simp[intOf];omega
  ·have e:k=s.length:=by omega
   subst e
   have hF:=HV.out
   rw[List.take_length]at hF
   have HF:=Lib.hid hF
   clear hF
   go_wp2_with fail
   go_ret
   exact⟨_,s,rfl,HF.out,HPW.out,HMEM.out,HB.out,hsn⟩
end
def CellsOf (M:Addr->Option Value) (x:Blk) (c:Array Value):Prop:=∃ a cap,c=blkCells x (.slice a x.lab.after.length cap)/\IntsM M (.slice a x.lab.after.length cap) x.lab.after
theorem blks_cells {mem:Addr->Option Value} {l:List Blk} {b:Nat}:∀ (o:Nat),BlksAt mem l b o->∃ cs:List (Array Value),cs.length=l.length/\(∀ j (h:j<l.length) (h2:j<cs.length),CellsOf mem l[j] cs[j]/\∀ t,t<9->mem ⟨b,o+j * 9+t,none⟩=cs[j][t]?):=by
 induction l with
 |nil=>exact fun o _=>⟨[],rfl,fun j h=>absurd h (by simp)⟩
 |cons x l ih=>
  intro o h
  obtain⟨⟨h0,h1,h2,h3,h4⟩,⟨h5,h7,h8⟩,_,av,h6,hi⟩:=h 0 (by simp)
  obtain⟨cs,e1,e2⟩:=ih (o+9) (fun j hj=>by
   have:=h (j+1) (by simpa using hj)
   rw[List.getElem_cons_succ]at this
   rwa [show o+(j+1) * 9=o+9+j * 9 by omega]at this)
  obtain⟨a,cap,rfl⟩:=hi.slice
  refine⟨blkCells x (.slice a x.lab.after.length cap)::cs,by simp[e1],fun j hj hj2=>?_⟩
  cases j with
  |zero=>
   refine⟨⟨a,cap,rfl,hi⟩,fun t ht=>?_⟩
   simp only[Nat.zero_mul,Nat.add_zero,List.getElem_cons_zero]at *
   match t,ht with
   |0,_=>exact h0
   |1,_=>exact h1
   |2,_=>exact h2
   |3,_=>exact h3
   |4,_=>exact h4
   |5,_=>exact h5
   |6,_=>exact h6
   |7,_=>exact h7
   |8,_=>exact h8
  |succ j=>
   obtain⟨q1,q2⟩:=e2 j (by simpa using hj) (by simpa using hj2)
   refine⟨q1,fun t ht=>?_⟩
   rw[List.getElem_cons_succ,<-q2 t ht,show o+(j+1) * 9+t=o+9+j * 9+t by omega]
theorem cellsOf_size {M:Addr->Option Value} {x:Blk} {c:Array Value} (h:CellsOf M x c):c.size=9/\OneC c:=by
 obtain⟨a,cap,rfl,_⟩:=h
 refine⟨rfl,fun u hu=>?_⟩
 simp at hu
 rcases hu with rfl | rfl | rfl | rfl | rfl | rfl | rfl | rfl | rfl <;> rfl
theorem reads_blks {mem:Addr->Option Value} {w:World} {l:List Blk} {ao:Option Addr} {cap:Nat} (h:BlksM mem (.slice ao l.length cap) l) (hs:Sees mem w):
 ∃ cs:List (Array Value),cs.length=l.length/\(∀ j (h:j<l.length) (h2:j<cs.length),CellsOf mem l[j] cs[j])/\(∀ c∈cs,c.size=9/\OneC c)/\Reads w w.heap.size 9 ao cs.length (cs.flatMap Array.toList):=by
 obtain⟨ao',cap',b,o,e,_,_,h1,h2⟩:=h.open_
 injection e with e1 e2 e3
 subst e1
 obtain⟨cs,q1,q2⟩:=blks_cells o h2
 have hsz:∀ c∈cs,c.size=9/\OneC c:=fun c hc=>by
  obtain⟨j,hj,rfl⟩:=List.getElem_of_mem hc
  exact cellsOf_size (q2 j (by omega) hj).1
 refine⟨cs,q1,fun j hj hj2=>(q2 j hj hj2).1,hsz,flat_len (fun c hc=>(hsz c hc).1),fun hn=>?_⟩
 have h0:0<l.length:=by omega
 refine⟨_,h1 h0,?_,fun j u hu=>?_⟩
 ·have:=(q2 0 h0 (by omega)).2 0 (by omega)
  have h9:=(q2 0 h0 (by omega)).1
  obtain⟨a,c,e,_⟩:=h9
  rw[e]at this
  exact World.block_lt_of_cell? w _ (hs _ _ this)
 ·have hjl:=(List.getElem?_eq_some_iff.1 hu).1
  rw[flat_len (fun c hc=>(hsz c hc).1)]at hjl
  have hd:j / 9<cs.length:=by omega
  have hm:j % 9<9:=Nat.mod_lt _ (by omega)
  have e1:=flat_cells (fun c hc=>(hsz c hc).1) (j / 9) (j % 9) hd hm
  rw[show j / 9 * 9+j % 9=j by omega,hu]at e1
  have:=(q2 (j / 9) (by omega) hd).2 (j % 9) hm
  rw[<-e1]at this
  have:=hs _ _ this
  unfold Addr.add
  rw[show o+j / 9 * 9+j % 9=o+j by omega]at this
  by_cases h0:j=0
  ·subst h0;simpa using this
  ·simp[h0];simpa using this
theorem bvals_of {M:Addr->Option Value}:∀ {l:List Blk} {cs:List (Array Value)},cs.length=l.length->(∀ j (h:j<l.length) (h2:j<cs.length),CellsOf M l[j] cs[j])->BVals M l (cs.flatMap Array.toList)
 |[],[],_,_=>rfl
 |[],_::_,h,_=>by cases h
 |_::_,[],h,_=>by cases h
 |x::l,c::cs,h,hc=>by
  obtain⟨a,cap,e,hi⟩:=hc 0 (by simp) (by simp)
  refine⟨a,cap,cs.flatMap Array.toList,hi,?_,bvals_of (by simpa using h) (fun j h1 h2=>by
   have:=hc (j+1) (by simpa using h1) (by simpa using h2)
   simpa using this)⟩
  rw[List.flatMap_cons]
  have e:c=_:=e
  rw[e];rfl
def CopyI (mem:Addr->Option Value) (w:World) (B:Nat) (l:List Blk) (k:Nat) (v:Value):Prop:=
 ∃ cs:List (Array Value),GRow w B 58 9 v cs/\cs.length=l.length/\∀ j (h:j<l.length) (h2:j<cs.length),if j<k then CellsOf (memFr w (fun b=>b<B\/v.ownBlock=some b)) l[j] cs[j] else CellsOf mem l[j] cs[j]
theorem CopyI.done {mem:Addr->Option Value} {w:World} {B:Nat} {l:List Blk} {v:Value} (h:CopyI mem w B l l.length v):BRow w B v l:=by
 obtain⟨cs,h1,h2,h3⟩:=h
 refine⟨cs.flatMap Array.toList,?_,bvals_of h2 (fun j hj hj2=>by have:=h3 j hj hj2;rwa [if_pos hj]at this)⟩
 rw[<-h2]
 exact h1.1
set_option maxRecDepth 100000 in
set_option maxHeartbeats 4000000 in
theorem copyBlocks_any {mem:Addr->Option Value} {v:Value} {l:List Blk} (h:BlksM mem v l) (hl:l.length<=50000) (ha:∀ x∈l,x.lab.after.length<=50000) (w:World) (hs:Sees mem w):
 Calls Tryz.prog 38 #[v] w fun e w'=>∃ u,e=.returned u/\BRow w' w.heap.size u l/\Below w.heap.size w w':=by
 obtain⟨ao,cap,rfl⟩:=h.slice
 obtain⟨cs,q1,q2,q3,q4⟩:=reads_blks h hs
 have HS:=Lib.hid hs
 have HA:=Lib.hid ha
 have HQ2:=Lib.hid q2
 have hl2:cs.length<=50000:=by omega
 have HL1:=Lib.hid q1
 rw[<-q1]
 clear h hs ha q2 q1
 go_enter Tryz.func38,Tryz.ntmps38
 go_wp2_with ((with_reducible refine at_sappend _ _ _ rfl ?_);refine wpList_app_row rfl E_blk _ _ rfl (by simp[Act.eval]) (GRow.nil w w.heap.size _ _) ao cap cs q3 (by simp[Act.eval]) q4 (by show 0+cs.length<=100000;omega) (Nat.le_refl _) ?_;intro v1 w1 hr1 hg1 hob1;rw[List.nil_append]at hr1;obtain⟨va,vc,rfl⟩:=hr1.shape)
 have HC0:Hid (CopyI mem w1 w.heap.size l 0 (.slice va cs.length vc)):=Lib.hid ⟨cs,hr1,HL1.out,fun j hj hj2=>by rw[if_neg (by omega)];exact HQ2.out j hj hj2⟩
 have HB0:Hid (Below w.heap.size w w1):=Lib.hid ((Below.refl _ w).grown hg1 (Nat.le_refl _) (fun k e=>by cases e))
 have hel:cs.length<=9223372036854775807:=by omega
 clear hr1 hg1 hob1 q3 q4
 go_loopw [9] (fun i wr=>∃ k:Nat,k<=cs.length/\i=.int .i64 k/\Hid (CopyI mem wr w.heap.size l k (.slice va cs.length vc))/\Hid (Below w.heap.size w wr)) (fun i _=>cs.length - (intOf i).toNat)
 case atStart=>exact⟨0,Nat.zero_le _,rfl,HC0,HB0⟩
 case round=>
  obtain⟨k,hk,rfl,HC,HB⟩:=hrel
  by_cases hlt:k<cs.length
  ·obtain⟨ds,d1,d2,d3⟩:=HC.out
   have hkd:k<ds.length:=by rw[d2,<-HL1.out];exact hlt
   have hkl:k<l.length:=by rw[<-HL1.out];exact hlt
   have hck:=d3 k hkl hkd
   rw[if_neg (by omega)]at hck
   obtain⟨a,c,hce,hci⟩:=hck
   obtain⟨g,gc,hgv,hgB,hgl,hg1,hg2,hgc,hgf⟩:=d1.at_ k hkd
   injection hgv with hgv1 hgv2 hgv3
   subst hgv1 hgv3
   clear hgv2
   have c6:=hgc 6 (by omega)
   rw[hce]at c6
   have z6:=hgf (k * 9+6)
   have HI:=Lib.hid hci
   have HD:=Lib.hid (And.intro d1 (And.intro d2 d3))
   have HCE:=Lib.hid hce
   have hal:=HA.out _ (List.getElem_mem hkl)
   generalize hx:l[k]=x at *
   clear d1 d2 d3 hce hci hgc hgf
   dsimp only [blkCells]at c6
   simp only[List.getElem?_toArray,List.getElem?_cons_succ,List.getElem?_cons_zero]at c6
   have HSW:=Lib.hid (HS.out.bel HB.out)
   go_wp2_with ((with_reducible refine at_sappend _ _ _ rfl ?_);refine wpList_app_after rfl _ _ rfl (by simp[Act.eval]) a c x.lab.after (by simp[Act.eval]) HI.out HSW.out (by omega) ?_;intro v2 w2 hr2 hg2;have hb2:Below wr.heap.size wr w2:=(Below.refl _ wr).grown hg2 (Nat.le_refl _) (fun k e=>by cases e);have c7:w2.cell? ⟨g,k * 9+6,none⟩=some (.slice a x.lab.after.length c):=(hb2.cell (p:=⟨g,k * 9+6,none⟩) hgl).trans c6;have z7:w2.frozen? ⟨g,k * 9+6,none⟩=false:=(hb2.frozen (p:=⟨g,k * 9+6,none⟩) hgl).trans z6;obtain⟨na,nc,rfl⟩:=irow_shape hr2)
   have hu3:Upd (fun b=>b=g) wr (w2.setCell ⟨g,k * 9+5+1,none⟩ (.slice na x.lab.after.length nc)):=((Upd.refl (fun b=>b=g) wr).bel hb2).setCell (p:=⟨g,k * 9+5+1,none⟩) (.inl rfl) _
   have HC2:Hid (CopyI mem (w2.setCell ⟨g,k * 9+5+1,none⟩ (.slice na x.lab.after.length nc)) w.heap.size l (k+1) (.slice (some ⟨g,0,none⟩) cs.length vc)):=Lib.hid (by
    obtain⟨d1,d2,d3⟩:=HD.out
    have hset:=(d1.bel hb2).set_ k 6 hkd (by omega) (u:=.slice na x.lab.after.length nc) rfl
    refine⟨_,hset,by rw[List.length_set];exact d2,fun j hj hj2=>?_⟩
    have hmm:∀ p u,memFr wr (fun b=>b<w.heap.size\/(Value.slice (some ⟨g,0,none⟩) cs.length vc).ownBlock=some b) p=some u->memFr (w2.setCell ⟨g,k * 9+5+1,none⟩ (.slice na x.lab.after.length nc)) (fun b=>b<w.heap.size\/(Value.slice (some ⟨g,0,none⟩) cs.length vc).ownBlock=some b) p=some u:=
     memFr_mono hu3 fun b hb hF=>⟨hF,fun e=>hF (.inr (by rw[e];rfl))⟩
    by_cases e:j=k
    ·subst e
     rw[if_pos (by omega),List.getElem_set_self,hx,HCE.out]
     refine⟨na,nc,rfl,?_⟩
     have hir:IRow (w2.setCell ⟨g,j * 9+5+1,none⟩ (.slice na x.lab.after.length nc)) wr.heap.size (.slice na x.lab.after.length nc) x.lab.after:=irow_same hr2 fun b hb=>Below.heap_setCell _ _ _ _ (fun e=>by
      have:=(irow_blk hr2 b hb).1
      have e:b=g:=e
      omega)
     exact hir.intsFr fun b hb hF=>by
      have h1:=(irow_blk hr2 b hb).1
      have h2:=HB.out.size
      rcases hF with hF | hF
      ·omega
      ·injection hF with hF
       have hF:g=b:=hF
       omega
    ·have h4:=d3 j hj (by rw[List.length_set]at hj2;exact hj2)
     rw[List.getElem_set_ne (Ne.symm e)]
     by_cases hjk:j<k
     ·rw[if_pos hjk]at h4
      rw[if_pos (by omega)]
      obtain⟨a',c',q1,q2⟩:=h4
      exact⟨a',c',q1,q2.mono hmm⟩
     ·rw[if_neg hjk]at h4
      rw[if_neg (by omega)]
      exact h4)
   have HB2:Hid (Below w.heap.size w (w2.setCell ⟨g,k * 9+5+1,none⟩ (.slice na x.lab.after.length nc))):=Lib.hid ((HB.out.trans (hb2.mono HB.out.size)).setCell hgB _)
   clear hu3 hr2 hg2 hb2 c7 z7
   go_roundw
   case rel=>exact⟨k+1,by omega,by go_num,HC2,HB2⟩
   case measure=>simp[intOf];omega
  ·have e:k=cs.length:=by omega
   subst e
   have HF:=Lib.hid (CopyI.done (by rw[<-HL1.out];exact HC.out):BRow wr w.heap.size (.slice va cs.length vc) l)
   go_wp2_with fail
   go_ret
   exact⟨_,rfl,HF.out,HB.out⟩
def IdxIs (l:List Blk) (test:Blk->Bool) (i:Int):Prop:=(i=-1/\∀ x∈l,test x=false)\/∃ k:Nat,i=(k:Int)/\∃ h:k<l.length,test l[k]=true/\∀ j (hj:j<k),test (l[j]'(by omega))=false
structure Says (fn:Nat) (c1:Value) (test:Blk->Bool) (mem:Addr->Option Value) (Q:World->Prop):Prop where
 enters:∀ args w,(callFunc fn args).run Tryz.prog w=.ok (.enter fn args) w
 says:∀ (W:World) (x:Blk) (a:Option Addr) (c:Nat),Q W->IntsM mem (.slice a x.lab.after.length c) x.lab.after->okI x.id->Calls Tryz.prog fn #[.agg (blkCells x (.slice a x.lab.after.length c)),c1] W fun e w'=>e=.returned (.bool (test x))/\Below W.heap.size W w'
 keeps:∀ W W',Q W->Below W.heap.size W W'->Q W'
set_option maxRecDepth 100000 in
set_option maxHeartbeats 4000000 in
theorem indexFunc_any {mem:Addr->Option Value} {v:Value} {l:List Blk} (h:BlksM mem v l) {fn:Nat} {c1:Value} {test:Blk->Bool} {Q:World->Prop} (hf:Says fn c1 test mem Q) (w:World) (hs:Sees mem w) (hq:Q w):
 Calls Tryz.prog 82 #[v,.func (.func fn) #[] #[c1]] w fun e w'=>∃ i,e=.returned (.int .i64 i)/\IdxIs l test i/\Below w.heap.size w w':=by
 obtain⟨ao,cap,b,o,rfl,hcap,hm,hao,hat⟩:=h.open_
 have HAO:=Lib.hid hao
 have HAT:=Lib.hid hat
 have HS:=Lib.hid hs
 have HF:=Lib.hid hf
 have HQ:=Lib.hid hq
 have hen:=hf.enters
 have hml:l.length<=9223372036854775807:=by unfold maxLen at hm;omega
 clear h hao hat hs hf hq
 go_enter Tryz.func82,Tryz.ntmps82
 go_wp2_with fail
 go_loopw [8] (fun i wr=>∃ k:Nat,k<=l.length/\i=.int .i64 k/\Hid (∀ j (hj:j<l.length),j<k->test l[j]=false)/\Hid (Below w.heap.size w wr)) (fun i _=>l.length - (intOf i).toNat)
 case atStart=>exact⟨0,Nat.zero_le _,rfl,Lib.hid (fun j _ h=>absurd h (by omega)),Lib.hid (Below.refl _ _)⟩
 case round=>
  obtain⟨k,hk,rfl,HT,HB⟩:=hrel
  by_cases hlt:k<l.length
  ·obtain⟨⟨_,_,hid⟩,a,c,hi,hc9⟩:=(HAT.out k hlt).nine (HS.out.bel HB.out)
   obtain rfl:=HAO.out (by omega)
   obtain⟨q0,q1,q2,q3,q4,q5,q6,q7,q8⟩:=hc9
   have cC:=Lib.hid (HF.out.says wr l[k] a c (HF.out.keeps _ _ HQ.out HB.out) hi hid)
   have HTK:Hid (test l[k]=true->IdxIs l test k):=Lib.hid (fun ht=>.inr ⟨k,rfl,hlt,ht,fun j hj=>HT.out j (by omega) hj⟩)
   have HTN:Hid (test l[k]=false->∀ j (hj:j<l.length),j<k+1->test l[j]=false):=Lib.hid (fun ht j hj hjk=>by
    by_cases e:j=k
    ·subst e;exact ht
    ·exact HT.out j hj (by omega))
   generalize l[k]=x at *
   clear hi hid
   go_wp2_with fail
   refine cC.out.mono ?_
   rintro e w2 ⟨rfl,hb2⟩
   have HB2:=Lib.hid (HB.out.trans (hb2.mono HB.out.size))
   clear hb2 q0 q1 q2 q3 q4 q5 q6 q7 q8 cC
   cases htx:test x with
   |true=>
    have HR:=Lib.hid (HTK.out htx)
    clear htx
    go_wp2_with fail
    go_ret
    exact⟨_,rfl,HR.out,HB2.out⟩
   |false=>
    have HR:=Lib.hid (HTN.out htx)
    clear htx
    go_wp2_with fail
    go_roundw
    case rel=>exact⟨k+1,by omega,by go_num,HR,HB2⟩
    case measure=>simp[intOf];omega
  ·have e:k=l.length:=by omega
   subst e
   have HR:Hid (IdxIs l test (-1)):=Lib.hid (.inl ⟨rfl,fun x hx=>by
    obtain⟨j,hj,rfl⟩:=List.getElem_of_mem hx
    exact HT.out j hj hj⟩)
   go_wp2_with fail
   go_ret
   exact⟨_,rfl,HR.out,HB.out⟩
theorem says_apply {mem:Addr->Option Value} (c:Corr) (cb:Nat):Says 139 (.pointer (some ⟨cb,0,none⟩)) (fun x=>decide (x.id=c.block)) mem (fun W=>W.heap[cb]?=some (.cells (corrCells c) 69 (0,0))) where
 enters:=enters_of Tryz.func139 (by kernel_rfl) rfl
 keeps:=fun W W' hq hb=>(hb.block _ (hlt hq)).trans hq
 says:=fun W x a cap hq _ _=>by
  obtain⟨W1,hW1⟩:∃ W1,W1=W.alloc (.cells (blkCells x (.slice a x.lab.after.length cap)) 58):=⟨_,rfl⟩
  have hb1:Below W.heap.size W W1:=by rw[hW1];exact bel1 _ _
  have hx1:W1.heap[W.heap.size]?=some (.cells (blkCells x (.slice a x.lab.after.length cap)) 58 (0,0)):=by rw[hW1];exact World.alloc_heap_new _ _
  have k0:W1.cell? ⟨W.heap.size,0,none⟩=some (.int .i64 x.id):=rowcell hx1
  have k1:W1.cell? ⟨cb,1,none⟩=some (.int .i64 c.block):=rowcell ((hb1.block _ (hlt hq)).trans hq)
  have HW1:=Lib.hid hW1
  have HB1:=Lib.hid hb1
  clear hW1 hb1 hx1 hq
  go_enter Tryz.func139,Tryz.ntmps139
  go_upto_region 1 with fail
  rw[<-HW1.out]
  go_wp2_with fail
  go_ret
  exact⟨ret_bool (by rw[Bool.eq_iff_iff];simp),HB1.out⟩
end Go.Proofs.YtdkkhmjlamkgdaaGreatDoor
namespace Go.Proofs.YtdkkhmjlamkgdaaGreatDoor
section
variable {F:Fence} {n:Nat} {P:Program} {Q:Exit->Act->World->Prop} {a:Act} {w:World} {b:Frame} {k:List Item} {cs:List Frame}
theorem noGoto_normal:Exit.noGoto Q .normal a w=Q .normal a w:=rfl
theorem noGoto_ret:Exit.noGoto Q .ret a w=Q .ret a w:=rfl
theorem stepR_scope {c:Code}:step P (lone (b.atR a (.code (.scope c)::k)) cs w)=.next (lone (b.atR a (.code c::.inScope c::k)) cs w):=
 step_lone_go (by simp[stepG,stepG.exec,Frame.atR])
theorem stepR_inScope {c:Code}:step P (lone (b.atR a (.inScope c::k)) cs w)=.next (lone (b.atR a k) cs w):=
 step_lone_go (by simp[stepG,stepG.exec,Frame.atR])
theorem wpIn_scope_straight {c:Code} (h:c.wpIn F n P (Exit.noGoto Q) a w):(Code.scope c).wpIn F n P Q a w:=by
 intro b k cs hro hb hr
 have h0:(lone (b.atR a (.code (.scope c)::k)) cs w).fenced P F:=fenced_calm hb hr rfl
 obtain⟨e,a₁,w₁,hq,harr⟩:=h b (.inScope c::k) cs hro hb hr
 cases e with
 |normal=>exact⟨.normal,a₁,w₁,hq,.head h0 stepR_scope (StepsIn.trans harr (.one (fenced_calm hb hr rfl) stepR_inScope))⟩
 |exit id=>exact⟨.exit id,a₁,w₁,hq,fun k' hk=>.head h0 stepR_scope (harr.1 k' (by simp[exitTo,hk])),fun hro hk=>by
   obtain⟨k₁,h1,h2⟩:=harr.2 hro (by simp[exitTo,hk])
   exact⟨k₁,h1,.head h0 stepR_scope h2⟩⟩
 |goto l=>exact hq.elim
 |ret=>exact⟨_,a₁,w₁,hq,.of_steps (.one h0 stepR_scope) harr⟩
 |panic ch=>exact⟨_,a₁,w₁,hq,.of_steps (.one h0 stepR_scope) harr⟩
 |outgrown=>exact⟨_,a₁,w₁,hq,.of_steps (.one h0 stepR_scope) harr⟩
end
end Go.Proofs.YtdkkhmjlamkgdaaGreatDoor
namespace Go.Proofs.YtdkkhmjlamkgdaaGreatDoor
open Go.RowKit Go.Shelf
set_option maxHeartbeats 400000 in
theorem initial_any (s:ByteArray) (n:Nat) (w:World) (hs:s.size<=1099511627776) (hn:n<=s.size):
 Calls Tryz.prog 153 #[.string s,.int .i64 n] w fun e w'=>e=.returned (.bool (initB s n))/\w=w':=by
 rcases n with _ | _ | n
 ·go_enter Tryz.func153,Tryz.ntmps153
  go_wp2
  go_ret
  exact⟨rfl,rfl⟩
 ·have h0:=bAt_get s 0 (by omega)
  have H0:=Lib.hid h0
  clear h0
  go_enter Tryz.func153,Tryz.ntmps153
  go_wp2
  all_goals
   go_ret
   refine⟨ret_bool ?_,rfl⟩
   simp only[initB,H0.out]
   symm
   first|(rw[decide_eq_false_iff_not];omega) | (rw[decide_eq_true_eq];omega)
 ·have h0:=bAt_get s n (by omega)
  have h1:=bAt_get s (n+1) (by omega)
  have H0:=Lib.hid h0
  have H1:=Lib.hid h1
  clear h0 h1
  go_enter Tryz.func153,Tryz.ntmps153
  go_wp2
  all_goals
   go_ret
   refine⟨ret_bool ?_,rfl⟩
   simp only[initB,H0.out,H1.out]
   first
    |(symm;rw[decide_eq_false_iff_not];omega)
    |(rw[Bool.eq_iff_iff];simp only[Bool.or_eq_true,beq_iff_eq,decide_eq_true_eq];omega)
attribute [local go_sem] Oper.semAt_some
theorem trim_ext (s:ByteArray) (i j:Nat) (w:World) (hs:s.size<=1099511627776) (m:Nat):
 CallsIn Fence.wide m Tryz.prog 154 #[.string (s.extract i j),.string ⟨#[32]⟩] w fun e w'=>e=.returned (.string (bs (piece s i j)))/\w.grownBy w' none/\(∀ a,w'.cell? a=w.cell? a):=
 callsIn_wide.2 ((Tryz.strings_Trim_one (s.extract i j) 32 (by decide) w (by simp;omega)).mono fun e w' h=>⟨h.1,by
  rcases h.2 with e | e
  ·subst e;exact⟨⟨rfl,rfl,rfl,Nat.le_refl _,fun _ _ _=>rfl⟩,fun _=>rfl⟩
  ·subst e;exact⟨⟨rfl,rfl,rfl,Nat.le_refl _,fun _ _ _=>rfl⟩,fun _=>rfl⟩⟩)
theorem initial_wide (s:ByteArray) (n:Nat) (w:World) (hs:s.size<=1099511627776) (hn:n<=s.size) (m:Nat):
 CallsIn Fence.wide m Tryz.prog 153 #[.string s,.int .i64 n] w fun e w'=>e=.returned (.bool (initB s n))/\w=w':=callsIn_wide.2 (initial_any s n w hs hn)
set_option maxRecDepth 100000 in
set_option maxHeartbeats 2000000 in
theorem sents1 (n l Bn n₀:Nat) (s:ByteArray) (hs:s.size<=1099511627776) (hBn:Bn<n₀) (J Jx:List (List UInt8)->World->Prop)
 (hY:∀ pre x W,J pre W->pre.length<s.size+1->YieldAt Fence.wide (n - 1) Tryz.prog l #[encStr x] W fun e W'=>
   (e=.returned (.bool true)/\J (pre++[x]) W'/\Below n₀ W W')\/(e=.returned (.bool false)/\Jx (pre++[x]) W'))
 (W:World) (hJ:AbidesFrom W.heap.size J) (hc:W.cell? ⟨Bn,0,none⟩=some (.string s)) (h0:J [] W):
 CallsIn Fence.wide n Tryz.prog 152 #[.func (.yield l) #[] #[],.pointer (some ⟨Bn,0,none⟩)] W fun e W'=>(∃ v,e=.returned v) ∧
  ((∃ ys,ys=sentF s/\J ys W')\/(∃ pre,True/\Jx pre W')):=by
 refine callsIn_of_wp Tryz.func152 rfl trivial ?_ rfl
 simp only[Tryz.ntmps152,List.size_toArray,List.length_cons,List.length_nil,Nat.reduceAdd,Nat.reduceSub,Array.replicate_succ,Array.replicate_zero,List.push_toArray,List.append_toArray,List.nil_append,List.cons_append]
 refine wpIn_scope_straight ?_
 gi_wp2_with fail
 refine wpIn_label ?_
 gi_wp2_with fail
 gi_loopw [3,4] (fun st i wr=>∃ (k start:Nat) (pre:List (List UInt8)),k<=s.size/\start<=k/\st=.int .i64 start/\i=.int .i64 k/\pre.length<=k/\Hid (pre++sentGo s (s.size - k) start=sentF s)/\wr.cell? ⟨Bn,0,none⟩=some (.string s)/\J pre wr)
  (fun _ i _=>s.size - (intOf i).toNat)
 case atStart=>exact⟨0,0,[],by omega,by omega,rfl,rfl,by simp,Lib.hid rfl,hc,h0⟩
 case round=>
  obtain⟨k,start,pre,hk,hst,rfl,rfl,hpl,HP,hcw,hJs⟩:=hrel
  by_cases hlt:k<s.size
  ·have hstep:=sentGo_step s k start hlt
   have HS:=Lib.hid hstep
   have hbk:=bAt_get s k hlt
   have HB:=Lib.hid hbk
   have hj0:=fun w2 (hg:wr.grownBy w2 none)=>hJ pre wr w2 none hJs hg (fun r h=>by cases h)
   have HJ0:=Lib.hid hj0
   have HY:=Lib.hid hY
   clear hstep hbk hj0 hY
   have HC0:=Lib.hid hcw
   have hE1:k+1<s.size->bAt s (k+1)=(s.data.toList.getD (k+1) 0).toNat:=fun _=>rfl
   have hN:sEnds s k=false->Hid (pre++sentGo s (s.size - (k+1)) start=sentF s):=fun h=>by
    have:=HP.out;rw[HS.out,h]at this;exact this
   have hY1:sEnds s k=true->Hid ((pre++[piece s start (k+1)])++sentGo s (s.size - (k+1)) (k+1)=sentF s):=fun h=>by
    have:=HP.out;rw[HS.out,h]at this;rw[List.append_assoc];exact this
   have HN:=Lib.hid hN
   have HY1:=Lib.hid hY1
   have hlast:s.size<=k+1->k+1=s.size:=fun h=>by omega
   have HL:=Lib.hid hlast
   clear hE1 hN hY1 hlast
   by_cases hk1:k+1<s.size
   ·have hb1:=bAt_get s (k+1) hk1
    have HB1:=Lib.hid hb1
    have hne1:k+1≠s.size:=by omega
    have HNE:=Lib.hid hne1
    clear hb1 hne1
    gi_wp2_with (first|(refine⟨trivial,(fun h=>by cases h),?_⟩;gi_at_call 153;refine(initial_wide s k _ hs (by omega) _).mono ?_;rintro e w2 ⟨rfl,rfl⟩) | (refine⟨trivial,(fun h=>by cases h),?_⟩;gi_at_call 154;refine(trim_ext s start (k+1) _ hs _).mono ?_;rintro e w2 ⟨rfl,hg2,hc2⟩;have hJ2:=HJ0.out w2 hg2;have HC2:=Lib.hid hc2;clear hc2;obtain⟨fn,tmps,assign,body,hy,hR⟩:=HY.out pre (piece s start (k+1)) w2 hJ2 (by omega);change (Instr.yield l #[.string (bs (piece s start (k+1)))]).run _ _=_ at hy) | (refine⟨(fun h=>by cases h),?_⟩;refine hR.mono ?_;rintro e W3 (⟨rfl,hJ3,hk3⟩ | ⟨rfl,hJx3⟩)))
    all_goals simp only[beq_iff_eq,beq_eq_false_iff_ne,ne_eq,bne_iff_ne,bne_eq_false_iff_eq]at *
    all_goals first
     |(have hE:sEnds s k=true:=(sEnds_iff s k).2 (by rw[HB.out];first|exact⟨.inl ⟨by omega,by assumption⟩,.inr (by rw[HB1.out];omega)⟩ | exact⟨.inr (by omega),.inr (by rw[HB1.out];omega)⟩)
       first
        |(go_roundw
          case rel=>exact⟨k+1,k+1,pre++[piece s start (k+1)],by omega,by omega,by go_num,by go_num,by simp;omega,HY1.out hE,(hk3.cell (p:=⟨Bn,0,none⟩) hBn).trans ((HC2.out _).trans HC0.out),hJ3⟩
          case measure=>simp[intOf];omega)
        |(rw[noGoto_ret]
          refine bodyPost_ret (results_none rfl _ _ _) rfl ?_
          exact⟨⟨_,rfl⟩,.inr ⟨_,trivial,hJx3⟩⟩))
     |(have hE:sEnds s k=false:=Bool.eq_false_iff.2 (fun h=>by
        have hh:=(sEnds_iff s k).1 h
        rw[HB.out]at hh
        obtain⟨h1,h2⟩:=hh
        rw[HB1.out]at h2
        rcases h1 with ⟨h3,h4⟩ | h3
        ·first|omega | (exfalso;simp_all;done)
        ·omega)
       go_roundw
       case rel=>exact⟨k+1,start,pre,by omega,by omega,by go_num,by go_num,by omega,HN.out hE,HC0.out,hJs⟩
       case measure=>simp[intOf];omega)
   ·have HLL:=HL.out (by omega)
    have HE:=Lib.hid HLL
    clear HLL
    gi_wp2_with (first|(refine⟨trivial,(fun h=>by cases h),?_⟩;gi_at_call 153;refine(initial_wide s k _ hs (by omega) _).mono ?_;rintro e w2 ⟨rfl,rfl⟩) | (refine⟨trivial,(fun h=>by cases h),?_⟩;gi_at_call 154;refine(trim_ext s start (k+1) _ hs _).mono ?_;rintro e w2 ⟨rfl,hg2,hc2⟩;have hJ2:=HJ0.out w2 hg2;have HC2:=Lib.hid hc2;clear hc2;obtain⟨fn,tmps,assign,body,hy,hR⟩:=HY.out pre (piece s start (k+1)) w2 hJ2 (by omega);change (Instr.yield l #[.string (bs (piece s start (k+1)))]).run _ _=_ at hy) | (refine⟨(fun h=>by cases h),?_⟩;refine hR.mono ?_;rintro e W3 (⟨rfl,hJ3,hk3⟩ | ⟨rfl,hJx3⟩)))
    all_goals simp only[beq_iff_eq,beq_eq_false_iff_ne,ne_eq]at *
    all_goals first
     |(have hE:sEnds s k=true:=(sEnds_iff s k).2 (by rw[HB.out];first|exact⟨.inl ⟨by omega,by assumption⟩,.inl (by omega)⟩ | exact⟨.inr (by omega),.inl (by omega)⟩)
       first
        |(go_roundw
          case rel=>exact⟨k+1,k+1,pre++[piece s start (k+1)],by omega,by omega,by go_num,by go_num,by simp;omega,HY1.out hE,(hk3.cell (p:=⟨Bn,0,none⟩) hBn).trans ((HC2.out _).trans HC0.out),hJ3⟩
          case measure=>simp[intOf];omega)
        |(rw[noGoto_ret]
          refine bodyPost_ret (results_none rfl _ _ _) rfl ?_
          exact⟨⟨_,rfl⟩,.inr ⟨_,trivial,hJx3⟩⟩))
     |(have hE:sEnds s k=false:=Bool.eq_false_iff.2 (fun h=>by
        have hh:=(sEnds_iff s k).1 h
        rw[HB.out]at hh
        obtain⟨h1,h2⟩:=hh
        rcases h1 with ⟨h3,h4⟩ | h3
        ·first|omega | (exfalso;simp_all;done)
        ·omega)
       go_roundw
       case rel=>exact⟨k+1,start,pre,by omega,by omega,by go_num,by go_num,by omega,HN.out hE,HC0.out,hJs⟩
       case measure=>simp[intOf];omega)
  ·have e:k=s.size:=by omega
   subst e
   have hj0:=fun w2 (hg:wr.grownBy w2 none)=>hJ pre wr w2 none hJs hg (fun r h=>by cases h)
   have HJ0:=Lib.hid hj0
   have HY:=Lib.hid hY
   have hz:s.size - s.size=0:=Nat.sub_self _
   rw[hz]at HP
   have HP':Hid (pre++(if piece s start s.size=[] then [] else [piece s start s.size])=sentF s):=HP
   clear hj0 hY hz HP
   gi_wp2_with (refine⟨trivial,(fun h=>by cases h),?_⟩;gi_at_call 154;refine(trim_ext s start s.size _ hs _).mono ?_;rintro e w2 ⟨rfl,hg2,hc2⟩;have hJ2:=HJ0.out w2 hg2;clear hc2;obtain⟨fn,tmps,assign,body,hy,hR⟩:=HY.out pre (piece s start s.size) w2 hJ2 (by omega);change (Instr.yield l #[.string (bs (piece s start s.size))]).run _ _=_ at hy)
   ·have hne:piece s start s.size≠[]:=by
     intro e
     have:(!(bs (piece s start s.size)).toList.isEmpty)=true:=by assumption
     rw[e]at this;simp[ByteArray.toList_eq]at this
    refine⟨(fun h=>by cases h),?_⟩
    refine hR.mono ?_
    have HR:Hid (pre++[piece s start s.size]=sentF s):=by have:=HP'.out;rwa [if_neg hne]at this
    rintro e W3 (⟨rfl,hJ3,hk3⟩ | ⟨rfl,hJx3⟩)
    ·gi_wp2
     rw[noGoto_normal]
     refine bodyPost_end (results_none rfl _ _ _) rfl ?_
     exact⟨⟨_,rfl⟩,.inl ⟨_,HR.out,hJ3⟩⟩
    ·gi_wp2
     rw[noGoto_normal]
     refine bodyPost_end (results_none rfl _ _ _) rfl ?_
     exact⟨⟨_,rfl⟩,.inr ⟨_,trivial,hJx3⟩⟩
   ·have he:piece s start s.size=[]:=by
     have:(!(bs (piece s start s.size)).toList.isEmpty)=false:=by assumption
     simpa [ByteArray.toList_eq] using this
    have HR:Hid (pre=sentF s):=by have:=HP'.out;rw[if_pos he,List.append_nil]at this;exact this
    rw[noGoto_normal]
    refine bodyPost_end (results_none rfl _ _ _) rfl ?_
    exact⟨⟨_,rfl⟩,.inl ⟨_,HR.out,hJ2⟩⟩
attribute [local go_sem] Oper.semAt_some
theorem sents_stops (n:Nat) (Bn n₀:Nat) (s:ByteArray) (w:World) (hs:s.size<=1099511627776) (hBn:Bn<n₀) (hn₀:n₀<=w.heap.size) (hc:w.cell? ⟨Bn,0,none⟩=some (.string s)):
 SeqStopsK Fence.wide n Tryz.prog 152 #[.pointer (some ⟨Bn,0,none⟩)] (fun x:List UInt8=>#[encStr x]) (Below n₀) (fun ys=>ys=sentF s) (fun _=>True) (s.size+1) w:=
 fun l J Jx W hW hJ _ hY h0=>sents1 n l Bn n₀ s hs hBn J Jx hY W hJ ((hW.cell (p:=⟨Bn,0,none⟩) (Nat.lt_of_lt_of_le hBn hn₀)).trans hc) h0
theorem str_info9:(Tryz.prog.info? 9).map (fun i=>(i.zero,i.size,i.bytes))=some (some (.string .empty),1,16):=by kernel_rfl
set_option maxRecDepth 100000 in
set_option maxHeartbeats 2000000 in
theorem appendSeq_wide (n:Nat) (s:ByteArray) (hs:s.size<=1099511627776) (Bn:Nat) (w:World) (hBn:Bn<w.heap.size) (hc:w.cell? ⟨Bn,0,none⟩=some (.string s)):
 CallsIn Fence.wide n Tryz.prog 140 #[.slice none 0 0,.func (.func 152) #[] #[.pointer (some ⟨Bn,0,none⟩)]] w fun e W'=>∃ v,e=.returned v ∧
  W'.ownsRow w.heap.size 9 1 v (sentF s).length ((sentF s).map encStr)/\(v=.slice none 0 0↔sentF s=[])/\Below w.heap.size w W':=by
 refine callsIn_wide.2 ((callsIn_wide (n:=5)).1 ?_)
 obtain⟨i0,hi,hz0,hz1,hz2⟩:=info_parts str_info9
 refine callsIn_of_wp_marks Tryz.func140 rfl trivial ?_ rfl
 simp only[Tryz.ntmps140,List.size_toArray,List.length_cons,List.length_nil,Nat.reduceAdd,Nat.reduceSub,Array.replicate_succ,Array.replicate_zero,List.push_toArray,List.append_toArray,List.nil_append,List.cons_append]
 gi_wp2
 have bO:=Boxed.new w 30 (.slice none 0 0)
 have hB0:Below w.heap.size w (w.alloc (.cells #[.slice none 0 0] 30)):=(Below.refl _ w).alloc (Nat.le_refl _) _
 refine wpIn_rangeFunc_ownG rfl (by omega) (gf:=152) (lb:=#[.pointer (some ⟨Bn,0,none⟩)]) rfl trivial (enters_of Tryz.func152 (by kernel_rfl) rfl)
  (sents_stops _ Bn w.heap.size s _ hs hBn (by simp) ((hB0.cell (p:=⟨Bn,0,none⟩) hBn).trans hc)) belowK_t (belowK_b (by simp)) (Below.refl _ _) (fun _=>rfl)
  (fun pre W=>(∃ v,Boxed W w.heap.size 30 v/\W.ownsRow w.heap.size 9 1 v pre.length (pre.map encStr)/\(v=.slice none 0 0↔pre=[]))/\Below w.heap.size w W)
  (fun _ _ _=>False)
  (OwnFrom.and (Own.from (holdsRow_own w.heap.size w.heap.size 30 9 1 (fun pre=>pre.length) (fun pre=>pre.map encStr) (fun pre v=>v=.slice none 0 0↔pre=[])) _) (ownFrom_below (Nat.le_refl _) (by simp)))
  (fun _ _ _ _ _ hs _ _=>hs)
  ⟨⟨_,bO,World.ownsRow_nil _ _ _ _,by simp⟩,hB0⟩
  (fun x=>{ tmps:=#[.slice none 0 0,.func (.func 152) #[] #[.pointer (some ⟨Bn,0,none⟩)],.pointer (some ⟨w.heap.size,0,none⟩),undef,.slice none 0 0,encStr x,.func (.func 152) #[] #[.pointer (some ⟨Bn,0,none⟩)],encStr x,undef,undef,undef,undef,undef],defers:=[] }) ?assign ?body ?done ?stop
 case assign=>
  intro l x W K hK
  gi_wp2
  exact hK
 case body=>
  rintro l pre x W ⟨⟨v,hv,hrow,hnil⟩,hB⟩ hlt
  have hc:=hv.cell
  gi_wp2_with (gi_at_builtin;refine wpListIn_append_own _ rfl _ _ 30 rfl w.heap.size 9 i0 (.string .empty) 1 16 Tryz.underlying30 hi hz0 hz1 hz2 rfl (by decide) _ _ _ rfl (hrow.alloc _) ⟨W.heap.size,0,none⟩ 1 1 [encStr x] rfl rfl (cell_one_new _ _ _) (by simp[Value.oneCell']) (by unfold maxLen;omega) (by omega) (by have:=hB.size;simp;omega) ?_;intro v' w1 hown' hgrow _;obtain⟨g',cap',rfl⟩:=ownsRow_succ hown';obtain⟨hv1,hv2,hr2,hk2,hb2⟩:=hv.appended (by decide) hrow hB.size (Nat.le_refl _) hown' hgrow;have hc1:=hv1.cell;have hf1:=hv1.frozen)
  exact⟨hk2.from _,hb2,⟨_,hv2,by simpa using hr2,by simp⟩,hB.trans hb2⟩
 case done=>
  rintro D ys W hD rfl ⟨⟨v,hv,hrow,hnil⟩,hB⟩ hK
  have hc:=hv.cell
  gi_wp2
  refine⟨by simp,.inl ⟨_,_,rfl,run_takeDeferred hK,?_⟩⟩
  exact⟨_,results_tmp rfl _ _ _,v,rfl,ownsRow_putObj hrow _ hK rfl,hnil,hB.trans (belowK_b (w:=w) (Nat.le_refl _) W D _ _ (by simp at hD;omega) hK rfl rfl)⟩
 case stop=>
  rintro D c pre W _ _ h _
  exact h.elim
def SRow (w:World) (B:Nat) (v:Value) (l:List (List UInt8)):Prop:=w.ownsRow B 9 1 v l.length (l.map encStr)
def SentPost (s:ByteArray) (w:World) (e:Ending) (w':World):Prop:=∃ v,e=.returned v/\SRow w' w.heap.size v (sentF s)/\Below w.heap.size w w'
theorem sentences_any (s:ByteArray) (w:World):
 Calls Tryz.prog 124 #[.string s] w fun e w'=>e=.returned (.func (.func 152) #[] #[.pointer (some ⟨w.heap.size,0,none⟩)])/\w.alloc (.cells #[.string s] 9)=w':=by
 go_enter Tryz.func124,Tryz.ntmps124
 go_wp2
 go_ret
 exact⟨rfl,rfl⟩
theorem collect_any (s:ByteArray) (hs:s.size<=1099511627776) (Bn:Nat) (w:World) (hBn:Bn<w.heap.size) (hc:w.cell? ⟨Bn,0,none⟩=some (.string s)):
 Calls Tryz.prog 116 #[.func (.func 152) #[] #[.pointer (some ⟨Bn,0,none⟩)]] w (SentPost s w):=by
 go_enter Tryz.func116,Tryz.ntmps116
 go_wp2_with (go_at_call 140;refine(callsIn_wide.1 (appendSeq_wide 5 s hs Bn w hBn hc)).mono ?_;rintro e w' ⟨v,rfl,hr,_,hb⟩)
 go_ret
 exact⟨_,rfl,hr,hb⟩
theorem SentPost_of {s:ByteArray} {w:World} {o:Obj} {v:Value} {w':World} (hr:SRow w' (w.alloc o).heap.size v (sentF s)) (hb:Below (w.alloc o).heap.size (w.alloc o) w'):SentPost s w (.returned v) w':=by
 refine⟨v,rfl,?_,((Below.refl _ w).alloc (Nat.le_refl _) o).trans (hb.mono (by simp))⟩
 refine⟨hr.1,?_⟩
 rcases hr.2 with h | ⟨g,cap,cur,h1,h2,h3⟩
 ·exact .inl h
 ·exact .inr ⟨g,cap,cur,h1,by simp at h2;omega,h3⟩
theorem Sentences_any (s:ByteArray) (hs:s.size<=1099511627776) (w:World):Calls Tryz.prog 100 #[.string s] w (SentPost s w):=by
 have hn:=World.cell?_alloc_new w #[.string s] 9 0
 go_enter Tryz.func100,Tryz.ntmps100
 go_wp2_with fail
 refine(sentences_any s w).mono ?_
 rintro e w1 ⟨rfl,rfl⟩
 go_wp2_with fail
 refine(collect_any s hs _ _ (by simp) (by simp)).mono ?_
 rintro e w2 ⟨v,rfl,hr,hb⟩
 go_wp2_with fail
 go_ret
 exact SentPost_of hr hb
end Go.Proofs.YtdkkhmjlamkgdaaGreatDoor
namespace Go.Proofs.YtdkkhmjlamkgdaaGreatDoor.Mg
end Go.Proofs.YtdkkhmjlamkgdaaGreatDoor.Mg
namespace Go.Proofs.YtdkkhmjlamkgdaaGreatDoor.Mg
def fct0:Fct:=⟨0,0,0,0,str0,0,0,str0,str0,[],[],lab0,0,0,0,str0,str0,0,0,0⟩
def sEn:ByteArray:=⟨#[101,110]⟩
def sFr:ByteArray:=⟨#[102,114]⟩
def lenS (ps:List (List UInt8)):Nat:=(ps.map fun p=>p.length+1).sum
theorem trimR_le (l:List UInt8) (c:UInt8):(Lib.trimRightB l c).length<=l.length:=by
 unfold Lib.trimRightB
 rw[List.length_reverse]
 have:=(List.dropWhile_suffix (· == c) (l:=l.reverse)).length_le
 rwa [List.length_reverse]at this
theorem trimB_le (l:List UInt8) (c:UInt8):(Lib.trimB l c).length<=l.length:=by
 unfold Lib.trimB Lib.trimLeftB
 have h1:=(List.dropWhile_suffix (· == c) (l:=Lib.trimRightB l c)).length_le
 have h2:=trimR_le l c
 omega
theorem trimR_pre (l:List UInt8) (c:UInt8):Lib.trimRightB l c <+: l:=by
 unfold Lib.trimRightB
 have:=List.dropWhile_suffix (· == c) (l:=l.reverse)
 have h2:=List.reverse_prefix.2 this
 rwa [List.reverse_reverse]at h2
theorem trimB_lt (l:List UInt8) (c:UInt8) (h:l[0]?=some c):(Lib.trimB l c).length+1<=l.length:=by
 obtain⟨m,hm⟩:=trimR_pre l c
 have h2:=trimR_le l c
 have hl:0<l.length:=(List.getElem?_eq_some_iff.1 h).1
 unfold Lib.trimB Lib.trimLeftB
 cases hr:Lib.trimRightB l c with
 |nil=>simp;omega
 |cons a r=>
  rw[hr]at hm h2
  have:a=c:=by rw[<-hm]at h;simpa using h
  subst this
  rw[List.dropWhile_cons,if_pos (by simp)]
  have h1:=(List.dropWhile_suffix (· == a) (l:=r)).length_le
  simp only[List.length_cons]at h2
  omega
theorem piece_le (s:ByteArray) (a b:Nat) (h:b<=s.size):(piece s a b).length<=b - a:=by
 unfold piece
 refine Nat.le_trans (trimB_le _ _) ?_
 rw[extract_list,List.length_drop,List.length_take,size_list];omega
theorem piece_lt (s:ByteArray) (a b:Nat) (h:b<=s.size) (hab:a<b) (hs:bAt s a=32):(piece s a b).length+1<=b - a:=by
 unfold piece
 have hl:((s.extract a b).data.toList).length=b - a:=by rw[extract_list,List.length_drop,List.length_take,size_list];omega
 rw[<-hl]
 refine trimB_lt _ _ ?_
 rw[extract_list,List.getElem?_drop,Nat.add_zero,List.getElem?_take_of_lt hab]
 have h0:a<s.size:=by omega
 rw[list_get s a h0]
 rw[bAt_get s a h0]at hs
 exact congrArg some (UInt8.toNat_inj.1 hs)
theorem sentGo_len (s:ByteArray):∀ (n start:Nat),n<=s.size->start<=s.size - n->(start=s.size\/bAt s start=32)->lenS (sentGo s n start)<=s.size - start
 |0,start,_,h,hs=>by
  unfold sentGo
  split
  ·exact Nat.zero_le _
  ·next hne=>
   show (piece s start s.size).length+1+0<=_
   rcases hs with hs | hs
   ·subst hs
    exfalso
    apply hne
    have:=piece_le s s.size s.size (Nat.le_refl _)
    exact List.eq_nil_of_length_eq_zero (by omega)
   ·by_cases hlt:start<s.size
    ·exact piece_lt s start s.size (Nat.le_refl _) hlt hs
    ·exfalso
     apply hne
     have:=piece_le s start s.size (Nat.le_refl _)
     exact List.eq_nil_of_length_eq_zero (by omega)
 |n+1,start,hn,h,hs=>by
  unfold sentGo
  by_cases he:sEnds s (s.size - (n+1))=true
  ·rw[if_pos he]
   have h2:=((sEnds_iff s _).1 he).2
   have ih:=sentGo_len s n (s.size - (n+1)+1) (by omega) (by omega) h2
   show (piece s start (s.size - (n+1)+1)).length+1+lenS (sentGo s n (s.size - (n+1)+1))<=_
   rcases hs with hs | hs
   ·omega
   ·have:=piece_lt s start (s.size - (n+1)+1) (by omega) (by omega) hs
    omega
  ·rw[if_neg he]
   exact sentGo_len s n start (by omega) (by omega) hs
theorem sentGo_len0 (s:ByteArray):∀ (n start:Nat),n<=s.size->start<=s.size - n->lenS (sentGo s n start)<=s.size - start+1
 |0,start,_,h=>by
  unfold sentGo
  split
  ·exact Nat.zero_le _
  ·show (piece s start s.size).length+1+0<=_
   have:=piece_le s start s.size (Nat.le_refl _)
   omega
 |n+1,start,hn,h=>by
  unfold sentGo
  by_cases he:sEnds s (s.size - (n+1))=true
  ·rw[if_pos he]
   have h2:=((sEnds_iff s _).1 he).2
   have ih:=sentGo_len s n (s.size - (n+1)+1) (by omega) (by omega) h2
   show (piece s start (s.size - (n+1)+1)).length+1+lenS (sentGo s n (s.size - (n+1)+1))<=_
   have:=piece_le s start (s.size - (n+1)+1) (by omega)
   omega
  ·rw[if_neg he]
   exact sentGo_len0 s n start (by omega) (by omega)
theorem sentF_len (s:ByteArray):lenS (sentF s)<=s.size+1:=sentGo_len0 s s.size 0 (Nat.le_refl _) (by omega)
theorem lenS_set:∀ (ps:List (List UInt8)) (k:Nat) (u:List UInt8),lenS (ps.set k u)<=lenS ps+u.length
 |[],_,_=>by simp[lenS]
 |p::r,0,u=>by
  show u.length+1+lenS r<=p.length+1+lenS r+u.length
  omega
 |p::r,k+1,u=>by
  have:=lenS_set r k u
  show p.length+1+lenS (r.set k u)<=p.length+1+lenS r+u.length
  omega
theorem joinB_len:∀ (ps:List (List UInt8)),(joinB ps).length<=lenS ps - 1
 |[]=>Nat.zero_le _
 |[a]=>by
  show a.length<=a.length+1+0 - 1
  omega
 |a::b::r=>by
  have:=joinB_len (b::r)
  have h2:1<=lenS (b::r):=by show 1<=b.length+1+lenS r;omega
  show (a++[32]++joinB (b::r)).length<=a.length+1+lenS (b::r) - 1
  simp only[List.length_append,List.length_cons,List.length_nil]
  omega
theorem corrected_len (t:ByteArray) (k:Nat) (u:List UInt8):(joinB ((sentF t).set k u)).length<=t.size+u.length:=by
 have h1:=joinB_len ((sentF t).set k u)
 have h2:=lenS_set (sentF t) k u
 have h3:=sentF_len t
 omega
theorem joinB_plain_len (t:ByteArray):(joinB (sentF t)).length<=t.size:=by
 have h1:=joinB_len (sentF t)
 have h3:=sentF_len t
 omega
theorem joinB_eq:∀ ps:List (List UInt8),Lib.join ps [32]=joinB ps
 |[]=>rfl
 |[a]=>Lib.join_one a [32]
 |a::b::r=>by
  rw[show joinB (a::b::r)=a++[32]++joinB (b::r) from rfl,<-joinB_eq (b::r),Lib.join_cons,Lib.join_cons]
  unfold Lib.joinTail
  simp
theorem applyB_size (c:Corr) (b:Blk):(applyB c b).text.size<=b.text.size+c.text.size:=by
 unfold applyB
 split
 ·show (bs _).size<=_
  rw[bs_size]
  have:=corrected_len b.text c.sentence.toNat c.text.data.toList
  rwa [size_list]at this
 ·omega
theorem applyB_same (c:Corr) (b:Blk):(applyB c b).id=b.id/\(applyB c b).kind=b.kind/\(applyB c b).lab=b.lab:=by
 unfold applyB
 split <;> exact⟨rfl,rfl,rfl⟩
theorem applyF_none:∀ {l:List Blk} {c:Corr},(∀ x∈l,x.id≠c.block)->applyF l c=l
 |[],_,_=>rfl
 |b::l,c,h=>by
  unfold applyF
  rw[if_neg (h b List.mem_cons_self),applyF_none (fun x hx=>h x (List.mem_cons_of_mem _ hx))]
theorem applyF_at:∀ {l:List Blk} {c:Corr} (k:Nat) (hk:k<l.length),l[k].id=c.block->(∀ j (hj:j<k),(l[j]'(by omega)).id≠c.block)->applyF l c=l.set k (applyB c l[k])
 |[],_,_,hk,_,_=>absurd hk (by simp)
 |b::l,c,0,_,h,_=>by
  unfold applyF
  rw[if_pos (by simpa using h)];rfl
 |b::l,c,k+1,hk,h,hj=>by
  unfold applyF
  rw[if_neg (by simpa using hj 0 (by omega)),applyF_at k (by simpa using hk) (by simpa using h) (fun j q=>by simpa using hj (j+1) (by omega))]
  rfl
theorem applyF_len:∀ (l:List Blk) (c:Corr),(applyF l c).length=l.length
 |[],_=>rfl
 |b::l,c=>by
  unfold applyF
  split
  ·rfl
  ·rw[List.length_cons,applyF_len l c];rfl
theorem applyF_all {p q:Blk->Prop} {c:Corr} (h1:∀ x,p x->q x) (h2:∀ x,p x->q (applyB c x)):∀ {l:List Blk},(∀ x∈l,p x)->∀ x∈applyF l c,q x
 |[],_,x,hx=>by cases hx
 |b::l,h,x,hx=>by
  unfold applyF at hx
  split at hx
  ·rcases List.mem_cons.1 hx with rfl | hx
   ·exact h2 b (h b List.mem_cons_self)
   ·exact h1 x (h x (List.mem_cons_of_mem _ hx))
  ·rcases List.mem_cons.1 hx with rfl | hx
   ·exact h1 x (h x List.mem_cons_self)
   ·exact applyF_all h1 h2 (fun y hy=>h y (List.mem_cons_of_mem _ hy)) x hx
end Go.Proofs.YtdkkhmjlamkgdaaGreatDoor.Mg
namespace Go.Proofs.YtdkkhmjlamkgdaaGreatDoor
open Go.RowKit Mg Go.Shelf Go.Maps
theorem own_set {w:World} {B:Nat} {e:TypeId} {sz g n m cap:Nat} {xs:List Value} (h:w.ownsRow B e sz (.slice (some ⟨g,0,none⟩) n cap) m xs) (i:Nat) (u:Value):(w.setCell ⟨g,i,none⟩ u).ownsRow B e sz (.slice (some ⟨g,0,none⟩) n cap) m (xs.set i u):=by
 refine⟨by rw[List.length_set];exact h.1,?_⟩
 rcases h.2 with ⟨hq,_⟩ | ⟨g',cap',cur,hv,hb,hgg,hn,hc,hs,ht⟩
 ·cases hq
 ·injection hv with hv hv2 hv3
  injection hv with hv
  injection hv with hv
  subst hv hv2 hv3
  refine .inr ⟨g,cap,cur.setIfInBounds i u,rfl,hb,?_,hn,hc,by rw[Array.size_setIfInBounds];exact hs,?_⟩
  ·rw[setCell_eq_setRow w g i cur e (0,0) u hgg]
   exact setRow_heap _ _ _ _ _ _ hgg
  ·rw[Array.toList_setIfInBounds,List.take_set,ht]
theorem BVals.setText {M:Addr->Option Value} {t:ByteArray}:∀ {l:List Blk} {vs:List Value},BVals M l vs->∀ (k:Nat) (hk:k<l.length),BVals M (l.set k { l[k] with text:=t }) (vs.set (k * 9+2) (.string t))
 |[],_,_,_,hk=>absurd hk (by simp)
 |x::l,_,⟨a,cap,rest,h1,h2,h3⟩,0,_=>by
  subst h2
  exact⟨a,cap,rest,h1,rfl,h3⟩
 |x::l,_,⟨a,cap,rest,h1,h2,h3⟩,k+1,hk=>by
  subst h2
  refine⟨a,cap,rest.set (k * 9+2) (.string t),h1,?_,h3.setText k (by simpa using hk)⟩
  rw[List.set_append_right _ _ (by simp;omega)]
  congr 2
  simp;omega
theorem BRow.setText {w:World} {B g n cap:Nat} {l:List Blk} (h:BRow w B (.slice (some ⟨g,0,none⟩) n cap) l) (k:Nat) (hk:k<l.length) (t:ByteArray):
 BRow (w.setCell ⟨g,k * 9+2,none⟩ (.string t)) B (.slice (some ⟨g,0,none⟩) n cap) (l.set k { l[k] with text:=t }):=by
 obtain⟨vs,h1,h2⟩:=h
 refine⟨vs.set (k * 9+2) (.string t),by rw[List.length_set];exact own_set h1 _ _,?_⟩
 refine(h2.setText k hk).mono (memFr_mono ((Upd.refl (fun b=>b=g) w).setCell (p:=⟨g,k * 9+2,none⟩) (.inl rfl) _) fun b _ hF=>⟨hF,fun e=>hF (.inr (by rw[e];rfl))⟩)
theorem BRow.same {w w':World} {B:Nat} {v:Value} {l:List Blk} (h:BRow w B v l) (hb:Below w.heap.size w w'):BRow w' B v l:=
 h.kept (Upd.of_below hb) (fun _ hk=>.inr hk)
theorem BRow.cell {w:World} {B:Nat} {v:Value} {l:List Blk} (h:BRow w B v l) (k:Nat) (hk:k<l.length):∃ g cap,v=.slice (some ⟨g,0,none⟩) l.length cap/\B<=g/\g<w.heap.size/\l.length<=cap/\cap<=maxLen/\w.cell? ⟨g,k * 9+1,none⟩=some (.int .i64 l[k].kind)/\w.cell? ⟨g,k * 9+2,none⟩=some (.string l[k].text)/\w.frozen? ⟨g,k * 9+2,none⟩=false:=by
 obtain⟨vs,h1,h2⟩:=h
 obtain⟨a,cp,_,hv⟩:=h2.get k hk
 rcases h1.2 with ⟨_,hz⟩ | ⟨g,cap,cur,rfl,hb,hgg,hn,hc,hs,ht⟩
 ·omega
 ·have hcell:∀ t,t<9->w.cell? ⟨g,k * 9+t,none⟩=(blkVals l[k] (.slice a l[k].lab.after.length cp))[t]?:=fun t ht9=>by
   rw[rowcell hgg]
   have h5:(cur.toList.take (l.length * 9))[k * 9+t]?=vs[k * 9+t]?:=by rw[ht]
   rw[List.getElem?_take_of_lt (by omega)]at h5
   rw[<-Array.getElem?_toList,h5]
   exact hv t ht9
  exact⟨g,cap,rfl,hb,hlt hgg,hn,hc,hcell 1 (by omega),hcell 2 (by omega),rowfree hgg⟩
def BOK (x:Blk):Prop:=x.text.size<=maxLen/\okI x.kind/\okI x.id
def AppPost (B:Nat) (v:Value) (l:List Blk) (c:Corr) (w:World) (e:Ending) (w':World):Prop:=e=.returned (.tuple #[])/\BRow w' B v (applyF l c)/\Upd (fun k=>v.ownBlock=some k) w w'
set_option maxRecDepth 100000 in
set_option maxHeartbeats 8000000 in
theorem apply_any {B:Nat} {v:Value} {l:List Blk} (w:World) (h:BRow w B v l) (hp:∀ x∈l,BOK x) (ht:∀ x∈l,x.text.size<=1000000000) (c:Corr) (_hc:CorrOK c) (hc2:c.text.size<=1000000000):
 Calls Tryz.prog 115 #[v,.agg (corrCells c)] w (AppPost B v l c w):=by
 obtain⟨W1,hW1⟩:∃ W1,W1=w.alloc (.cells (corrCells c) 69):=⟨_,rfl⟩
 have hb1:Below w.heap.size w W1:=by rw[hW1];exact bel1 _ _
 have hc1:W1.heap[w.heap.size]?=some (.cells (corrCells c) 69 (0,0)):=by rw[hW1];exact World.alloc_heap_new _ _
 have h1:=h.same hb1
 have cI:=Lib.hid (indexFunc_any (h1.blks hp) (says_apply c w.heap.size) W1 (memFr_sees W1 _) hc1)
 have HW1:=Lib.hid hW1
 have HB1:=Lib.hid hb1
 have HC1:=Lib.hid hc1
 have H1:=Lib.hid h1
 have HT:=Lib.hid ht
 clear hW1 hb1 hc1 h1 ht h hp
 go_enter Tryz.func115,Tryz.ntmps115
 go_upto_region 1 with fail
 rw[<-HW1.out]
 go_wp2_with fail
 refine cI.out.mono ?_
 rintro e W2 ⟨i,rfl,hi,hb2⟩
 have HB2:=Lib.hid hb2
 have H2:=Lib.hid (H1.out.same hb2)
 have hC2:W2.heap[w.heap.size]?=some (.cells (corrCells c) 69 (0,0)):=(hb2.block _ (hlt HC1.out)).trans HC1.out
 have HC2:=Lib.hid hC2
 have HU2:Hid (Upd (fun k=>v.ownBlock=some k) w W2):=Lib.hid (((Upd.refl _ w).bel HB1.out).bel hb2)
 clear hb2 cI hC2 H1 HB1 HC1
 rcases hi with ⟨rfl,hno⟩ | ⟨k,rfl,hk,hyes,hbef⟩
 ·have HP:Hid (AppPost B v l c w (.returned (.tuple #[])) W2):=Lib.hid ⟨rfl,by rw[applyF_none (fun x hx=>by simpa using hno x hx)];exact H2.out,HU2.out⟩
  clear hno
  go_wp2_with fail
  refine bodyPost_ret (results_none rfl _ _ _) rfl ?_
  exact HP.out
 ·obtain⟨g,cap,rfl,hgB,hgl,hc0,hc3,kk,kt,kf⟩:=H2.out.cell k hk
  have HAP:Hid (applyF l c=l.set k (applyB c l[k])):=Lib.hid (applyF_at k hk (by simpa using hyes) (fun j hj=>by simpa using hbef j hj))
  have htx:=HT.out _ (List.getElem_mem hk)
  have HX:Hid (∀ W3,Below W2.heap.size W2 W3->applyB c l[k]=l[k]->AppPost B (.slice (some ⟨g,0,none⟩) l.length cap) l c w (.returned (.tuple #[])) W3):=Lib.hid (fun W3 hb e=>⟨rfl,by rw[HAP.out,e,List.set_getElem_self];exact H2.out.same hb,HU2.out.bel hb⟩)
  have HN:Hid (∀ t W3,applyB c l[k]={ l[k] with text:=t }->Below W2.heap.size W2 W3->AppPost B (.slice (some ⟨g,0,none⟩) l.length cap) l c w (.returned (.tuple #[])) (W3.setCell ⟨g,k * 9+2,none⟩ (.string t))):=Lib.hid (fun t W3 e hb=>⟨rfl,by rw[HAP.out,e];exact(H2.out.same hb).setText k hk t,(HU2.out.bel hb).setCell (p:=⟨g,k * 9+2,none⟩) (.inl rfl) _⟩)
  have k2:W2.cell? ⟨w.heap.size,2,none⟩=some (.int .i64 c.sentence):=rowcell HC2.out
  have hcl:l.length<=9223372036854775807:=by unfold maxLen at hc3;omega
  clear hyes hbef HAP
  generalize l[k]=x at *
  obtain⟨xid,kd,xt,xs,xr,xl⟩:=x
  dsimp only at kk kt htx
  have hkd:(kd=1\/kd=2\/kd=4)\/(((kd:Int) == 1)=false/\((kd:Int) == 2)=false/\((kd:Int) == 4)=false/\¬ (kd=1\/kd=2\/kd=4)):=by
   by_cases h:kd=1\/kd=2\/kd=4
   ·exact .inl h
   ·exact .inr ⟨by simp;omega,by simp;omega,by simp;omega,h⟩
  rcases hkd with hkd | ⟨n1,n2,n4,hno⟩
  ·have HKD:=Lib.hid hkd
   have HXX:Hid (¬ (0<=c.sentence/\c.sentence<(sentF xt).length)->∀ W3,Below W2.heap.size W2 W3->AppPost B (.slice (some ⟨g,0,none⟩) l.length cap) l c w (.returned (.tuple #[])) W3):=Lib.hid (fun hn W3 hb=>HX.out W3 hb (by
    unfold applyB
    rw[if_neg (fun q=>hn ⟨q.2.1,q.2.2⟩)]))
   have HNN:Hid (∀ (m:Nat) W3,c.sentence=(m:Int)->m<(sentF xt).length->Below W2.heap.size W2 W3->AppPost B (.slice (some ⟨g,0,none⟩) l.length cap) l c w (.returned (.tuple #[])) (W3.setCell ⟨g,k * 9+2,none⟩ (.string (bs (joinB ((sentF xt).set m c.text.data.toList)))))):=Lib.hid (fun m W3 hm hlt hb=>HN.out _ W3 (by
    unfold applyB
    rw[if_pos ⟨HKD.out,by omega,by show c.sentence<((sentF xt).length:Int);omega⟩,hm];rfl) hb)
   rcases hkd with rfl | rfl | rfl
   all_goals
    go_wp2_with fail
    refine(Sentences_any xt (by omega) _).mono ?_
    rintro e W3 ⟨sv,rfl,hsr,hb3⟩
    have hl:=lrow_of hsr
    obtain⟨sa,sc,hsv⟩:=lrow_shape hl
    subst hsv
    rw[List.length_map]
    rw[List.length_map]at hl
    have HLR:=Lib.hid hl
    have HB3:=Lib.hid hb3
    have hC3:W3.heap[w.heap.size]?=some (.cells (corrCells c) 69 (0,0)):=(hb3.block _ (hlt HC2.out)).trans HC2.out
    have HC3:=Lib.hid hC3
    have c2:W3.cell? ⟨w.heap.size,2,none⟩=some (.int .i64 c.sentence):=rowcell hC3
    have hsl:(sentF xt).length<=2000000000:=by
     have h1:=sentF_len xt
     have h2:(sentF xt).length<=lenS (sentF xt):=by
      generalize sentF xt=P
      induction P with
      |nil=>exact Nat.zero_le _
      |cons a r ih=>show r.length+1<=a.length+1+lenS r;omega
     omega
    by_cases hin:0<=c.sentence/\c.sentence<(sentF xt).length
    ·obtain⟨m,hm⟩:=Int.eq_ofNat_of_zero_le hin.1
     have hml:m<(sentF xt).length:=by omega
     rw[hm]at c2
     have HM:=Lib.hid hm
     have c3:W3.cell? ⟨w.heap.size,3,none⟩=some (.string c.text):=rowcell hC3
     have hml2:m<((sentF xt).map bs).length:=by rw[List.length_map];exact hml
     have hml3:m<(((sentF xt).map bs).map fun x=>(#[.string x]:Array Value)).length:=by rw[List.length_map,List.length_map];exact hml
     obtain⟨sg,sc',hsv,hsB,hsgl,_,hscm,hsc,hsf⟩:=GRow.at_ hl m hml3
     have hsv1:=hsv
     injection hsv1 with e1 e2 e3
     subst e1 e3
     have s0:W3.cell? ⟨sg,m,none⟩=some (.string (((sentF xt).map bs)[m]'hml2)):=by
      have:=hsc 0 (by omega)
      rw[List.getElem_map]at this
      simpa using this
     have z0:W3.frozen? ⟨sg,m,none⟩=false:=hsf m
     clear e2
     have HSB:=Lib.hid hsB
     have HGL:=Lib.hid hgl
     have hxl:(((sentF xt).map bs).set m c.text).length=(sentF xt).length:=by rw[List.length_set,List.length_map]
     have HJ:Hid (∀ W4,W4=W3.setCell ⟨sg,m,none⟩ (.string c.text)->Calls Tryz.prog 99 #[.slice (some ⟨sg,0,none⟩) (sentF xt).length sc,.string ⟨#[32]⟩] W4 fun e w'=>e=.returned (.string (bs (joinB ((sentF xt).set m c.text.data.toList))))/\Below W4.heap.size W4 w'):=Lib.hid (fun W4 hW4=>by
      have hset:=GRow.set_ HLR.out m 0 hml3 (by omega) (u:=.string c.text) rfl
      have hlx:LRow W4 W2.heap.size (.slice (some ⟨sg,0,none⟩) (sentF xt).length sc) (((sentF xt).map bs).set m c.text):=by
       unfold LRow
       rw[List.map_set,hW4]
       rw[List.getElem_map]at hset
       have e:m * 1+0=m:=by omega
       rw[e]at hset
       exact hset
      have hcells:∀ (j:Nat) (x:ByteArray),(((sentF xt).map bs).set m c.text)[j]?=some x->W4.cell? ⟨sg,0+j,none⟩=some (.string x):=fun j x hj=>by
       obtain⟨hjl,rfl⟩:=List.getElem?_eq_some_iff.1 hj
       obtain⟨g2,c2,e,_,hcell,_⟩:=lrow_get hlx j hjl
       injection e with e _ _
       injection e with e
       injection e with e
       subst e
       rw[Nat.zero_add];exact hcell
      have hjoin:Lib.join ((((sentF xt).map bs).set m c.text).map (·.data.toList)) [32]=joinB ((sentF xt).set m c.text.data.toList):=by
       rw[joinB_eq,List.map_set,List.map_map]
       congr 2
       have:((fun x:ByteArray=>x.data.toList) ∘ bs)=id:=funext fun l=>bs_list l
       rw[this,List.map_id]
      have hjl:=corrected_len xt m c.text.data.toList
      rw[size_list]at hjl
      have hgl4:sg<W4.heap.size:=by rw[hW4];simpa [World.setCell] using hsgl
      have:=Tryz.strings_Join sg 0 sc (((sentF xt).map bs).set m c.text) ⟨#[32]⟩ W4 hcells hgl4 (by rw[hxl];omega) (by rw[hxl];have:=GRow.at_ HLR.out m hml3;obtain⟨_,_,e,_,_,hle,_⟩:=this;injection e with _ _ e;rw[List.length_map,List.length_map]at hle;omega) (by
       show (Lib.join _ [32]).length<=_
       rw[hjoin];omega)
      rw[hxl]at this
      refine this.mono fun e w' h=>?_
      have h1:=h.1
      have h2:(⟨#[32]⟩:ByteArray).data.toList=[32]:=rfl
      rw[h2,hjoin]at h1
      exact⟨h1,h.2⟩)
     have HZ:Hid (∀ W4,W4=W3.setCell ⟨sg,m,none⟩ (.string c.text)->Below W2.heap.size W2 W4):=Lib.hid (fun W4 hW4=>by rw[hW4];exact HB3.out.setCell (by show W2.heap.size<=sg;exact HSB.out) _)
     have HKT:=Lib.hid kt
     have HKF:=Lib.hid kf
     clear hb3 hC3 hsr hl hin k2 kk kt kf hm hsv hsc hsf hxl hsB hgl
     have cJ:=Lib.hid (HJ.out _ rfl)
     have HB4:=Lib.hid (HZ.out _ rfl)
     clear HJ HZ
     go_wp2_with fail
     refine cJ.out.mono ?_
     rintro e W5 ⟨rfl,hb5⟩
     have hb25:Below W2.heap.size W2 W5:=HB4.out.trans (hb5.mono HB4.out.size)
     have HB5:=Lib.hid hb25
     have t2:W5.cell? ⟨g,k * 9+2,none⟩=some (.string xt):=(hb25.cell (p:=⟨g,k * 9+2,none⟩) HGL.out).trans HKT.out
     have tf:W5.frozen? ⟨g,k * 9+2,none⟩=false:=(hb25.frozen (p:=⟨g,k * 9+2,none⟩) HGL.out).trans HKF.out
     have HF:=Lib.hid (HNN.out m W5 HM.out hml hb25)
     clear hb5 hb25 cJ HB4
     go_wp2_with fail
     refine bodyPost_end (results_none rfl _ _ _) rfl ?_
     exact HF.out
    ·have HF:=Lib.hid (HXX.out hin W3 hb3)
     have hs2:c.sentence<0\/(0<=c.sentence/\((sentF xt).length:Int)<=c.sentence):=by omega
     clear hb3 hC3 hsr hl hin k2 kk kt kf
     rcases hs2 with hs2 | ⟨hs2,hs3⟩
     ·go_wp2_with fail
      refine bodyPost_end (results_none rfl _ _ _) rfl ?_
      exact HF.out
     ·go_wp2_with fail
      refine bodyPost_end (results_none rfl _ _ _) rfl ?_
      exact HF.out
  ·have HR:=Lib.hid (HX.out W2 (Below.refl _ _) (by
    unfold applyB
    rw[if_neg (fun q=>hno q.1)]))
   clear hno
   go_wp2_with fail
   refine bodyPost_end (results_none rfl _ _ _) rfl ?_
   exact HR.out
end Go.Proofs.YtdkkhmjlamkgdaaGreatDoor
namespace Go.Proofs.YtdkkhmjlamkgdaaGreatDoor.Mg
def GB (l:List Blk):Prop:=l.length<=100/\∀ x∈l,x.text.size<=1000/\x.lab.after.length<=1000
theorem GB.nil:GB []:=⟨by simp,fun x h=>by cases h⟩
theorem mergeF_in {X Y Z:List Blk} (h:(mergeF X Y Z).2.2=0):∀ x∈(mergeF X Y Z).1,x∈Y\/x∈Z:=fun x hx=>by
 obtain⟨_,_,_,_,h2⟩:=mergeF_ok h
 rw[h2]at hx
 unfold Mg.merged at hx
 obtain⟨i,_,hi⟩:=List.mem_filterMap.1 hx
 exact(pickAt_id hi).2
theorem GB.merged {X Y Z:List Blk} (hY:GB Y) (hZ:GB Z) (h:(mergeF X Y Z).2.2=0):GB (mergeF X Y Z).1:=by
 obtain⟨_,_,_,h1,h2⟩:=mergeF_ok h
 rw[h2]
 refine⟨by have:=h1.1;omega,fun x hx=>?_⟩
 unfold Mg.merged at hx
 obtain⟨i,_,hi⟩:=List.mem_filterMap.1 hx
 rcases (pickAt_id hi).2 with h | h
 ·exact hY.2 x h
 ·exact hZ.2 x h
theorem GB.revised {l:List Fct} {now:List Blk} {f:Fct} (hn:GB now) (hf:GB f.blocks):GB (revised l now f):=by
 unfold Mg.revised
 split
 ·exact hf
 ·split
  ·exact hf
  ·split
   ·next h=>exact GB.merged hn hf h
   ·exact hf
theorem blksOf_good:∀ (k:Nat) {l:List Fct},(∀ f∈l,GB f.blocks)->GB (blksOf (l.take k))
 |0,l,_=>by rw[List.take_zero];exact GB.nil
 |k+1,l,h=>by
  by_cases hk:k<l.length
  ·rw[List.take_succ_eq_append_getElem hk,blksOf_snoc]
   exact GB.revised (blksOf_good k h) (h _ (List.getElem_mem hk))
  ·rw[List.take_of_length_le (by omega)]
   have:=blksOf_good k h
   rwa [List.take_of_length_le (by omega)]at this
def GT (l:List Blk) (n:Nat):Prop:=l.length<=100/\∀ x∈l,x.text.size<=1000+1000 * n
theorem GT.step {l:List Blk} {n:Nat} {c:Corr} (h:GT l n) (hc:c.text.size<=1000):GT (applyF l c) (n+1):=by
 refine⟨by rw[applyF_len];exact h.1,applyF_all (p:=fun x=>x.text.size<=1000+1000 * n) (fun x hx=>by omega) (fun x hx=>by have:=applyB_size c x;omega) h.2⟩
end Go.Proofs.YtdkkhmjlamkgdaaGreatDoor.Mg
namespace Go.Proofs.YtdkkhmjlamkgdaaGreatDoor
open Go.RowKit Mg Go.Shelf Go.Maps
noncomputable def memNo (W:World) (F:Nat->Prop) (a:Addr):Option Value:=open Classical in if F a.block then none else W.cell? a
theorem memNo_sees (W:World) (F:Nat->Prop):Sees (memNo W F) W:=fun a u h=>by
 unfold memNo at h
 split at h
 ·cases h
 ·exact h
theorem memNo_of {W:World} {F:Nat->Prop} {a:Addr} {u:Value} (h:W.cell? a=some u) (hF:¬ F a.block):memNo W F a=some u:=by unfold memNo;rw[if_neg hF];exact h
theorem memNo_get {W:World} {F:Nat->Prop} {a:Addr} {u:Value} (h:memNo W F a=some u):W.cell? a=some u/\¬ F a.block:=by
 unfold memNo at h
 split at h
 ·cases h
 ·next hF=>exact⟨h,hF⟩
theorem memNo_upd {W W':World} {F H:Nat->Prop} (hu:Upd H W W') (h:∀ k,k<W.heap.size->H k->F k):∀ a u,memNo W F a=some u->memNo W' F a=some u:=fun a u e=>by
 obtain⟨h1,h2⟩:=memNo_get e
 exact memNo_of (hu.cell_some h1 fun hH=>h2 (h _ (World.block_lt_of_cell? W a h1) hH)) h2
theorem memNo_bel {W W':World} {F:Nat->Prop} (hb:Below W.heap.size W W'):∀ a u,memNo W F a=some u->memNo W' F a=some u:=fun a u e=>by
 obtain⟨h1,h2⟩:=memNo_get e
 exact memNo_of (sees_bel hb a u h1) h2
theorem memNo_fr {W:World} {F G:Nat->Prop} (h:∀ k,F k->G k):∀ a u,memFr W G a=some u->memNo W F a=some u:=fun a u e=>by
 obtain⟨_,h2,_⟩:=memFr_lt a u e
 exact memNo_of (memFr_sees W G a u e) (fun hF=>h2 (h _ hF))
theorem sees_lt {mem:Addr->Option Value} {w:World} (h:Sees mem w) {a:Addr} {u:Value} (e:mem a=some u):a.block<w.heap.size:=World.block_lt_of_cell? w a (h a u e)
def GC (l:List Blk) (n:Nat):Prop:=GT l n/\∀ x∈l,okI x.kind/\okI x.id/\x.lab.after.length<=1000
def GD (l:List Blk):Prop:=l.length<=100/\∀ x∈l,x.text.size<=1000000000/\okI x.kind/\okI x.id/\x.lab.after.length<=1000
theorem GC.done {l:List Blk} {n:Nat} (h:GC l n) (hn:n<=900000):GD l:=⟨h.1.1,fun x hx=>⟨by have:=h.1.2 x hx;omega,h.2 x hx⟩⟩
theorem GC.step {l:List Blk} {n:Nat} {c:Corr} (h:GC l n) (hc:c.text.size<=1000):GC (applyF l c) (n+1):=
 ⟨h.1.step hc,applyF_all (p:=fun x=>okI x.kind/\okI x.id/\x.lab.after.length<=1000) (q:=fun x=>okI x.kind/\okI x.id/\x.lab.after.length<=1000) (fun _ hx=>hx) (fun x hx=>by have:=applyB_same c x;rw[this.1,this.2.1,this.2.2];exact hx) h.2⟩
theorem GC.zero {l:List Blk} (h:GB l) (hk:∀ x∈l,okI x.kind/\okI x.id):GC l 0:=⟨⟨h.1,fun x hx=>by have:=(h.2 x hx).1;omega⟩,fun x hx=>⟨(hk x hx).1,(hk x hx).2,(h.2 x hx).2⟩⟩
theorem GC.fold:∀ (cs:List Corr) {l:List Blk} {n:Nat},GC l n->(∀ c∈cs,c.text.size<=1000)->GC (cs.foldl applyF l) (n+cs.length)
 |[],_,_,h,_=>h
 |c::cs,_,n,h,hc=>by
  have:=GC.fold cs (h.step (hc c List.mem_cons_self)) (fun x hx=>hc x (List.mem_cons_of_mem _ hx))
  rw[List.foldl_cons,List.length_cons,show n+(cs.length+1)=n+1+cs.length by omega]
  exact this
theorem upd_row (W:World) (g:Nat) (cs:Array Value):Upd (fun k=>k=g) W (W.setRow g cs):=by
 have h:=below_setRow (Below.refl g W) (Nat.le_refl _) cs
 exact⟨h.os,h.tape,h.output,h.size,fun k _ hn=>setRow_other _ _ _ _ hn⟩
def Scr (s k:Nat):Prop:=k=s\/k=s+1
abbrev zEdn:Array Value:=#[.string ⟨#[]⟩,.int .i64 0,.string ⟨#[]⟩,.slice none 0 0,.int .i64 0]
structure FinI (w:World) (revs:List Fct) (k:Nat) (v:Value) (wr:World):Prop where
 low:Below w.heap.size w wr
 size:w.heap.size+1<wr.heap.size
 res:wr.heap[w.heap.size]?=some (.cells zEdn 39 (0,0))
 map:∃ n gN,n<=k/\KMap Tryz.prog 3 wr (w.heap.size+1) n gN/\∀ b,okI b->BlksM (memNo wr (Scr w.heap.size)) ((gN (.int .i64 b)).getD (.slice none 0 0)) (Mg.named (revs.take k) b)
 now:BlksM (memNo wr (Scr w.heap.size)) v (blksOf (revs.take k))
theorem FinI.start (w:World) (revs:List Fct):FinI w revs 0 (.slice none 0 0) ((w.alloc (.cells zEdn 39)).alloc (.map #[] 0)):=by
 have hb:Below w.heap.size w ((w.alloc (.cells zEdn 39)).alloc (.map #[] 0)):=(bel1 w _).trans ((bel1 _ _).mono (bel1 w _).size)
 refine⟨hb,by show w.heap.size+1<((w.heap.push _).push _).size;rw[Array.size_push,Array.size_push];omega,heap_new1 w _ _,⟨0,fun _=>none,Nat.le_refl _,KMap.made _ _ ?_,fun b _=>?_⟩,?_⟩
 ·have:=World.alloc_heap_new (w.alloc (.cells zEdn 39)) (.map #[] 0)
  have e:(w.alloc (.cells zEdn 39)).heap.size=w.heap.size+1:=by show (w.heap.push _).size=_;rw[Array.size_push]
  rw[e]at this
  exact this
 ·rw[List.take_zero];exact BlksM.nil _
 ·rw[List.take_zero];exact BlksM.nil _
theorem FinI.mem {mem:Addr->Option Value} {w wr:World} {revs:List Fct} {k:Nat} {v:Value} (h:FinI w revs k v wr) (hs:Sees mem w):∀ a u,mem a=some u->memNo wr (Scr w.heap.size) a=some u:=fun a u e=>
 memNo_of (hs.bel h.low a u e) (fun hF=>by have:=sees_lt hs e;unfold Scr at hF;omega)
theorem FinI.keep {w wr wr':World} {revs:List Fct} {k:Nat} {v:Value} (h:FinI w revs k v wr) (hb:Below wr.heap.size wr wr'):FinI w revs k v wr':=by
 obtain⟨n,gN,h1,h2,h3⟩:=h.map
 have hz:=h.size
 exact⟨h.low.trans (hb.mono h.low.size),Nat.lt_of_lt_of_le h.size hb.size,(hb.block _ (by omega)).trans h.res,⟨n,gN,h1,h2.bel hb,fun b hb2=>(h3 b hb2).mono (memNo_bel hb)⟩,h.now.mono (memNo_bel hb)⟩
theorem FinI.step {w wr wr':World} {revs:List Fct} {k:Nat} {v v' bv:Value} (h:FinI w revs k v wr) (hk:k<revs.length) (hk2:k<=1000000) (hr:okI revs[k].rev) (hb:Below wr.heap.size wr wr')
 (hn:BlksM (memNo wr' (Scr w.heap.size)) v' (blksOf (revs.take (k+1)))) (hf:BlksM (memNo wr' (Scr w.heap.size)) bv revs[k].blocks):
 ∃ wq,(Instr.mapUpdate 161 (.map (some (w.heap.size+1))) (.int .i64 revs[k].rev) bv).run Tryz.prog wr'=.ok () wq/\FinI w revs (k+1) v' wq:=by
 have h':=h.keep hb
 obtain⟨n,gN,h1,h2,h3⟩:=h'.map
 obtain⟨wq,r1,r2,hg⟩:=h2.store K_int Tryz.underlying161 (by unfold maxLen;omega) (key_int hr) bv
 refine⟨wq,r1,?_⟩
 have hu:Upd (fun b=>b=w.heap.size+1) wr' wq:=(Upd.refl _ _).grown hg fun k e=>.inl (by cases e;rfl)
 have hm:∀ a u,memNo wr' (Scr w.heap.size) a=some u->memNo wq (Scr w.heap.size) a=some u:=memNo_upd hu fun b _ e=>.inr e
 have hz:=h'.size
 refine⟨?_,Nat.lt_of_lt_of_le h'.size hu.size,(hu.block _ (by omega) (by omega)).trans h'.res,⟨n+1,_,by omega,r2,fun b hb2=>?_⟩,hn.mono hm⟩
 ·exact h'.low.grown hg h'.low.size (fun k e=>by cases e;omega)
 ·rw[List.take_succ_eq_append_getElem hk,named_snoc]
  by_cases e:revs[k].rev=b
  ·rw[if_pos e,if_pos (by rw[e])]
   exact hf.mono hm
  ·rw[if_neg e,if_neg (fun q=>by injection q with _ q;exact e q.symm)]
   exact(h3 b hb2).mono hm
theorem results_cell_row2 {P:Program} {fn:Func} {p u:Tmp} {ty:TypeId} (h:fn.results=#[.cell p ty,.tmp u]) (tmps:Array Value) (w:World) (g:Nat) (t:TypeId) (cs:Array Value) (fr:Nat × Nat) (d:TypeDesc)
 (hp:tmps.getD p undef=.pointer (some ⟨g,0,none⟩)) (hg:w.heap[g]?=some (.cells cs t fr))
 (hu:P.underlying ty=some d) (hd:(match d with | .struct _ | .array _ _=>true | _=>false)=true) (hi:(P.info? ty).map (·.size)=some cs.size):
 (results fn tmps).run P w=.ok (.tuple #[.agg cs,tmps.getD u undef]) w:=by
 have hp':tmps[p]?.getD undef=.pointer (some ⟨g,0,none⟩):=by simpa using hp
 simp[results,h,hp',asAddr,run_loadVar_row w g t ty cs fr d hg hu hd hi]
theorem find_at {α:Type} {p:α->Bool}:∀ {l:List α} (k:Nat) (hk:k<l.length),p l[k]=true->(∀ j (hj:j<k),p (l[j]'(by omega))=false)->l.find? p=some l[k]
 |[],_,hk,_,_=>absurd hk (by simp)
 |a::l,0,_,h,_=>List.find?_cons_of_pos h
 |a::l,k+1,hk,h,hb=>by
  rw[List.find?_cons_of_neg (by have:=hb 0 (by omega);simpa using this)]
  exact find_at k (by simpa using hk) h (fun j hj=>hb (j+1) (by omega))
theorem find_no {α:Type} {p:α->Bool} {l:List α} (h:∀ j (hj:j<l.length),p l[j]=false):l.find? p=none:=
 List.find?_eq_none.2 fun x hx=>by
  obtain⟨j,hj,rfl⟩:=List.getElem_of_mem hx
  simpa using h j hj
theorem cells_see {mem:Addr->Option Value} {w:World} (hs:Sees mem w) {b o sz:Nat} {cs:Array Value} (h:CellsAt mem b o cs) (hz:cs.size=sz):∀ t,t<sz->w.cell? ⟨b,o+t,none⟩=cs[t]?:=fun t ht=>by
 have h1:=h t (by omega)
 rw[Array.getElem?_eq_getElem (by omega)]at h1 ⊢
 exact hs _ _ h1
theorem findS_at {s:StF} {id:Int} (k:Nat) (hk:k<s.stories.length) (h:s.stories[k].id=id) (hb:∀ j (hj:j<k),(s.stories[j]'(by omega)).id≠id):findS s id=some s.stories[k]:=
 find_at k hk (by simpa using h) (fun j hj=>by simpa using hb j hj)
theorem findE_at {l:List EdnF} {lang:ByteArray} (k:Nat) (hk:k<l.length) (h:l[k].lang=lang) (hb:∀ j (hj:j<k),(l[j]'(by omega)).lang≠lang):findE l lang=some l[k]:=
 find_at k hk (by simpa using h) (fun j hj=>by simpa using hb j hj)
theorem findS_no {s:StF} {id:Int} (h:∀ j (hj:j<s.stories.length),s.stories[j].id≠id):findS s id=none:=find_no fun j hj=>by simpa using h j hj
theorem findE_no {l:List EdnF} {lang:ByteArray} (h:∀ j (hj:j<l.length),l[j].lang≠lang):findE l lang=none:=find_no fun j hj=>by simpa using h j hj
theorem built_sty0:Tryz.prog.built 34 []=some (styCells sty0 (.slice none 0 0) (.slice none 0 0) (.slice none 0 0)):=by kernel_rfl
theorem built_edn0:Tryz.prog.built 39 []=some (ednCells edn0 (.slice none 0 0)):=by kernel_rfl
abbrev zStyC:Array Value:=#[.int .i64 0,.string ⟨#[]⟩,.slice none 0 0,.slice none 0 0,.int .i64 0,.slice none 0 0,.bool false,.bool false]
def StoryAt (mem:Addr->Option Value) (s:StF) (id:Int) (w:World) (e:Ending) (w':World):Prop:=∃ u,e=.returned (.tuple #[u,.bool (findS s id).isSome])/\StyV mem u (styOf s id)/\Below w.heap.size w w'
def EditionAt (mem:Addr->Option Value) (l:List EdnF) (lang:ByteArray) (w:World) (e:Ending) (w':World):Prop:=∃ u,e=.returned (.tuple #[u,.bool (findE l lang).isSome])/\EdnV mem u ((findE l lang).getD edn0)/\Below w.heap.size w w'
set_option maxRecDepth 100000 in
set_option maxHeartbeats 4000000 in
theorem storyAt_any {mem:Addr->Option Value} {v:Value} {s:StF} (h:StateM mem v s) (id:Int) (w:World) (hs:Sees mem w):
 Calls Tryz.prog 37 #[v,.int .i64 id] w (StoryAt mem s id w):=by
 obtain⟨sv,tv,rfl,h1,h2⟩:=h
 obtain⟨ta,tc,rfl⟩:=SlM.slice h2
 obtain⟨sa,sc,sb,so,rfl,hcap,hm,hsa,hat⟩:=SlM.open_ h1
 have HSA:=Lib.hid hsa
 have HAT:=Lib.hid hat
 have HS:=Lib.hid hs
 have hll:s.stories.length<=9223372036854775807:=by unfold maxLen at hm;omega
 obtain⟨W1,hW1⟩:∃ W1,W1=(w.alloc (.cells #[.slice sa s.stories.length sc,.slice ta s.tpls.length tc] 27)).alloc (.cells zStyC 34):=⟨_,rfl⟩
 have hb1:Below w.heap.size w W1:=by rw[hW1];exact(bel1 w _).alloc (by simp) _
 have hn0:W1.heap[w.heap.size]?=some (.cells #[.slice sa s.stories.length sc,.slice ta s.tpls.length tc] 27 (0,0)):=by rw[hW1];exact heap_new1 w _ _
 have hn1:W1.heap[w.heap.size+1]?=some (.cells zStyC 34 (0,0)):=by
  rw[hW1]
  have:=World.alloc_heap_new (w.alloc (.cells #[.slice sa s.stories.length sc,.slice ta s.tpls.length tc] 27)) (.cells zStyC 34)
  simpa using this
 have k0:W1.cell? ⟨w.heap.size,0,none⟩=some (.slice sa s.stories.length sc):=rowcell hn0
 have HN1:=Lib.hid hn1
 have HB1:=Lib.hid hb1
 have HW1:=Lib.hid hW1
 clear h1 h2 hsa hat hs hb1 hn0 hn1 hW1
 go_enter Tryz.func37,Tryz.ntmps37
 go_upto_region 1 with fail
 rw[<-HW1.out]
 go_wp2_with fail
 clear k0
 go_loopw [11] (fun i wr=>∃ k:Nat,k<=s.stories.length/\i=.int .i64 k/\Hid (∀ j (hj:j<s.stories.length),j<k->s.stories[j].id≠id)/\Hid (Below W1.heap.size W1 wr)) (fun i _=>s.stories.length - (intOf i).toNat)
 case atStart=>exact⟨0,Nat.zero_le _,rfl,Lib.hid (fun j _ h=>absurd h (by omega)),Lib.hid (Below.refl _ _)⟩
 case round=>
  obtain⟨k,hk,rfl,HT,HB⟩:=hrel
  by_cases hlt:k<s.stories.length
  ·obtain rfl:=HSA.out (by omega)
   obtain⟨hok,tv,ev,cv,hcells,hP⟩:=HAT.out k hlt
   have HVV:Hid (StyV mem (.agg (styCells s.stories[k] tv ev cv)) s.stories[k]):=Lib.hid ⟨hok,_,_,_,rfl,hP⟩
   have HCL:=Lib.hid (cells_see (sz:=8) (HS.out.bel (HB1.out.trans (HB.out.mono HB1.out.size))) hcells rfl)
   have HYES:Hid (s.stories[k].id=id->findS s id=some s.stories[k]):=Lib.hid (fun e=>findS_at k hlt e (fun j hj=>HT.out j (by omega) hj))
   have HNO:Hid (s.stories[k].id≠id->∀ j (hj:j<s.stories.length),j<k+1->s.stories[j].id≠id):=Lib.hid (fun e j hj hjk=>by
    by_cases ej:j=k
    ·subst ej;exact e
    ·exact HT.out j hj (by omega))
   obtain⟨t1,t2,e1,e2,c1,c2,rfl,rfl,rfl⟩:=hP.shape
   generalize s.stories[k].topics.length=n1 at *
   generalize s.stories[k].eds.length=n2 at *
   generalize s.stories[k].corr.length=n3 at *
   clear hok hcells hP
   generalize s.stories[k]=y at *
   go_upto_region 4 with (first
    |((with_reducible refine at_sload 34 _ rfl ?_);go_must (refine wpList_smid rfl S_sty _ rfl (by simp[Act.eval]) (styCells y (.slice t1 n1 t2) (.slice e1 n2 e2) (.slice c1 n3 c2)) rfl HCL.out ?_))
    |((with_reducible refine at_sstore 34 _ _ rfl ?_);go_must (refine wpList_snew rfl S_sty _ _ rfl rfl _ _ (styCells y (.slice t1 n1 t2) (.slice e1 n2 e2) (.slice c1 n3 c2)) (by simp[Act.eval]) (by simp[Act.eval]) rfl rfl (by simp[Value.oneCell']) ?_)))
   obtain⟨W4,hW4⟩:∃ W4,W4=wr.alloc (.cells (styCells y (.slice t1 n1 t2) (.slice e1 n2 e2) (.slice c1 n3 c2)) 34):=⟨_,rfl⟩
   rw[<-hW4]
   have hb4:Below wr.heap.size wr W4:=by rw[hW4];exact bel1 _ _
   have hn4:W4.heap[wr.heap.size]?=some (.cells (styCells y (.slice t1 n1 t2) (.slice e1 n2 e2) (.slice c1 n3 c2)) 34 (0,0)):=by rw[hW4];exact World.alloc_heap_new _ _
   have q0:W4.cell? ⟨wr.heap.size,0,none⟩=some (.int .i64 y.id):=rowcell hn4
   have HN4:=Lib.hid hn4
   have HB4:Hid (Below W1.heap.size W1 W4):=Lib.hid (HB.out.trans (hb4.mono HB.out.size))
   clear hW4 hb4 hn4
   by_cases hy:y.id=id
   ·have HFD:=Lib.hid (HYES.out hy)
    rw[hy]at q0
    clear hy HYES HNO
    have HZ:Hid (W4.heap[w.heap.size+1]?=some (.cells zStyC 34 (0,0))):=Lib.hid ((HB4.out.block _ (qh HN1.out)).trans HN1.out)
    go_wp2_with (first
     |((with_reducible refine at_sload 34 _ rfl ?_);go_must (refine wpList_sload rfl S_sty _ rfl (by simp[Act.eval]) (styCells y (.slice t1 n1 t2) (.slice e1 n2 e2) (.slice c1 n3 c2)) rfl HN4.out ?_))
     |((with_reducible refine at_sstore 34 _ _ rfl ?_);go_must (refine wpList_sstore (cs:=(styCells y (.slice t1 n1 t2) (.slice e1 n2 e2) (.slice c1 n3 c2))) rfl S_sty _ _ rfl (by simp[Act.eval,Act.put]) (by simp[Act.eval,Act.put]) HZ.out rfl rfl (by simp[Value.oneCell']) ?_)))
    refine bodyPost_ret (results_cell_row2 (p:=4) (u:=5) (ty:=34) (by kernel_rfl) _ _ (w.heap.size+1) _ _ (0,0) _ (by simp) (setRow_heap _ _ _ _ _ _ HZ.out) Tryz.underlying34 rfl (by kernel_rfl)) rfl ?_
    refine⟨_,by rw[HFD.out];rfl,?_,below_setRow (HB1.out.trans (HB4.out.mono HB1.out.size)) (by omega) _⟩
    unfold styOf;rw[HFD.out]
    exact HVV.out
   ·have HNN:=Lib.hid (HNO.out hy)
    have hne:(y.id == id)=false:=by simpa using hy
    clear hy HYES HNO
    go_wp2_with fail
    go_roundw
    case rel=>exact⟨k+1,by omega,by go_num,HNN,HB4⟩
    case measure=>simp[intOf];omega
  ·have e':k=s.stories.length:=by omega
   subst e'
   have HFD:Hid (findS s id=none):=Lib.hid (findS_no (fun j hj=>HT.out j hj hj))
   have HZ:Hid (wr.heap[w.heap.size+1]?=some (.cells zStyC 34 (0,0))):=Lib.hid ((HB.out.block _ (qh HN1.out)).trans HN1.out)
   go_wp2_with (first
    |((with_reducible refine at_sbuild 34 _ rfl ?_);go_must (refine wpList_buildTo rfl 34 _ rfl _ rfl _ (by simp[Act.eval];with_reducible exact built_sty0) ?_))
    |((with_reducible refine at_sstore 34 _ _ rfl ?_);go_must (refine wpList_sstore (cs:=styCells sty0 (.slice none 0 0) (.slice none 0 0) (.slice none 0 0)) rfl S_sty _ _ rfl (by simp[Act.eval,Act.put]) (by simp[Act.eval,Act.put]) HZ.out rfl rfl (by simp[Value.oneCell']) ?_)))
   refine bodyPost_ret (results_cell_row2 (p:=4) (u:=5) (ty:=34) (by kernel_rfl) _ _ (w.heap.size+1) _ _ (0,0) _ (by simp) (setRow_heap _ _ _ _ _ _ HZ.out) Tryz.underlying34 rfl (by kernel_rfl)) rfl ?_
   refine⟨_,by rw[HFD.out];rfl,?_,below_setRow (HB1.out.trans (HB.out.mono HB1.out.size)) (by omega) _⟩
   unfold styOf;rw[HFD.out]
   exact sty0_V
set_option maxRecDepth 100000 in
set_option maxHeartbeats 4000000 in
theorem editionAt_any {mem:Addr->Option Value} {v:Value} {x:StyF} (h:StyV mem v x) (lang:ByteArray) (w:World) (hs:Sees mem w):
 Calls Tryz.prog 39 #[v,.string lang] w (EditionAt mem x.eds lang w):=by
 obtain⟨hok0,tv,ev,cv,rfl,h1,h2,h3⟩:=h
 obtain⟨ta,tc,rfl⟩:=h1.slice
 obtain⟨ca,cc,rfl⟩:=SlM.slice h3
 obtain⟨sa,sc,sb,so,rfl,hcap,hm,hsa,hat⟩:=SlM.open_ h2
 have HSA:=Lib.hid hsa
 have HAT:=Lib.hid hat
 have HS:=Lib.hid hs
 have hll:x.eds.length<=9223372036854775807:=by unfold maxLen at hm;omega
 obtain⟨W1,hW1⟩:∃ W1,W1=(w.alloc (.cells (styCells x (.slice ta x.topics.length tc) (.slice sa x.eds.length sc) (.slice ca x.corr.length cc)) 34)).alloc (.cells zEdn 39):=⟨_,rfl⟩
 have hb1:Below w.heap.size w W1:=by rw[hW1];exact(bel1 w _).alloc (by simp) _
 have hn0:W1.heap[w.heap.size]?=some (.cells (styCells x (.slice ta x.topics.length tc) (.slice sa x.eds.length sc) (.slice ca x.corr.length cc)) 34 (0,0)):=by rw[hW1];exact heap_new1 w _ _
 have hn1:W1.heap[w.heap.size+1]?=some (.cells zEdn 39 (0,0)):=by
  rw[hW1]
  have:=World.alloc_heap_new (w.alloc (.cells (styCells x (.slice ta x.topics.length tc) (.slice sa x.eds.length sc) (.slice ca x.corr.length cc)) 34)) (.cells zEdn 39)
  simpa using this
 have k0:W1.cell? ⟨w.heap.size,3,none⟩=some (.slice sa x.eds.length sc):=rowcell hn0
 have HN1:=Lib.hid hn1
 have HB1:=Lib.hid hb1
 have HW1:=Lib.hid hW1
 clear h1 h2 h3 hok0 hsa hat hs hb1 hn0 hn1 hW1
 go_enter Tryz.func39,Tryz.ntmps39
 go_upto_region 1 with fail
 rw[<-HW1.out]
 go_wp2_with fail
 clear k0
 go_loopw [11] (fun i wr=>∃ k:Nat,k<=x.eds.length/\i=.int .i64 k/\Hid (∀ j (hj:j<x.eds.length),j<k->x.eds[j].lang≠lang)/\Hid (Below W1.heap.size W1 wr)) (fun i _=>x.eds.length - (intOf i).toNat)
 case atStart=>exact⟨0,Nat.zero_le _,rfl,Lib.hid (fun j _ h=>absurd h (by omega)),Lib.hid (Below.refl _ _)⟩
 case round=>
  obtain⟨k,hk,rfl,HT,HB⟩:=hrel
  by_cases hlt:k<x.eds.length
  ·obtain rfl:=HSA.out (by omega)
   obtain⟨hok,bv,hcells,hP⟩:=HAT.out k hlt
   have HVV:Hid (EdnV mem (.agg (ednCells x.eds[k] bv)) x.eds[k]):=Lib.hid ⟨hok,_,rfl,hP⟩
   have HCL:=Lib.hid (cells_see (sz:=5) (HS.out.bel (HB1.out.trans (HB.out.mono HB1.out.size))) hcells rfl)
   have HYES:Hid (x.eds[k].lang=lang->findE x.eds lang=some x.eds[k]):=Lib.hid (fun e=>findE_at k hlt e (fun j hj=>HT.out j (by omega) hj))
   have HNO:Hid (x.eds[k].lang≠lang->∀ j (hj:j<x.eds.length),j<k+1->x.eds[j].lang≠lang):=Lib.hid (fun e j hj hjk=>by
    by_cases ej:j=k
    ·subst ej;exact e
    ·exact HT.out j hj (by omega))
   obtain⟨b1,b2,rfl⟩:=hP.slice
   generalize x.eds[k].blocks.length=n1 at *
   clear hok hcells hP
   generalize x.eds[k]=y at *
   go_upto_region 4 with (first
    |((with_reducible refine at_sload 39 _ rfl ?_);go_must (refine wpList_smid rfl S_edn _ rfl (by simp[Act.eval]) (ednCells y (.slice b1 n1 b2)) rfl HCL.out ?_))
    |((with_reducible refine at_sstore 39 _ _ rfl ?_);go_must (refine wpList_snew rfl S_edn _ _ rfl rfl _ _ (ednCells y (.slice b1 n1 b2)) (by simp[Act.eval]) (by simp[Act.eval]) rfl rfl (by simp[Value.oneCell']) ?_)))
   obtain⟨W4,hW4⟩:∃ W4,W4=wr.alloc (.cells (ednCells y (.slice b1 n1 b2)) 39):=⟨_,rfl⟩
   rw[<-hW4]
   have hb4:Below wr.heap.size wr W4:=by rw[hW4];exact bel1 _ _
   have hn4:W4.heap[wr.heap.size]?=some (.cells (ednCells y (.slice b1 n1 b2)) 39 (0,0)):=by rw[hW4];exact World.alloc_heap_new _ _
   have q0:W4.cell? ⟨wr.heap.size,0,none⟩=some (.string y.lang):=rowcell hn4
   have HN4:=Lib.hid hn4
   have HB4:Hid (Below W1.heap.size W1 W4):=Lib.hid (HB.out.trans (hb4.mono HB.out.size))
   clear hW4 hb4 hn4
   by_cases hy:y.lang=lang
   ·have HFD:=Lib.hid (HYES.out hy)
    rw[hy]at q0
    clear hy HYES HNO
    have HZ:Hid (W4.heap[w.heap.size+1]?=some (.cells zEdn 39 (0,0))):=Lib.hid ((HB4.out.block _ (qh HN1.out)).trans HN1.out)
    go_wp2_with (first
     |((with_reducible refine at_sload 39 _ rfl ?_);go_must (refine wpList_sload rfl S_edn _ rfl (by simp[Act.eval]) (ednCells y (.slice b1 n1 b2)) rfl HN4.out ?_))
     |((with_reducible refine at_sstore 39 _ _ rfl ?_);go_must (refine wpList_sstore (cs:=(ednCells y (.slice b1 n1 b2))) rfl S_edn _ _ rfl (by simp[Act.eval,Act.put]) (by simp[Act.eval,Act.put]) HZ.out rfl rfl (by simp[Value.oneCell']) ?_)))
    refine bodyPost_ret (results_cell_row2 (p:=4) (u:=5) (ty:=39) (by kernel_rfl) _ _ (w.heap.size+1) _ _ (0,0) _ (by simp) (setRow_heap _ _ _ _ _ _ HZ.out) Tryz.underlying39 rfl (by kernel_rfl)) rfl ?_
    refine⟨_,by rw[HFD.out];rfl,?_,below_setRow (HB1.out.trans (HB4.out.mono HB1.out.size)) (by omega) _⟩
    rw[HFD.out]
    exact HVV.out
   ·have HNN:=Lib.hid (HNO.out hy)
    have hne:(y.lang.toList == lang.toList)=false:=by
     have:y.lang.toList≠lang.toList:=fun e=>hy (str_ext (by rw[<-ByteArray.toList_eq,<-ByteArray.toList_eq];exact e))
     simpa using this
    clear hy HYES HNO
    go_wp2_with fail
    go_roundw
    case rel=>exact⟨k+1,by omega,by go_num,HNN,HB4⟩
    case measure=>simp[intOf];omega
  ·have e':k=x.eds.length:=by omega
   subst e'
   have HFD:Hid (findE x.eds lang=none):=Lib.hid (findE_no (fun j hj=>HT.out j hj hj))
   have HZ:Hid (wr.heap[w.heap.size+1]?=some (.cells zEdn 39 (0,0))):=Lib.hid ((HB.out.block _ (qh HN1.out)).trans HN1.out)
   go_wp2_with (first
    |((with_reducible refine at_sbuild 39 _ rfl ?_);go_must (refine wpList_buildTo rfl 39 _ rfl _ rfl _ (by simp[Act.eval];with_reducible exact built_edn0) ?_))
    |((with_reducible refine at_sstore 39 _ _ rfl ?_);go_must (refine wpList_sstore (cs:=ednCells edn0 (.slice none 0 0)) rfl S_edn _ _ rfl (by simp[Act.eval,Act.put]) (by simp[Act.eval,Act.put]) HZ.out rfl rfl (by simp[Value.oneCell']) ?_)))
   refine bodyPost_ret (results_cell_row2 (p:=4) (u:=5) (ty:=39) (by kernel_rfl) _ _ (w.heap.size+1) _ _ (0,0) _ (by simp) (setRow_heap _ _ _ _ _ _ HZ.out) Tryz.underlying39 rfl (by kernel_rfl)) rfl ?_
   refine⟨_,by rw[HFD.out];rfl,?_,below_setRow (HB1.out.trans (HB.out.mono HB1.out.size)) (by omega) _⟩
   rw[HFD.out]
   exact edn0_V
theorem GRow.cellsFr {w:World} {B:Nat} {e:TypeId} {sz:Nat} {v:Value} {cs:List (Array Value)} (h:GRow w B e sz v cs) {F:Nat->Prop} (hF:∀ k,v.ownBlock=some k->¬ F k):
 ∃ b,SliceOf v cs.length b 0/\∀ j (hj:j<cs.length) t,t<sz->memFr w F ⟨b,0+j * sz+t,none⟩=cs[j][t]?:=by
 rcases Nat.eq_zero_or_pos cs.length with hz | hp
 ·rcases h.1.2 with ⟨rfl,_⟩ | ⟨g,cap,cur,rfl,hb,hgg,hn,hc,hs,ht⟩
  ·exact⟨0,by rw[hz];exact sliceNil,fun j hj=>absurd hj (by omega)⟩
  ·exact⟨g,⟨Nat.le_trans hn hc,some ⟨g,0,none⟩,cap,rfl,hn,hc,fun _=>rfl⟩,fun j hj=>absurd hj (by omega)⟩
 ·obtain⟨g,cap,rfl,hb,hg,hn,hc,hcell,hfr⟩:=h.at_ 0 hp
  refine⟨g,⟨Nat.le_trans hn hc,some ⟨g,0,none⟩,cap,rfl,hn,hc,fun _=>rfl⟩,fun j hj t ht=>?_⟩
  obtain⟨g',cap',e',_,_,_,_,hcell',hfr'⟩:=h.at_ j hj
  injection e' with e'
  injection e' with e'
  injection e' with e'
  subst e'
  have hsz:t<cs[j].size:=by rw[(h.2 _ (List.getElem_mem hj)).1];exact ht
  have:=hcell' t ht
  rw[Array.getElem?_eq_getElem hsz]at this ⊢
  rw[Nat.zero_add]
  exact memFr_of this (hfr' _) (hF _ rfl)
theorem lrow_strs {w:World} {B:Nat} {v:Value} {l:List ByteArray} (h:LRow w B v l) (hl:∀ s∈l,s.size<=maxLen) {F:Nat->Prop} (hF:∀ k,v.ownBlock=some k->¬ F k):StrsM (memFr w F) v l:=by
 obtain⟨b,h1,h2⟩:=GRow.cellsFr h hF
 rw[List.length_map]at h1
 refine⟨b,0,h1,hl,fun j hj=>?_⟩
 have:=h2 j (by rw[List.length_map];exact hj) 0 (by omega)
 rw[List.getElem_map]at this
 rw[show 0+j * 1+0=0+j by omega]at this
 rw[this];rfl
theorem grow_corrs {w:World} {B:Nat} {v:Value} {l:List Corr} (h:GRow w B 69 5 v (l.map corrCells)) (hl:∀ c∈l,CorrOK c) {F:Nat->Prop} (hF:∀ k,v.ownBlock=some k->¬ F k):CorrsM (memFr w F) v l:=by
 obtain⟨b,h1,h2⟩:=h.cellsFr hF
 rw[List.length_map]at h1
 refine⟨b,0,h1,fun j hj=>⟨hl _ (List.getElem_mem hj),fun t ht=>?_⟩⟩
 have:=h2 j (by rw[List.length_map];exact hj) t ht
 rw[List.getElem_map]at this
 exact this
theorem grow_tpls {w:World} {B:Nat} {v:Value} {l:List TplF} (h:GRow w B 52 2 v (l.map tplCells)) (hl:∀ c∈l,TplOK c) {F:Nat->Prop} (hF:∀ k,v.ownBlock=some k->¬ F k):TplsM (memFr w F) v l:=by
 obtain⟨b,h1,h2⟩:=h.cellsFr hF
 rw[List.length_map]at h1
 refine⟨b,0,h1,fun j hj=>⟨hl _ (List.getElem_mem hj),fun t ht=>?_⟩⟩
 have:=h2 j (by rw[List.length_map];exact hj) t ht
 rw[List.getElem_map]at this
 exact this
def EVal (M:Addr->Option Value) (e:EdnF) (c:Array Value):Prop:=EdnOK e/\∃ bv,c=ednCells e bv/\BlksM M bv e.blocks
theorem EVal.mono {M M':Addr->Option Value} {e:EdnF} {c:Array Value} (h:EVal M e c) (hm:∀ a u,M a=some u->M' a=some u):EVal M' e c:=by
 obtain⟨h0,bv,h1,h2⟩:=h
 exact⟨h0,bv,h1,h2.mono hm⟩
def EVals (M:Addr->Option Value) (eds:List EdnF) (cs:List (Array Value)):Prop:=cs.length=eds.length/\∀ j (h:j<eds.length) (h2:j<cs.length),EVal M eds[j] cs[j]
theorem EVals.mono {M M':Addr->Option Value} {eds:List EdnF} {cs:List (Array Value)} (h:EVals M eds cs) (hm:∀ a u,M a=some u->M' a=some u):EVals M' eds cs:=
 ⟨h.1,fun j hj hj2=>(h.2 j hj hj2).mono hm⟩
theorem EVals.nil (M:Addr->Option Value):EVals M [] []:=⟨rfl,fun j h=>absurd h (by simp)⟩
theorem EVals.snoc {M:Addr->Option Value} {eds:List EdnF} {cs:List (Array Value)} (h:EVals M eds cs) {e:EdnF} {c:Array Value} (hc:EVal M e c):EVals M (eds++[e]) (cs++[c]):=by
 refine⟨by rw[List.length_append,List.length_append,h.1];rfl,fun j hj hj2=>?_⟩
 rw[List.length_append,List.length_singleton]at hj
 by_cases hl:j<eds.length
 ·rw[List.getElem_append_left hl,List.getElem_append_left (by rw[h.1];exact hl)]
  exact h.2 j hl (by rw[h.1];exact hl)
 ·obtain rfl:j=eds.length:=by omega
  rw[List.getElem_append_right (Nat.le_refl _),List.getElem_append_right (by rw[h.1];exact Nat.le_refl _)]
  simpa using hc
theorem EVals.ednsM {w:World} {B:Nat} {v:Value} {eds:List EdnF} {cs:List (Array Value)} {F:Nat->Prop} (hr:GRow w B 39 5 v cs) (h:EVals (memFr w F) eds cs) (hF:∀ k,v.ownBlock=some k->¬ F k):EdnsM (memFr w F) v eds:=by
 obtain⟨b,h1,h2⟩:=hr.cellsFr hF
 rw[h.1]at h1
 refine⟨b,0,h1,fun j hj=>?_⟩
 have hj2:j<cs.length:=by rw[h.1];exact hj
 obtain⟨e0,bv,e1,e2⟩:=h.2 j hj hj2
 refine⟨e0,bv,fun t ht=>?_,e2⟩
 rw[h2 j hj2 t ht,e1]
def ERow (w:World) (A:Nat) (v:Value) (eds:List EdnF):Prop:=∃ cs,GRow w A 39 5 v cs/\EVals (memFr w (fun k=>k<A\/v.ownBlock=some k)) eds cs
theorem ERow.nil (w:World) (A:Nat):ERow w A (.slice none 0 0) []:=⟨[],GRow.nil _ _ _ _,EVals.nil _⟩
theorem ERow.bel {w w':World} {A:Nat} {v:Value} {eds:List EdnF} (h:ERow w A v eds) (hb:Below w.heap.size w w'):ERow w' A v eds:=by
 obtain⟨cs,h1,h2⟩:=h
 exact⟨cs,h1.bel hb,h2.mono (memFr_below hb)⟩
theorem ERow.shape {w:World} {A:Nat} {v:Value} {eds:List EdnF} (h:ERow w A v eds):∃ ao cap,v=.slice ao eds.length cap:=by
 obtain⟨cs,h1,h2⟩:=h
 obtain⟨ao,cap,e⟩:=h1.shape
 exact⟨ao,cap,by rw[e,h2.1]⟩
theorem ERow.snoc {w w1:World} {A:Nat} {v v':Value} {eds:List EdnF} {cs:List (Array Value)} {e:EdnF} {bv:Value} (h:EVals (memFr w (fun k=>k<A\/v.ownBlock=some k)) eds cs) 
 (hr:GRow w1 A 39 5 v' (cs++[ednCells e bv])) (hg:w.grownBy w1 v.ownBlock) (hob:v'.ownBlock=v.ownBlock\/∃ n,v'.ownBlock=some n/\w.heap.size<=n) (he:EdnOK e) (hb:BlksM (memFr w (fun k=>k<A\/v.ownBlock=some k)) bv e.blocks):ERow w1 A v' (eds++[e]):=by
 have hu:Upd (fun k=>v.ownBlock=some k) w w1:=(Upd.refl _ w).grown hg (fun k e=>.inl e)
 have hm:∀ a u,memFr w (fun k=>k<A\/v.ownBlock=some k) a=some u->memFr w1 (fun k=>k<A\/v'.ownBlock=some k) a=some u:=
  memFr_mono hu fun k hk hf=>⟨fun q=>q.elim (fun q=>hf (.inl q)) (fun q=>by
   rcases hob with e | ⟨n,e,hn⟩
   ·rw[e]at q;exact hf (.inr q)
   ·rw[e]at q;injection q with q;omega),fun q=>hf (.inr q)⟩
 exact⟨_,hr,(h.mono hm).snoc ⟨he,bv,rfl,hb.mono hm⟩⟩
def SVal (w:World) (A:Nat) (M:Addr->Option Value) (E:Nat->Option Int) (x:StyF) (c:Array Value):Prop:=
 StyOK x/\∃ tv ev cv ecs,c=styCells x tv ev cv/\StrsM M tv x.topics/\CorrsM M cv x.corr/\GRow w A 39 5 ev ecs/\EVals M x.eds ecs/\∀ k,ev.ownBlock=some k->E k=some x.id
def SVals (w:World) (A:Nat) (M:Addr->Option Value) (E:Nat->Option Int) (l:List StyF) (cs:List (Array Value)):Prop:=cs.length=l.length/\∀ j (h:j<l.length) (h2:j<cs.length),SVal w A M E l[j] cs[j]
theorem SVal.mono {w w':World} {A:Nat} {M M':Addr->Option Value} {E E':Nat->Option Int} {x:StyF} {c:Array Value} (h:SVal w A M E x c) (hm:∀ a u,M a=some u->M' a=some u) (hE:∀ k i,E k=some i->E' k=some i)
 (hw:∀ k,E k=some x.id->k<w.heap.size->w'.heap[k]?=w.heap[k]?):SVal w' A M' E' x c:=by
 obtain⟨h0,tv,ev,cv,ecs,h1,h2,h3,h4,h5,h6⟩:=h
 exact⟨h0,tv,ev,cv,ecs,h1,h2.mono hm,h3.mono hm,h4.same fun k hk=>hw k (h6 k hk) (h4.ge k hk).2,h5.mono hm,fun k hk=>hE _ _ (h6 k hk)⟩
theorem SVals.snoc {w:World} {A:Nat} {M:Addr->Option Value} {E:Nat->Option Int} {l:List StyF} {cs:List (Array Value)} (h:SVals w A M E l cs) {x:StyF} {c:Array Value} (hc:SVal w A M E x c):SVals w A M E (l++[x]) (cs++[c]):=by
 refine⟨by rw[List.length_append,List.length_append,h.1];rfl,fun j hj hj2=>?_⟩
 rw[List.length_append,List.length_singleton]at hj
 by_cases hl:j<l.length
 ·rw[List.getElem_append_left hl,List.getElem_append_left (by rw[h.1];exact hl)]
  exact h.2 j hl (by rw[h.1];exact hl)
 ·obtain rfl:j=l.length:=by omega
  rw[List.getElem_append_right (Nat.le_refl _),List.getElem_append_right (by rw[h.1];exact Nat.le_refl _)]
  simpa using hc
noncomputable abbrev memSt (w:World) (B:Nat) (E:Nat->Option Int) (v:Value):Addr->Option Value:=memFr w (fun k=>k<B\/v.ownBlock=some k\/(E k).isSome=true)
structure StRow (w:World) (B A:Nat) (E:Nat->Option Int) (v:Value) (l:List StyF):Prop where
 low:∀ k i,E k=some i->A<=k/\k<w.heap.size
 apart:∀ k,v.ownBlock=some k->E k=none
 row:∃ cs,GRow w A 34 8 v cs/\SVals w A (memSt w B E v) E l cs
theorem StRow.bel {w w':World} {B A:Nat} {E:Nat->Option Int} {v:Value} {l:List StyF} (h:StRow w B A E v l) (hb:Below w.heap.size w w'):StRow w' B A E v l:=by
 obtain⟨cs,h1,h2,h3⟩:=h.row
 exact⟨fun k i e=>⟨(h.low k i e).1,Nat.lt_of_lt_of_le (h.low k i e).2 hb.size⟩,h.apart,cs,h1.bel hb,h2,fun j hj hj2=>(h3 j hj hj2).mono (memFr_below hb) (fun _ _ e=>e) (fun k _ hk=>hb.block k hk)⟩
theorem StRow.shape {w:World} {B A:Nat} {E:Nat->Option Int} {v:Value} {l:List StyF} (h:StRow w B A E v l):∃ ao cap,v=.slice ao l.length cap:=by
 obtain⟨cs,h1,h2,_⟩:=h.row
 obtain⟨ao,cap,e⟩:=h1.shape
 exact⟨ao,cap,by rw[e,h2]⟩
theorem StRow.stys {w:World} {B A:Nat} {E:Nat->Option Int} {v:Value} {l:List StyF} (h:StRow w B A E v l) (hBA:B<=A):StysM (memFr w (fun k=>k<B)) v l:=by
 obtain⟨cs,h1,h2,h3⟩:=h.row
 obtain⟨b,q1,q2⟩:=h1.cellsFr (F:=fun k=>k<B) (fun k hk hB=>by have:=(h1.ge k hk).1;omega)
 rw[h2]at q1
 have hm:∀ a u,memSt w B E v a=some u->memFr w (fun k=>k<B) a=some u:=memFr_mono (Upd.refl (fun _=>False) w) (fun k _ hf=>⟨fun q=>hf (.inl q),fun q=>q⟩)
 refine⟨b,0,q1,fun j hj=>?_⟩
 have hj2:j<cs.length:=by rw[h2];exact hj
 obtain⟨e0,tv,ev,cv,ecs,e1,e2,e3,e4,e5,e6⟩:=h3 j hj hj2
 refine⟨e0,tv,ev,cv,fun t ht=>?_,e2.mono hm,EVals.ednsM e4 (e5.mono hm) (fun k hk hB=>by have:=(e4.ge k hk).1;omega),e3.mono hm⟩
 rw[q2 j hj2 t ht,e1]
structure SFin (w:World) (B A A1:Nat) (x:StyF) (tv ev cv:Value):Prop where
 ok:StyOK x
 tsz:∀ s∈x.topics,s.size<=maxLen
 top:LRow w A1 tv x.topics
 eds:ERow w A1 ev x.eds
 cor:CorrsM (memFr w (fun k=>k<B\/A<=k)) cv x.corr
theorem StRow.snoc {w0 w w1:World} {B A:Nat} {E:Nat->Option Int} {v v':Value} {l:List StyF} {x:StyF} {tv ev cv:Value} (h:StRow w0 B A E v l) {cs:List (Array Value)} (hcs:SVals w0 A (memSt w0 B E v) E l cs) (hgv:GRow w0 A 34 8 v cs) (hb:Below w0.heap.size w0 w) (hBA:B<=A) (hA:A<=w0.heap.size) (hf:SFin w B A w0.heap.size x tv ev cv)
 (hr:GRow w1 A 34 8 v' (cs++[styCells x tv ev cv])) (hg:w.grownBy w1 v.ownBlock) (hob:v'.ownBlock=v.ownBlock\/∃ n,v'.ownBlock=some n/\w.heap.size<=n):
 StRow w1 B A (fun k=>if ev.ownBlock=some k then some x.id else E k) v' (l++[x]):=by
 have hu:Upd (fun k=>v.ownBlock=some k) w w1:=(Upd.refl _ w).grown hg (fun k e=>.inl e)
 have hu0:Upd (fun k=>v.ownBlock=some k) w0 w1:=((Upd.refl _ w0).bel hb).trans hu (fun i hi=>.inl hi)
 obtain⟨ecs,g1,g2⟩:=hf.eds
 have hlow:=h.low
 have hvA:=hgv.ge
 have hsz:=hb.size
 have hEz:∀ k,w0.heap.size<=k->E k=none:=fun k hk=>by
  cases hE:E k with
  |none=>rfl
  |some i=>have:=(hlow k i hE).2;omega
 have hv':∀ k,v'.ownBlock=some k->k<w.heap.size->v.ownBlock=some k:=fun k hk hl=>by
  rcases hob with e | ⟨n,e,hn⟩
  ·rw[<-e];exact hk
  ·rw[e]at hk;injection hk with hk;omega
 have htb:∀ k,tv.ownBlock=some k->ev.ownBlock≠some k:=fun k hk e=>by
  obtain⟨_,_,c1,q1⟩:=lrow_blk hf.top k hk
  obtain⟨c2,q2⟩:=g1.blk k e
  exact rows_apart q1 q2 (by decide) rfl
 have hm0:∀ a u,memSt w0 B E v a=some u->memSt w1 B (fun k=>if ev.ownBlock=some k then some x.id else E k) v' a=some u:=
  memFr_mono hu0 fun k hk hf=>⟨(fun q=>by
   rcases q with q | q | q
   ·exact hf (.inl q)
   ·exact hf (.inr (.inl (hv' k q (by omega))))
   ·by_cases e:ev.ownBlock=some k
    ·have:=(g1.ge k e).1;omega
    ·dsimp only at q;rw[if_neg e]at q;exact hf (.inr (.inr q))),fun q=>hf (.inr (.inl q))⟩
 have hm1:∀ a u,memFr w (fun k=>k<w0.heap.size\/ev.ownBlock=some k) a=some u->memSt w1 B (fun k=>if ev.ownBlock=some k then some x.id else E k) v' a=some u:=
  memFr_mono hu fun k hk hf=>⟨(fun q=>by
   rcases q with q | q | q
   ·exact hf (.inl (by omega))
   ·have:=(hvA k (hv' k q hk)).2;exact hf (.inl this)
   ·by_cases e:ev.ownBlock=some k
    ·exact hf (.inr e)
    ·dsimp only at q
     rw[if_neg e]at q
     rw[hEz k (Nat.le_of_not_lt fun q=>hf (.inl q))]at q
     cases q),fun q=>hf (.inl (hvA k q).2)⟩
 have hm2:∀ a u,memFr w (fun k=>k<B\/A<=k) a=some u->memSt w1 B (fun k=>if ev.ownBlock=some k then some x.id else E k) v' a=some u:=
  memFr_mono hu fun k hk hf=>⟨(fun q=>by
   rcases q with q | q | q
   ·exact hf (.inl q)
   ·exact hf (.inr (hvA k (hv' k q hk)).1)
   ·by_cases e:ev.ownBlock=some k
    ·have:=(g1.ge k e).1;exact hf (.inr (by omega))
    ·dsimp only at q
     rw[if_neg e]at q
     cases hE:E k with
     |none=>rw[hE]at q;cases q
     |some i=>exact hf (.inr (hlow k i hE).1)),fun q=>hf (.inr (hvA k q).1)⟩
 refine⟨fun k i e=>?_,fun k hk=>?_,_,hr,?_⟩
 ·have hs:=hu.size
  split at e
  ·next hk=>have:=g1.ge k hk;omega
  ·have:=hlow k i e;omega
 ·have hz:ev.ownBlock≠some k:=fun e=>by
   have h1:=g1.ge k e
   have:=(hvA k (hv' k hk h1.2)).2;omega
  rw[if_neg hz]
  by_cases hl:k<w.heap.size
  ·exact h.apart k (hv' k hk hl)
  ·exact hEz k (by omega)
 ·refine SVals.snoc ⟨hcs.1,fun j hj hj2=>(hcs.2 j hj hj2).mono hm0 (fun k i e=>?_) (fun k e hk=>?_)⟩ ?_
  ·rw[if_neg (fun q=>by have:=(g1.ge k q).1;have:=(hlow k i e).2;omega)];exact e
  ·exact hu0.block k hk (fun q=>by rw[h.apart k q]at e;cases e)
  ·refine⟨hf.ok,tv,ev,cv,ecs,rfl,(lrow_strs hf.top hf.tsz (F:=fun k=>k<w0.heap.size\/ev.ownBlock=some k) (fun k hk q=>?_)).mono hm1,hf.cor.mono hm2,(g1.same fun k hk=>?_).weaken hA,g2.mono hm1,fun k hk=>if_pos hk⟩
   ·rcases q with q | q
    ·have:=(lrow_blk hf.top k hk).1;omega
    ·exact htb k hk q
   ·have h1:=g1.ge k hk
    exact hu.block k h1.2 (fun q=>by have:=(hvA k q).2;omega)
end Go.Proofs.YtdkkhmjlamkgdaaGreatDoor
namespace Go.Proofs.YtdkkhmjlamkgdaaGreatDoor
open Go.RowKit Mg
def okT (c:UInt8):Bool:=decide (32<=c.toNat) && decide (c.toNat<=126)
theorem okT_yes {c:UInt8} (h:32<=c.toNat/\c.toNat<=126):okT c=true:=by unfold okT;rw[decide_eq_true h.1,decide_eq_true h.2];rfl
theorem okT_no {c:UInt8} (h:¬ (32<=c.toNat/\c.toNat<=126)):okT c=false:=by
 rw[Bool.eq_false_iff];intro e;unfold okT at e;simp only[Bool.and_eq_true,decide_eq_true_eq]at e;exact h e
theorem textOK_eq (s:ByteArray):textOK s=(decide (s.size<=300) && s.data.toList.all okT):=rfl
theorem nameB_iff (c:UInt8):nameByte c=true↔(97<=c.toNat/\c.toNat<=122)\/(48<=c.toNat/\c.toNat<=57)\/c.toNat=45:=by
 unfold nameByte;simp only[Bool.or_eq_true,Bool.and_eq_true,decide_eq_true_eq,or_assoc]
theorem nameB_yes {c:UInt8} (h:(97<=c.toNat/\c.toNat<=122)\/(48<=c.toNat/\c.toNat<=57)\/c.toNat=45):nameByte c=true:=(nameB_iff c).2 h
theorem nameB_no {c:UInt8} (h:¬ ((97<=c.toNat/\c.toNat<=122)\/(48<=c.toNat/\c.toNat<=57)\/c.toNat=45)):nameByte c=false:=Bool.eq_false_iff.2 fun e=>h ((nameB_iff c).1 e)
def IsN (c:UInt8):Prop:=(97<=c.toNat/\c.toNat<=122)\/(48<=c.toNat/\c.toNat<=57)\/c.toNat=45
def Is45 (c:UInt8):Prop:=c.toNat=45
theorem b45 (c:UInt8):(Is45 c/\((c.toNat:Int) == 45)=true/\((c.toNat:Int) != 45)=false)\/(¬ Is45 c/\((c.toNat:Int) == 45)=false/\((c.toNat:Int) != 45)=true):=by
 by_cases h:c.toNat=45
 ·exact .inl ⟨h,by simp;omega,by simp;omega⟩
 ·exact .inr ⟨h,by simp;omega,by simp;omega⟩
theorem bytes_step {p:UInt8->Bool} (s:ByteArray) (k:Nat) (hk:k<s.size) (h:(s.data.toList.take k).all p=true):(p s[k]=true->(s.data.toList.take (k+1)).all p=true)/\(p s[k]=false->s.data.toList.all p=false):=by
 have hk':k<s.data.toList.length:=by rw[size_list];exact hk
 have e:=get_list s k hk
 refine⟨fun h1=>?_,fun h1=>?_⟩
 ·rw[all_take k hk',h,e,h1];rfl
 ·exact all_of_not k hk' (by rw[e];exact h1)
theorem bytes_full {p:UInt8->Bool} {s:ByteArray} (h:(s.data.toList.take s.size).all p=true):s.data.toList.all p=true:=by
 rw[<-size_list]at h;exact all_full h
set_option maxHeartbeats 1000000 in
theorem isTextR_any (s:ByteArray) (w:World) (hs:s.size<=maxLen):Calls Tryz.prog 210 #[.string s] w fun e w'=>e=.returned (.bool (textOK s))/\w=w':=by
 unfold maxLen at hs
 have HT:=Lib.hid (textOK_eq s)
 go_enter Tryz.func210,Tryz.ntmps210
 go_wp2_with fail
 go_loop [3] (fun i=>∃ k:Nat,k<=s.size/\i=.int .i64 k/\Hid ((s.data.toList.take k).all okT=true)) (fun i=>s.size - (intOf i).toNat)
 case atStart=>exact⟨0,Nat.zero_le _,rfl,Lib.hid rfl⟩
 case round=>
  obtain⟨k,hk,rfl,ha⟩:=hrel
  by_cases hlt:k<s.size
  ·obtain⟨g1,g2⟩:=bytes_step s k hlt ha.out
   have G1:=Lib.hid g1
   have G2:=Lib.hid g2
   have hu:=s[k].toNat_lt
   clear g1 g2 ha
   by_cases hok:32<=s[k].toNat/\s[k].toNat<=126
   ·have HE:=Lib.hid (G1.out (okT_yes hok))
    obtain⟨o1,o2⟩:=hok
    go_wp2_with fail
    all_goals first
     |(go_round
       case rel=>exact⟨k+1,by omega,by go_num,HE⟩
       case measure=>simp[intOf];omega)
     |(exfalso;omega)
   ·have HE:=Lib.hid (G2.out (okT_no hok))
    go_wp2_with fail
    all_goals first
     |(go_ret
       exact⟨ret_bool (by rw[HT.out,HE.out,Bool.and_false]),rfl⟩)
     |(exfalso;omega)
  ·have e:k=s.size:=by omega
   subst e
   have HE:=Lib.hid (bytes_full ha.out)
   go_wp2_with fail
   go_ret
   exact⟨ret_bool (by rw[HT.out,HE.out,Bool.and_true,Bool.eq_iff_iff,decide_eq_true_eq,decide_eq_true_eq];omega),rfl⟩
set_option maxHeartbeats 2000000 in
theorem isNameR_any (s:ByteArray) (w:World) (hs:s.size<=maxLen):Calls Tryz.prog 212 #[.string s] w fun e w'=>e=.returned (.bool (nameOK s))/\w=w':=by
 unfold maxLen at hs
 have HT:Hid (nameOK s=(decide (1<=s.size) && decide (s.size<=20) && s.data.toList.all nameByte)):=Lib.hid rfl
 go_enter Tryz.func212,Tryz.ntmps212
 go_wp2_with fail
 go_loop [3,4,5] (fun i _ _=>∃ k:Nat,k<=s.size/\i=.int .i64 k/\Hid ((s.data.toList.take k).all nameByte=true)) (fun i _ _=>s.size - (intOf i).toNat)
 case atStart=>exact⟨0,Nat.zero_le _,rfl,Lib.hid rfl⟩
 case round=>
  obtain⟨k,hk,rfl,ha⟩:=hrel
  by_cases hlt:k<s.size
  ·obtain⟨g1,g2⟩:=bytes_step s k hlt ha.out
   have G1:=Lib.hid g1
   have G2:=Lib.hid g2
   have hu:=s[k].toNat_lt
   clear g1 g2 ha
   by_cases hok:IsN s[k]
   ·have HE:=Lib.hid (G1.out (nameB_yes hok))
    have HO:=hok
    clear hok
    rcases b45 s[k] with ⟨H45,e1,e2⟩ | ⟨H45,e1,e2⟩ <;> go_wp2_with fail
    all_goals first
     |(go_round
       case rel=>exact⟨k+1,by omega,by go_num,HE⟩
       case measure=>simp[intOf];omega)
     |(exfalso;unfold IsN at HO;unfold Is45 at H45;omega)
     |(exfalso;simp only[Bool.not_eq_false',Bool.not_eq_true',decide_eq_true_eq,decide_eq_false_iff_not]at *;omega)
   ·have HE:=Lib.hid (G2.out (nameB_no hok))
    have HO:=hok
    clear hok
    rcases b45 s[k] with ⟨H45,e1,e2⟩ | ⟨H45,e1,e2⟩ <;> go_wp2_with fail
    all_goals first
     |(go_ret
       exact⟨ret_bool (by rw[HT.out,HE.out,Bool.and_false]),rfl⟩)
     |(exfalso;unfold IsN at HO;unfold Is45 at H45;omega)
     |(exfalso;simp only[Bool.not_eq_false',decide_eq_true_eq]at *;omega)
  ·have e:k=s.size:=by omega
   subst e
   have HE:=Lib.hid (bytes_full ha.out)
   go_wp2_with fail
   all_goals
    go_ret
    refine⟨ret_bool ?_,rfl⟩
    rw[HT.out,HE.out]
    by_cases h1:1<=s.size <;> by_cases h2:s.size<=20 <;> first|(simp[h1,h2];done) | (simp[h1,h2];omega) | (exfalso;omega)
end Go.Proofs.YtdkkhmjlamkgdaaGreatDoor
namespace Go.Proofs.YtdkkhmjlamkgdaaGreatDoor
open Go.RowKit Mg Go.Shelf
def ruleV (f:Nat) (q:Bool) (g:Nat):Value:=.agg #[.func (.func f) #[] #[],.bool q,.func (.func g) #[] #[]]
def rulesL:List (Int × Value):=[(1,ruleV 95 false 97),(2,ruleV 95 false 98),(3,ruleV 96 true 101),(4,ruleV 95 false 102),(5,ruleV 103 false 104)]
abbrev RMap (w:World) (K:Nat):Prop:=IMap Tryz.prog 3 w K rulesL
theorem okI_small {n:Int} (h:0<=n) (h2:n<=1000000):okI n:=⟨by omega,by omega⟩
set_option maxRecDepth 10000 in
set_option maxHeartbeats 1000000 in
theorem rules_any (w:World):Calls Tryz.prog 64 #[] w fun e w'=>e=.returned (.map (some w.heap.size))/\RMap w' w.heap.size/\Below w.heap.size w w':=by
 have hmm:=@run_makeMap Tryz.prog
 have h0:=IMap.made Tryz.prog 3 w
 have hb0:Below w.heap.size w (w.alloc (.map #[] 0)):=(Below.refl _ w).alloc (Nat.le_refl _) _
 have hG:∀ {a b:World},Below w.heap.size w a->a.grownBy b (some w.heap.size)->Below w.heap.size w b:=fun h g=>h.grown g h.size (fun k e=>by cases e;exact Nat.le_refl _)
 obtain⟨w1,r1,h1,g1⟩:=h0.store Tryz.underlying3 Tryz.underlying120 (by decide) (i:=1) (okI_small (by omega) (by omega)) (by simp[keysL]) (ruleV 95 false 97)
 replace g1:=hG hb0 g1
 obtain⟨w2,r2,h2,g2⟩:=h1.store Tryz.underlying3 Tryz.underlying120 (by decide) (i:=2) (okI_small (by omega) (by omega)) (by simp[keysL]) (ruleV 95 false 98)
 replace g2:=hG g1 g2
 obtain⟨w3,r3,h3,g3⟩:=h2.store Tryz.underlying3 Tryz.underlying120 (by decide) (i:=3) (okI_small (by omega) (by omega)) (by simp[keysL]) (ruleV 96 true 101)
 replace g3:=hG g2 g3
 obtain⟨w4,r4,h4,g4⟩:=h3.store Tryz.underlying3 Tryz.underlying120 (by decide) (i:=4) (okI_small (by omega) (by omega)) (by simp[keysL]) (ruleV 95 false 102)
 replace g4:=hG g3 g4
 obtain⟨w5,r5,h5,g5⟩:=h4.store Tryz.underlying3 Tryz.underlying120 (by decide) (i:=5) (okI_small (by omega) (by omega)) (by simp[keysL]) (ruleV 103 false 104)
 replace g5:=hG g4 g5
 simp only[ruleV]at r1 r2 r3 r4 r5
 clear h0 h1 h2 h3 h4 g1 g2 g3 g4 hb0 hG
 go_enter Tryz.func64,Tryz.ntmps64
 go_wp2_with fail
 go_ret
 exact⟨rfl,h5,g5⟩
theorem size_pos (s:ByteArray):(s.toList.isEmpty=true/\(!s.toList.isEmpty)=false/\decide (1<=s.size)=false)\/(s.toList.isEmpty=false/\(!s.toList.isEmpty)=true/\decide (1<=s.size)=true):=by
 rw[ByteArray.toList_eq]
 by_cases h:s.size=0
 ·left
  have e:s.data.toList=[]:=List.eq_nil_of_length_eq_zero (by rw[size_list];exact h)
  rw[e,h];exact⟨rfl,rfl,rfl⟩
 ·right
  have e:s.data.toList.isEmpty=false:=by
   rw[List.isEmpty_eq_false_iff];intro e;exact h (by rw[<-size_list,e];rfl)
  rw[e];exact⟨rfl,rfl,decide_eq_true (by omega)⟩
def zeroRule:Value:=.agg #[.nilFunc,.bool false,.nilFunc]
theorem zero_rule (w:World):(zeroValue 125).run Tryz.prog w=.ok zeroRule w:=Tryz.zeroValue125 w
theorem ret_false {b:Bool} (h:b=false):Ending.returned (.bool false)=.returned (.bool b):=by rw[h]
theorem ret_true {b:Bool} (h:b=true):Ending.returned (.bool true)=.returned (.bool b):=by rw[h]
theorem run_store_func (P:Program) (w:World) (a:Addr) (m:Mode) (fn:Fn) (p q:Array Value):(store a (.func fn p q) m).run P w=stored P w a (.func fn p q) m:=run_store P w a _ m rfl
theorem run_store_nilFunc (P:Program) (w:World) (a:Addr) (m:Mode):(store a .nilFunc m).run P w=stored P w a .nilFunc m:=run_store P w a _ m rfl
attribute [local go_sem] run_store_func run_store_nilFunc
def PreOK (l:List Blk) (k:Nat):Prop:=(∀ b∈l.take k,validBlk b=true)/\(ids (l.take k)).Nodup
theorem PreOK.zero (l:List Blk):PreOK l 0:=⟨by simp,by simp⟩
theorem PreOK.succ {l:List Blk} {k:Nat} (hk:k<l.length) (h:PreOK l k) (hv:validBlk l[k]=true) (hn:∀ j (hj:j<k),l[j].id≠l[k].id):PreOK l (k+1):=by
 refine(valid_take k hk).2 ⟨h,hv,fun hm=>?_⟩
 obtain⟨b,hb,e⟩:=List.mem_map.1 hm
 obtain⟨j,hj,rfl⟩:=List.getElem_of_mem hb
 rw[List.length_take]at hj
 rw[List.getElem_take]at e
 exact hn j (by omega) e
theorem validL_bad {l:List Blk} {k:Nat} (hk:k<l.length) (hv:validBlk l[k]=false):¬ ValidL l:=fun h=>by
 have:=h.2.1 l[k] (List.getElem_mem hk);rw[hv]at this;cases this
theorem validL_twice {l:List Blk} {j k:Nat} (hj:j<k) (hk:k<l.length) (e:l[j].id=l[k].id):¬ ValidL l:=fun h=>by
 have:=(List.pairwise_iff_getElem.1 h.2.2) j k (by simp;omega) (by simpa using hk) hj
 simp at this
 exact this e
theorem validL_all {l:List Blk} (h:l.length<=24) (hp:PreOK l l.length):ValidL l:=by
 unfold PreOK at hp
 rw[List.take_length]at hp
 exact⟨h,hp⟩
theorem cells9_below {w w':World} {b o:Nat} {x:Blk} {av:Value} (h:Cells9 w b o x av) {B:Nat} (hb:Below B w w') (hB:b<B):Cells9 w' b o x av:=
 have k:∀ {j:Nat} {v:Value},w.cell? ⟨b,j,none⟩=some v->w'.cell? ⟨b,j,none⟩=some v:=fun {j} {_} e=>(hb.cell (p:=⟨b,j,none⟩) hB).trans e
 ⟨k h.c0,k h.c1,k h.c2,k h.c3,k h.c4,k h.c5,k h.c6,k h.c7,k h.c8⟩
end Go.Proofs.YtdkkhmjlamkgdaaGreatDoor
namespace Go.Proofs.YtdkkhmjlamkgdaaGreatDoor
open Go.RowKit Mg
set_option maxRecDepth 10000 in
set_option maxHeartbeats 2000000 in
theorem labSameR_any {mem:Addr->Option Value} (x y:Lab) (av bv:Value) (h1:IntsM mem av x.after) (h2:IntsM mem bv y.after) (w:World) (hs:Sees mem w):
 Calls Tryz.prog 125 #[.agg (labCells x av),.agg (labCells y bv)] w fun e w'=>e=.returned (.bool (decide (x=y)))/\Below w.heap.size w w':=by
 obtain⟨t,l,p,d⟩:=x
 obtain⟨t2,m,p2,d2⟩:=y
 obtain⟨ao,cap,b,o,rfl,hcap,hm,hao,hcells⟩:=h1.open_ hs
 obtain⟨ao2,cap2,b2,o2,rfl,hcap2,hm2,hao2,hcells2⟩:=h2.open_ hs
 dsimp only at *
 have HA:=Lib.hid hao
 have HA2:=Lib.hid hao2
 have HC:=Lib.hid hcells
 have HC2:=Lib.hid hcells2
 have HR:=Lib.hid (lab_dec t p d t2 p2 d2 l m)
 have hlen:(l.length:Int)<=9223372036854775807:=by unfold maxLen at hm;omega
 have hlen2:(m.length:Int)<=9223372036854775807:=by unfold maxLen at hm2;omega
 have hB0:∀ o o',Below w.heap.size w ((w.alloc o).alloc o'):=fun o o'=>((Below.refl _ w).alloc (Nat.le_refl _) _).alloc (by simp) _
 have HB0:=Lib.hid hB0
 clear hB0 hao hao2 hcells hcells2 hs h1 h2 hcap hcap2 hm hm2
 by_cases hl:l.length=m.length
 ·have HL:=Lib.hid hl
  rw[<-hl]
  clear hl
  go_enter Tryz.func125,Tryz.ntmps125
  go_wp2_with fail
  obtain⟨W1,HW1⟩:=named ((w.alloc (.cells (labCells { till:=t,after:=l,appr:=p,denied:=d } (.slice ao l.length cap)) 48)).alloc (.cells (labCells { till:=t2,after:=m,appr:=p2,denied:=d2 } (.slice ao2 l.length cap2)) 48))
  have hb0:Below w.heap.size w W1:=by rw[HW1.out];exact HB0.out _ _
  have hc:∀ (j:Nat) (u:Value),(labCells { till:=t,after:=l,appr:=p,denied:=d } (.slice ao l.length cap))[j]?=some u->W1.cell? ⟨w.heap.size,j,none⟩=some u:=fun j u hu=>by rw[HW1.out];exact cell_old (cell_new rfl hu)
  have hc':∀ (j:Nat) (u:Value),(labCells { till:=t2,after:=m,appr:=p2,denied:=d2 } (.slice ao2 l.length cap2))[j]?=some u->W1.cell? ⟨w.heap.size+1,j,none⟩=some u:=fun j u hu=>by rw[HW1.out];exact cell_new (by simp) hu
  have hz:w.heap.size+1<W1.heap.size:=by rw[HW1.out];simp
  have q0:=hc 0 _ rfl
  have q1:=hc 1 _ rfl
  have q2:=hc 2 _ rfl
  have q3:=hc 3 _ rfl
  have r0:=hc' 0 _ rfl
  have r1:=hc' 1 _ rfl
  have r2:=hc' 2 _ rfl
  have r3:=hc' 3 _ rfl
  have HQ:=Lib.hid (And.intro (And.intro q0 (And.intro q1 (And.intro q2 q3))) (And.intro r0 (And.intro r1 (And.intro r2 r3))))
  clear hc hc' q0 q1 q2 q3 r0 r1 r2 r3
  rw[<-HW1.out]
  go_loopw [5] (fun i wr=>∃ k:Nat,k<=l.length/\i=.int .i64 k/\Below W1.heap.size W1 wr/\Hid (l.take k=m.take k)) (fun i _=>l.length - (intOf i).toNat)
  case atStart=>exact⟨0,Nat.zero_le _,rfl,Below.refl _ _,Lib.hid rfl⟩
  case round=>
   obtain⟨k,hk,rfl,hb,ht⟩:=hrel
   obtain⟨⟨q0,q1,q2,q3⟩,⟨r0,r1,r2,r3⟩⟩:=HQ.out
   have hx:∀ (j:Nat) (u:Value),W1.cell? ⟨w.heap.size,j,none⟩=some u->wr.cell? ⟨w.heap.size,j,none⟩=some u:=fun j u hu=>(hb.cell (p:=⟨w.heap.size,j,none⟩) (by simp <;> omega)).trans hu
   have hx':∀ (j:Nat) (u:Value),W1.cell? ⟨w.heap.size+1,j,none⟩=some u->wr.cell? ⟨w.heap.size+1,j,none⟩=some u:=fun j u hu=>(hb.cell (p:=⟨w.heap.size+1,j,none⟩) (by simp <;> omega)).trans hu
   replace q0:=hx _ _ q0
   replace q1:=hx _ _ q1
   replace q2:=hx _ _ q2
   replace q3:=hx _ _ q3
   replace r0:=hx' _ _ r0
   replace r1:=hx' _ _ r1
   replace r2:=hx' _ _ r2
   replace r3:=hx' _ _ r3
   have hB:Below w.heap.size w wr:=hb0.trans (hb.mono (by omega))
   clear hx hx'
   by_cases hlt:k<l.length
   ·have hlt2:k<m.length:=by rw[<-HL.out];exact hlt
    have c1:=HC.out k hlt
    have c2:=HC2.out k hlt2
    obtain rfl:=HA.out (by omega)
    obtain rfl:=HA2.out (by omega)
    replace c1:=(hB.cell (p:=⟨b,o+k,none⟩) (World.block_lt_of_cell? w _ c1)).trans c1
    replace c2:=(hB.cell (p:=⟨b2,o2+k,none⟩) (World.block_lt_of_cell? w _ c2)).trans c2
    have HE:Hid (l[k]=m[k]->l.take (k+1)=m.take (k+1)):=Lib.hid (take_step hlt hlt2 ht.out)
    have HN:Hid (l[k]≠m[k]->l≠m):=Lib.hid (ne_of_get hlt hlt2)
    generalize l[k]=x at *
    generalize m[k]=y at *
    have hk0:(0:Int)<=k:=by omega
    have hk1:(k:Int)<l.length:=by omega
    clear ht hlt2
    by_cases hxy:x=y
    ·subst hxy
     have HE2:=Lib.hid (HE.out rfl)
     clear HE
     go_wp2_with fail
     go_quiet (fail)
     go_wp2_with fail
     go_roundw
     case rel=>exact⟨k+1,by omega,by go_num,below_drewN hb _,HE2⟩
     case measure=>simp[intOf];omega
    ·have hne:(x != y)=true:=by simpa using hxy
     have HNE:=Lib.hid (HN.out hxy)
     clear hxy HN
     go_wp2_with fail
     go_quiet (fail)
     go_wp2_with fail
     go_ret
     exact⟨ret_bool (by first|(rw[HR.out];simp[HNE.out];done) | (simp[HNE.out];done)),below_drewN hB _⟩
   ·have e:k=l.length:=by omega
    subst e
    have HF:Hid (l=m):=Lib.hid (eq_full HL.out ht.out)
    by_cases e1:t=t2
    ·subst e1
     by_cases e2:p=p2
     ·subst e2
      by_cases e3:d=d2
      ·subst e3
       go_wp2_with fail
       go_ret
       exact⟨ret_bool (by first|(rw[HR.out];simp[HF.out];done) | (simp[HF.out];done)),hB⟩
      ·have n3:(d == d2)=false:=by simpa using e3
       have E3:=Lib.hid e3
       clear e3
       go_wp2_with fail
       go_ret
       exact⟨ret_bool (by first|(rw[HR.out];simp[E3.out];done) | (simp[E3.out];done)),hB⟩
     ·have n2:(p == p2)=false:=by simpa using e2
      have E2:=Lib.hid e2
      clear e2
      go_wp2_with fail
      go_ret
      exact⟨ret_bool (by first|(rw[HR.out];simp[E2.out];done) | (simp[E2.out];done)),hB⟩
    ·have n1:(t == t2)=false:=by simpa using e1
     have E1:=Lib.hid e1
     clear e1
     go_wp2_with fail
     go_ret
     exact⟨ret_bool (by first|(rw[HR.out];simp[E1.out];done) | (simp[E1.out];done)),hB⟩
 ·have hne:decide (l.length=m.length)=false:=decide_eq_false hl
  have HNE:Hid (l≠m):=Lib.hid (fun e=>hl (by rw[e]))
  go_enter Tryz.func125,Tryz.ntmps125
  go_wp2_with fail
  all_goals first
   |(go_ret
     exact⟨ret_bool (by first|(rw[HR.out];simp[HNE.out];done) | (simp[HNE.out];done)),HB0.out _ _⟩)
   |(exfalso;simp_all;done)
def headOK (x:Lab):Prop:=0<=x.till/\x.till<=1000000000/\0<=x.appr/\x.appr<=5/\0<=x.denied/\x.denied<=15
theorem validLab_yes {x:Lab} (h:headOK x):validLab x=afterOK 0 x.after:=by
 obtain⟨h1,h2,h3,h4,h5,h6⟩:=h
 unfold validLab
 simp[h1,h2,h3,h4,h5,h6]
theorem validLab_no {x:Lab} (h:¬ headOK x):validLab x=false:=by
 rw[Bool.eq_false_iff]
 intro e
 unfold validLab at e
 simp only[Bool.and_eq_true,decide_eq_true_eq]at e
 exact h ⟨e.1.1.1.1.1.1,e.1.1.1.1.1.2,e.1.1.1.1.2,e.1.1.1.2,e.1.1.2,e.1.2⟩
set_option maxRecDepth 10000 in
set_option maxHeartbeats 2000000 in
theorem labValidR_any {mem:Addr->Option Value} (x:Lab) (av:Value) (hi:IntsM mem av x.after) (w:World) (hs:Sees mem w):
 Calls Tryz.prog 211 #[.agg (labCells x av)] w fun e w'=>e=.returned (.bool (validLab x))/\Below w.heap.size w w':=by
 obtain⟨ao,cap,b,o,rfl,hcap,hm,hao,hcells⟩:=hi.open_ hs
 have HAO:=Lib.hid hao
 have HC:=Lib.hid hcells
 have hlen:(x.after.length:Int)<=9223372036854775807:=by unfold maxLen at hm;omega
 have hB0:∀ o,Below w.heap.size w (w.alloc o):=fun o=>(Below.refl _ w).alloc (Nat.le_refl _) _
 have HB0:=Lib.hid hB0
 clear hB0 hao hcells hi hs hcap hm
 by_cases hv:headOK x
 ·have HV:=Lib.hid (validLab_yes hv)
  obtain⟨v1,v2,v3,v4,v5,v6⟩:=hv
  go_enter Tryz.func211,Tryz.ntmps211
  go_wp2_with fail
  obtain⟨W1,HW1⟩:=named (w.alloc (.cells (labCells x (.slice ao x.after.length cap)) 48))
  have hb0:Below w.heap.size w W1:=by rw[HW1.out];exact HB0.out _
  have q1:W1.cell? ⟨w.heap.size,1,none⟩=some (.slice ao x.after.length cap):=by rw[HW1.out];exact cell_new rfl rfl
  have f1:W1.heap.size=W1.heap.size:=rfl
  rw[<-HW1.out]
  go_loop [4,3] (fun i s=>∃ (k:Nat) (last:Int),k<=x.after.length/\i=.int .i64 k/\s=.int .i64 last/\0<=last/\last<=64/\Hid (afterOK 0 x.after=afterOK last (x.after.drop k))) (fun i _=>x.after.length - (intOf i).toNat)
  case atStart=>exact⟨0,0,Nat.zero_le _,rfl,rfl,by omega,by omega,Lib.hid rfl⟩
  case round=>
   obtain⟨k,last,hk,rfl,rfl,hl0,hl1,ha⟩:=hrel
   by_cases hlt:k<x.after.length
   ·have hcell:=HC.out k hlt
    obtain rfl:=HAO.out (by omega)
    have hcw:=(hb0.cell (p:=⟨b,o+k,none⟩) (World.block_lt_of_cell? w _ hcell)).trans hcell
    have HD:Hid (afterOK 0 x.after=(decide (last+1<=x.after[k]) && decide (x.after[k]<=64) && afterOK x.after[k] (x.after.drop (k+1)))):=Lib.hid (by rw[ha.out,List.drop_eq_getElem_cons hlt,afterOK_cons])
    clear hcell ha
    generalize x.after[k]=s at *
    by_cases hok:last<s/\s<=64
    ·obtain⟨hk1,hk2⟩:=hok
     have HD2:Hid (afterOK 0 x.after=afterOK s (x.after.drop (k+1))):=Lib.hid (by rw[HD.out,decide_eq_true (by omega),decide_eq_true hk2];rfl)
     go_wp2_with fail
     go_round
     case rel=>exact⟨k+1,s,by omega,by go_num,rfl,by omega,by omega,HD2⟩
     case measure=>simp[intOf];omega
    ·have HD2:Hid (afterOK 0 x.after=false):=Lib.hid (by
      rw[HD.out,Bool.and_eq_false_iff,Bool.and_eq_false_iff,decide_eq_false_iff_not,decide_eq_false_iff_not]
      by_cases h1:last<s
      ·exact .inl (.inr (by omega))
      ·exact .inl (.inl (by omega)))
     go_wp2_with fail
     all_goals first
      |(go_ret
        exact⟨ret_bool (by rw[HV.out,HD2.out]),hb0⟩)
      |(exfalso;omega)
   ·have e:k=x.after.length:=by omega
    subst e
    have HF:Hid (afterOK 0 x.after=true):=Lib.hid (by rw[ha.out,List.drop_length];rfl)
    go_wp2_with fail
    go_ret
    exact⟨ret_bool (by rw[HV.out,HF.out]),hb0⟩
 ·have HV:=Lib.hid (validLab_no hv)
  have hn:¬ (0<=x.till/\x.till<=1000000000/\0<=x.appr/\x.appr<=5/\0<=x.denied/\x.denied<=15):=hv
  have HN:=Lib.hid hn
  clear hn hv
  go_enter Tryz.func211,Tryz.ntmps211
  go_wp2_with fail
  all_goals first
   |(go_ret
     exact⟨ret_bool (by rw[HV.out]),HB0.out _⟩)
   |(exfalso;have:=HN.out;omega)
end Go.Proofs.YtdkkhmjlamkgdaaGreatDoor
namespace Go.Proofs.YtdkkhmjlamkgdaaGreatDoor
open Go.RowKit Mg Go.Shelf
theorem blk_dec (id kind story ref id2 kind2 story2 ref2:Int) (text text2:ByteArray) (lab lab2:Lab):decide (({ id:=id,kind:=kind,text:=text,story:=story,ref:=ref,lab:=lab }:Blk)={ id:=id2,kind:=kind2,text:=text2,story:=story2,ref:=ref2,lab:=lab2 }) =
 (decide (id=id2) && (decide (kind=kind2) && (decide (text=text2) && (decide (story=story2) && (decide (ref=ref2) && decide (lab=lab2)))))):=by
 simp only[Blk.mk.injEq,Bool.decide_and]
theorem wp_tail {P:Program} {id:Nat} {Q:Exit->Act->World->Prop} {a:Act} {w:World} {l:List Oper} (n:Nat) (hm:P.follows .mixedOrders=true) (hB:Region.lexTailB .any l.toArray n=true)
 (h:wpStill P l.toArray w.drew (fun a'=>wpList P l.toArray Q (l.drop n) a' w.drew) (l.take n) a):(Code.region id l.toArray true).wp P Q a w:=
 wp_region_still_tail n hm hB h
set_option maxRecDepth 10000 in
set_option maxHeartbeats 4000000 in
theorem same_any {mem:Addr->Option Value} (x y:Blk) (av bv:Value) (h1:IntsM mem av x.lab.after) (h2:IntsM mem bv y.lab.after) (w:World) (hs:Sees mem w):
 Calls Tryz.prog 57 #[.agg (blkCells x av),.agg (blkCells y bv)] w fun e w'=>e=.returned (.bool (decide (x=y)))/\Below w.heap.size w w':=by
 obtain⟨id,kind,text,story,ref,lab⟩:=x
 obtain⟨id2,kind2,text2,story2,ref2,lab2⟩:=y
 dsimp only at h1 h2
 have HL:=Lib.hid (fun W hW=>labSame_any lab lab2 _ _ h1 h2 W hW)
 obtain⟨ao,cap,rfl⟩:=h1.slice
 obtain⟨ao2,cap2,rfl⟩:=h2.slice
 have HR:=Lib.hid (blk_dec id kind story ref id2 kind2 story2 ref2 text text2 lab lab2)
 have hB0:∀ o o',Below w.heap.size w ((w.alloc o).alloc o'):=fun o o'=>((Below.refl _ w).alloc (Nat.le_refl _) _).alloc (by simp) _
 have HB0:=Lib.hid hB0
 have HS:=Lib.hid hs
 clear hB0 h1 h2 hs
 by_cases e1:id=id2
 ·subst e1
  by_cases e2:kind=kind2
  ·subst e2
   by_cases e3:text=text2
   ·subst e3
    by_cases e4:story=story2
    ·subst e4
     by_cases e5:ref=ref2
     ·subst e5
      go_enter Tryz.func57,Tryz.ntmps57
      go_wp2_with fail
      refine(HL.out _ ((HS.out.alloc _).alloc _)).mono ?_
      rintro e w1 ⟨rfl,hb⟩
      have hB:=(HB0.out _ _).trans (hb.mono (by simp <;> omega))
      generalize decide (lab=lab2)=q at *
      cases q with
      |false=>
       go_wp2_with fail
       go_ret
       exact⟨ret_false (by rw[HR.out];simp),hB⟩
      |true=>
       go_wp2_with fail
       go_ret
       exact⟨ret_true (by rw[HR.out];simp),hB⟩
     ·have n:(ref == ref2)=false:=by simpa using e5
      have E:=Lib.hid e5
      clear e5
      go_enter Tryz.func57,Tryz.ntmps57
      go_wp2_with fail
      go_ret
      exact⟨ret_false (by first|(rw[HR.out,decide_eq_false E.out];simp;done) | (rw[decide_eq_false E.out];simp;done) | (rw[decide_eq_false E.out];done)),HB0.out _ _⟩
    ·have n:(story == story2)=false:=by simpa using e4
     have E:=Lib.hid e4
     clear e4
     go_enter Tryz.func57,Tryz.ntmps57
     go_wp2_with fail
     go_ret
     exact⟨ret_false (by first|(rw[HR.out,decide_eq_false E.out];simp;done) | (rw[decide_eq_false E.out];simp;done) | (rw[decide_eq_false E.out];done)),HB0.out _ _⟩
   ·have n:(text.toList == text2.toList)=false:=by
     simp only[beq_eq_false_iff_ne,ne_eq,ByteArray.toList_eq]
     intro e
     exact e3 (str_ext e)
    have E:=Lib.hid e3
    clear e3
    go_enter Tryz.func57,Tryz.ntmps57
    go_wp2_with fail
    go_ret
    exact⟨ret_false (by first|(rw[HR.out,decide_eq_false E.out];simp;done) | (rw[decide_eq_false E.out];simp;done) | (rw[decide_eq_false E.out];done)),HB0.out _ _⟩
  ·have n:(kind == kind2)=false:=by simpa using e2
   have E:=Lib.hid e2
   clear e2
   go_enter Tryz.func57,Tryz.ntmps57
   go_wp2_with fail
   go_ret
   exact⟨ret_false (by first|(rw[HR.out,decide_eq_false E.out];simp;done) | (rw[decide_eq_false E.out];simp;done) | (rw[decide_eq_false E.out];done)),HB0.out _ _⟩
 ·have n:(id == id2)=false:=by simpa using e1
  have E:=Lib.hid e1
  clear e1
  go_enter Tryz.func57,Tryz.ntmps57
  go_wp2_with fail
  go_ret
  exact⟨ret_false (by first|(rw[HR.out,decide_eq_false E.out];simp;done) | (rw[decide_eq_false E.out];simp;done) | (rw[decide_eq_false E.out];done)),HB0.out _ _⟩
set_option maxRecDepth 10000 in
set_option maxHeartbeats 4000000 in
theorem sameR_any {mem:Addr->Option Value} (x y:Blk) (av bv:Value) (h1:IntsM mem av x.lab.after) (h2:IntsM mem bv y.lab.after) (w:World) (hs:Sees mem w):
 Calls Tryz.prog 108 #[.agg (blkCells x av),.agg (blkCells y bv)] w fun e w'=>e=.returned (.bool (decide (x=y)))/\Below w.heap.size w w':=by
 obtain⟨id,kind,text,story,ref,lab⟩:=x
 obtain⟨id2,kind2,text2,story2,ref2,lab2⟩:=y
 dsimp only at h1 h2
 have HL:=Lib.hid (fun W hW=>labSameR_any lab lab2 _ _ h1 h2 W hW)
 obtain⟨ao,cap,rfl⟩:=h1.slice
 obtain⟨ao2,cap2,rfl⟩:=h2.slice
 have HR:=Lib.hid (blk_dec id kind story ref id2 kind2 story2 ref2 text text2 lab lab2)
 have hB0:∀ o o',Below w.heap.size w ((w.alloc o).alloc o'):=fun o o'=>((Below.refl _ w).alloc (Nat.le_refl _) _).alloc (by simp) _
 have HB0:=Lib.hid hB0
 have HS:=Lib.hid hs
 clear hB0 h1 h2 hs
 by_cases e1:id=id2
 ·subst e1
  by_cases e2:kind=kind2
  ·subst e2
   by_cases e3:text=text2
   ·subst e3
    by_cases e4:story=story2
    ·subst e4
     by_cases e5:ref=ref2
     ·subst e5
      go_enter Tryz.func108,Tryz.ntmps108
      go_wp2_with fail
      refine(HL.out _ ((HS.out.alloc _).alloc _)).mono ?_
      rintro e w1 ⟨rfl,hb⟩
      have hB:=(HB0.out _ _).trans (hb.mono (by simp <;> omega))
      generalize decide (lab=lab2)=q at *
      cases q with
      |false=>
       go_wp2_with fail
       go_ret
       exact⟨ret_false (by rw[HR.out];simp),hB⟩
      |true=>
       go_wp2_with fail
       go_ret
       exact⟨ret_true (by rw[HR.out];simp),hB⟩
     ·have n:(ref == ref2)=false:=by simpa using e5
      have E:=Lib.hid e5
      clear e5
      go_enter Tryz.func108,Tryz.ntmps108
      go_wp2_with fail
      go_ret
      exact⟨ret_false (by first|(rw[HR.out,decide_eq_false E.out];simp;done) | (rw[decide_eq_false E.out];simp;done) | (rw[decide_eq_false E.out];done)),HB0.out _ _⟩
    ·have n:(story == story2)=false:=by simpa using e4
     have E:=Lib.hid e4
     clear e4
     go_enter Tryz.func108,Tryz.ntmps108
     go_wp2_with fail
     go_ret
     exact⟨ret_false (by first|(rw[HR.out,decide_eq_false E.out];simp;done) | (rw[decide_eq_false E.out];simp;done) | (rw[decide_eq_false E.out];done)),HB0.out _ _⟩
   ·have n:(text.toList == text2.toList)=false:=by
     simp only[beq_eq_false_iff_ne,ne_eq,ByteArray.toList_eq]
     intro e
     exact e3 (str_ext e)
    have E:=Lib.hid e3
    clear e3
    go_enter Tryz.func108,Tryz.ntmps108
    go_wp2_with fail
    go_ret
    exact⟨ret_false (by first|(rw[HR.out,decide_eq_false E.out];simp;done) | (rw[decide_eq_false E.out];simp;done) | (rw[decide_eq_false E.out];done)),HB0.out _ _⟩
  ·have n:(kind == kind2)=false:=by simpa using e2
   have E:=Lib.hid e2
   clear e2
   go_enter Tryz.func108,Tryz.ntmps108
   go_wp2_with fail
   go_ret
   exact⟨ret_false (by first|(rw[HR.out,decide_eq_false E.out];simp;done) | (rw[decide_eq_false E.out];simp;done) | (rw[decide_eq_false E.out];done)),HB0.out _ _⟩
 ·have n:(id == id2)=false:=by simpa using e1
  have E:=Lib.hid e1
  clear e1
  go_enter Tryz.func108,Tryz.ntmps108
  go_wp2_with fail
  go_ret
  exact⟨ret_false (by first|(rw[HR.out,decide_eq_false E.out];simp;done) | (rw[decide_eq_false E.out];simp;done) | (rw[decide_eq_false E.out];done)),HB0.out _ _⟩
set_option maxRecDepth 10000 in
set_option maxHeartbeats 4000000 in
theorem equalFunc_any {mem:Addr->Option Value} {v u:Value} {l m:List Blk} (h1:BlksM mem v l) (h2:BlksM mem u m) (w:World) (hs:Sees mem w):
 Calls Tryz.prog 56 #[v,u,.func (.func 57) #[] #[]] w fun e w'=>e=.returned (.bool (decide (l=m)))/\Below w.heap.size w w':=by
 obtain⟨ao,cap,b,o,rfl,hcap,hm,hao,hblks⟩:=h1.open_
 obtain⟨ao2,cap2,b2,o2,rfl,hcap2,hm2,hao2,hblks2⟩:=h2.open_
 have HA:=Lib.hid hao
 have HA2:=Lib.hid hao2
 have HB:=Lib.hid hblks
 have HB2:=Lib.hid hblks2
 have HS:=Lib.hid hs
 have hlen:(l.length:Int)<=9223372036854775807:=by unfold maxLen at hm;omega
 have hlen2:(m.length:Int)<=9223372036854775807:=by unfold maxLen at hm2;omega
 clear h1 h2 hao hao2 hblks hblks2 hs hcap hcap2 hm hm2
 by_cases hl:l.length=m.length
 ·have HL:=Lib.hid hl
  rw[<-hl]
  clear hl
  go_enter Tryz.func56,Tryz.ntmps56
  go_wp2_with fail
  go_loopw [17] (fun i wr=>∃ k:Nat,k<=l.length/\i=.int .i64 k/\Below w.heap.size w wr/\Hid (l.take k=m.take k)) (fun i _=>l.length - (intOf i).toNat)
  case atStart=>exact⟨0,Nat.zero_le _,rfl,Below.refl _ _,Lib.hid rfl⟩
  case round=>
   obtain⟨k,hk,rfl,hb,ht⟩:=hrel
   by_cases hlt:k<l.length
   ·have hlt2:k<m.length:=by rw[<-HL.out];exact hlt
    obtain⟨hp1,lo,lc,hi,c9⟩:=(HB.out k hlt).nine (HS.out.bel hb)
    obtain⟨hp2,lo2,lc2,hi2,d9⟩:=(HB2.out k hlt2).nine (HS.out.bel hb)
    obtain rfl:=HA.out (by omega)
    obtain rfl:=HA2.out (by omega)
    obtain⟨c0,c1,c2,c3,c4,c5,c6,c7,c8⟩:=c9
    obtain⟨d0,d1,d2,d3,d4,d5,d6,d7,d8⟩:=d9
    have hbl:b<wr.heap.size:=World.block_lt_of_cell? wr _ c0
    have hbl2:b2<wr.heap.size:=World.block_lt_of_cell? wr _ d0
    have HI:=Lib.hid (And.intro hi hi2)
    have HE:Hid (l[k]=m[k]->l.take (k+1)=m.take (k+1)):=Lib.hid (take_step hlt hlt2 ht.out)
    have HN:Hid (l[k]≠m[k]->decide (l=m)=false):=Lib.hid (fun e=>decide_eq_false (ne_of_get hlt hlt2 e))
    have hk0:(0:Int)<=k:=by omega
    have hk1:(k:Int)<l.length:=by omega
    clear ht hi hi2 hp1 hp2
    generalize l[k]=x at *
    generalize m[k]=y at *
    have HC:Hid (∀ W,Sees mem W->Calls Tryz.prog 57 #[.agg (blkCells x (.slice lo x.lab.after.length lc)),.agg (blkCells y (.slice lo2 y.lab.after.length lc2))] W fun e w'=>e=.returned (.bool (decide (x=y)))/\Below W.heap.size W w'):=
     Lib.hid (fun W hW=>same_any x y _ _ HI.out.1 HI.out.2 W hW)
    have HC9:Hid (decide (x=y)=true->x=y):=Lib.hid of_decide_eq_true
    have HC8:Hid (decide (x=y)=false->x≠y):=Lib.hid of_decide_eq_false
    generalize hq:decide (x=y)=q at *
    clear hq HI
    go_wp2_with fail
    obtain⟨W2,HW2⟩:=named ((wr.alloc (.cells (blkCells x (.slice lo x.lab.after.length lc)) 58)).alloc (.cells (blkCells y (.slice lo2 y.lab.after.length lc2)) 58))
    rw[<-HW2.out]
    have hb2:Below w.heap.size w W2:=by rw[HW2.out];exact(hb.alloc hb.size _).alloc (by have:=hb.size;simp;omega) _
    refine(HC.out W2 (HS.out.bel hb2)).mono ?_
    rintro e w3 ⟨rfl,hb3⟩
    have hB3:Below w.heap.size w w3:=hb2.trans (hb3.mono hb2.size)
    clear hb3 hb2 c0 c1 c2 c3 c4 c5 c6 c7 c8 d0 d1 d2 d3 d4 d5 d6 d7 d8
    cases q with
    |true=>
     have HE2:=Lib.hid (HE.out (HC9.out rfl))
     clear HE HN HC9 HC8
     go_wp2_with fail
     go_roundw
     case rel=>exact⟨k+1,by omega,by go_num,hB3,HE2⟩
     case measure=>simp[intOf];omega
    |false=>
     have HN2:=Lib.hid (HN.out (HC8.out rfl))
     clear HE HN HC9 HC8
     go_wp2_with fail
     go_ret
     exact⟨ret_false HN2.out,hB3⟩
   ·have e:k=l.length:=by omega
    subst e
    have HF:Hid (decide (l=m)=true):=Lib.hid (decide_eq_true (eq_full HL.out ht.out))
    go_wp2_with fail
    go_ret
    exact⟨ret_true HF.out,hb⟩
 ·have HNE:Hid (decide (l=m)=false):=Lib.hid (decide_eq_false (fun e=>hl (by rw[e])))
  have hne:decide (l.length=m.length)=false:=decide_eq_false hl
  go_enter Tryz.func56,Tryz.ntmps56
  go_wp2_with fail
  all_goals first
   |(go_ret
     exact⟨ret_false HNE.out,Below.refl _ _⟩)
   |(exfalso;simp_all;done)
theorem sameList_any {mem:Addr->Option Value} {v u:Value} {l m:List Blk} (h1:BlksM mem v l) (h2:BlksM mem u m) (w:World) (hs:Sees mem w):
 Calls Tryz.prog 30 #[v,u] w fun e w'=>e=.returned (.bool (decide (l=m)))/\Below w.heap.size w w':=by
 have HC:=Lib.hid (equalFunc_any h1 h2 w hs)
 obtain⟨ao,cap,rfl⟩:=h1.slice
 obtain⟨ao2,cap2,rfl⟩:=h2.slice
 clear h1 h2 hs
 go_enter Tryz.func30,Tryz.ntmps30
 go_wp2_with fail
 refine HC.out.mono ?_
 rintro e w1 ⟨rfl,hb⟩
 go_wp2_with fail
 go_ret
 exact⟨rfl,hb⟩
set_option maxRecDepth 10000 in
set_option maxHeartbeats 4000000 in
theorem sameListR_any {mem:Addr->Option Value} {v u:Value} {l m:List Blk} (h1:BlksM mem v l) (h2:BlksM mem u m) (w:World) (hs:Sees mem w):
 Calls Tryz.prog 69 #[v,u] w fun e w'=>e=.returned (.bool (decide (l=m)))/\Below w.heap.size w w':=by
 obtain⟨ao,cap,b,o,rfl,hcap,hm,hao,hblks⟩:=h1.open_
 obtain⟨ao2,cap2,b2,o2,rfl,hcap2,hm2,hao2,hblks2⟩:=h2.open_
 have HA:=Lib.hid hao
 have HA2:=Lib.hid hao2
 have HB:=Lib.hid hblks
 have HB2:=Lib.hid hblks2
 have HS:=Lib.hid hs
 have hlen:(l.length:Int)<=9223372036854775807:=by unfold maxLen at hm;omega
 have hlen2:(m.length:Int)<=9223372036854775807:=by unfold maxLen at hm2;omega
 clear h1 h2 hao hao2 hblks hblks2 hs hcap hcap2 hm hm2
 by_cases hl:l.length=m.length
 ·have HL:=Lib.hid hl
  rw[<-hl]
  clear hl
  go_enter Tryz.func69,Tryz.ntmps69
  go_wp2_with fail
  go_loopw [5] (fun i wr=>∃ k:Nat,k<=l.length/\i=.int .i64 k/\Below w.heap.size w wr/\Hid (l.take k=m.take k)) (fun i _=>l.length - (intOf i).toNat)
  case atStart=>exact⟨0,Nat.zero_le _,rfl,Below.refl _ _,Lib.hid rfl⟩
  case round=>
   obtain⟨k,hk,rfl,hb,ht⟩:=hrel
   by_cases hlt:k<l.length
   ·have hlt2:k<m.length:=by rw[<-HL.out];exact hlt
    obtain⟨hp1,lo,lc,hi,c9⟩:=(HB.out k hlt).nine (HS.out.bel hb)
    obtain⟨hp2,lo2,lc2,hi2,d9⟩:=(HB2.out k hlt2).nine (HS.out.bel hb)
    obtain rfl:=HA.out (by omega)
    obtain rfl:=HA2.out (by omega)
    obtain⟨c0,c1,c2,c3,c4,c5,c6,c7,c8⟩:=c9
    obtain⟨d0,d1,d2,d3,d4,d5,d6,d7,d8⟩:=d9
    have hbl:b<wr.heap.size:=World.block_lt_of_cell? wr _ c0
    have hbl2:b2<wr.heap.size:=World.block_lt_of_cell? wr _ d0
    have HI:=Lib.hid (And.intro hi hi2)
    have HE:Hid (l[k]=m[k]->l.take (k+1)=m.take (k+1)):=Lib.hid (take_step hlt hlt2 ht.out)
    have HN:Hid (l[k]≠m[k]->decide (l=m)=false):=Lib.hid (fun e=>decide_eq_false (ne_of_get hlt hlt2 e))
    have hk0:(0:Int)<=k:=by omega
    have hk1:(k:Int)<l.length:=by omega
    clear ht hi hi2 hp1 hp2
    generalize l[k]=x at *
    generalize m[k]=y at *
    have HC:Hid (∀ W,Sees mem W->Calls Tryz.prog 108 #[.agg (blkCells x (.slice lo x.lab.after.length lc)),.agg (blkCells y (.slice lo2 y.lab.after.length lc2))] W fun e w'=>e=.returned (.bool (decide (x=y)))/\Below W.heap.size W w'):=
     Lib.hid (fun W hW=>sameR_any x y _ _ HI.out.1 HI.out.2 W hW)
    have HC9:Hid (decide (x=y)=true->x=y):=Lib.hid of_decide_eq_true
    have HC8:Hid (decide (x=y)=false->x≠y):=Lib.hid of_decide_eq_false
    generalize hq:decide (x=y)=q at *
    clear hq HI
    go_wp2_with fail
    refine wp_tail 8 (by kernel_rfl) (by kernel_rfl) ?_
    simp only[List.take_succ_cons,List.take_zero,List.drop_succ_cons,List.drop_zero]
    repeat still_step
    refine wpStill_nil ?_
    go_wp2_with fail
    refine(HC.out _ (HS.out.bel hb).drew).mono ?_
    rintro e w3 ⟨rfl,hb3⟩
    have hB3:Below w.heap.size w w3:=hb.drew.trans (hb3.mono hb.size)
    clear hb3 c0 c1 c2 c3 c4 c5 c6 c7 c8 d0 d1 d2 d3 d4 d5 d6 d7 d8
    cases q with
    |true=>
     have HE2:=Lib.hid (HE.out (HC9.out rfl))
     clear HE HN HC9 HC8
     go_wp2_with fail
     go_roundw
     case rel=>exact⟨k+1,by omega,by go_num,hB3,HE2⟩
     case measure=>simp[intOf];omega
    |false=>
     have HN2:=Lib.hid (HN.out (HC8.out rfl))
     clear HE HN HC9 HC8
     go_wp2_with fail
     go_ret
     exact⟨ret_false HN2.out,hB3⟩
   ·have e:k=l.length:=by omega
    subst e
    have HF:Hid (decide (l=m)=true):=Lib.hid (decide_eq_true (eq_full HL.out ht.out))
    go_wp2_with fail
    go_ret
    exact⟨ret_true HF.out,hb⟩
 ·have HNE:Hid (decide (l=m)=false):=Lib.hid (decide_eq_false (fun e=>hl (by rw[e])))
  have hne:decide (l.length=m.length)=false:=decide_eq_false hl
  go_enter Tryz.func69,Tryz.ntmps69
  go_wp2_with fail
  all_goals first
   |(go_ret
     exact⟨ret_false HNE.out,Below.refl _ _⟩)
   |(exfalso;simp_all;done)
end Go.Proofs.YtdkkhmjlamkgdaaGreatDoor
namespace Go.Proofs.YtdkkhmjlamkgdaaGreatDoor
open Go.RowKit Mg Go.Shelf Go.Maps
theorem BRow.less {w:World} {B B':Nat} {v:Value} {l:List Blk} (h:BRow w B v l) (hB:B'<=B):BRow w B' v l:=by
 obtain⟨vs,h1,h2⟩:=h
 refine⟨vs,⟨h1.1,?_⟩,h2.mono (memFr_mono (Upd.refl (fun _=>False) w) (fun k _ hf=>⟨fun g=>hf (g.elim (fun h=>.inl (by omega)) .inr),fun g=>g⟩))⟩
 rcases h1.2 with hq | ⟨g,cap,cur,e,hb,rest⟩
 ·exact .inl hq
 ·exact .inr ⟨g,cap,cur,e,by omega,rest⟩
theorem IRow.less {w:World} {B B':Nat} {v:Value} {l:List Int} (h:IRow w B v l) (hB:B'<=B):IRow w B' v l:=by
 refine⟨h.1,?_⟩
 rcases h.2 with hq | ⟨g,cap,cur,e,hb,rest⟩
 ·exact .inl hq
 ·exact .inr ⟨g,cap,cur,e,by omega,rest⟩
theorem upEd_one {f:Fct} {n:Nat}:∀ {l:List EdG},(∀ e∈l,e.revs.length<=n)->∀ e∈upEd f l,e.revs.length<=n+1
 |[],_,e,he=>by rw[List.mem_singleton.1 he];show 1<=n+1;omega
 |a::r,h,e,he=>by
  unfold upEd at he
  split at he
  ·rcases List.mem_cons.1 he with rfl | he
   ·have:=h a List.mem_cons_self
    show (a.revs++[f]).length<=n+1
    rw[List.length_append];simp;omega
   ·have:=h e (List.mem_cons_of_mem _ he);omega
  ·rcases List.mem_cons.1 he with rfl | he
   ·have:=h _ List.mem_cons_self;omega
   ·exact upEd_one (fun y hy=>h y (List.mem_cons_of_mem _ hy)) e he
theorem stepG_one {f:Fct} {n:Nat} {g:StG} (h:∀ e∈g.eds,e.revs.length<=n):∀ e∈(Mg.stepG g f).eds,e.revs.length<=n+(if decide (f.kind=1) then 1 else 0):=by
 by_cases h1:f.kind=1
 ·have e:(Mg.stepG g f).eds=upEd f g.eds:=by unfold Mg.stepG;rw[if_pos h1]
  rw[e,if_pos (show decide (f.kind=1)=true by simpa using h1)];exact upEd_one h
 ·have e:(Mg.stepG g f).eds=g.eds\/(Mg.stepG g f).eds=touchEd f g.eds:=by
   unfold Mg.stepG
   rw[if_neg h1]
   split
   ·split <;> exact .inl rfl
   split
   ·exact .inr rfl
   split
   ·exact .inl rfl
   split <;> exact .inl rfl
  rw[if_neg (show ¬ decide (f.kind=1)=true by simpa using h1)]
  rcases e with e | e
  ·rw[e];exact h
  ·rw[e]
   intro e he
   unfold touchEd at he
   obtain⟨y,hy,rfl⟩:=List.mem_map.1 he
   have:=h y hy
   split <;> exact this
theorem foldl_one:∀ (l:List Fct) (g:StG) (n:Nat),(∀ e∈g.eds,e.revs.length<=n)->∀ e∈(l.foldl Mg.stepG g).eds,e.revs.length<=n+(l.filter fun f=>decide (f.kind=1)).length
 |[],_,_,h=>h
 |f::l,g,n,h=>fun e he=>by
  have h1:=foldl_one l _ _ (stepG_one (f:=f) h) e he
  cases hk:decide (f.kind=1) with
  |true=>rw[hk]at h1;rw[List.filter_cons_of_pos (by simpa using hk),List.length_cons];simp at h1;omega
  |false=>rw[hk]at h1;rw[List.filter_cons_of_neg (by simpa using hk)];simpa using h1
theorem rev_one {l:List Fct} (h:(l.filter fun f=>decide (f.kind=1)).length<=1):∀ id,∀ e∈(Mg.foldG l id).eds,e.revs.length<=1:=fun id e he=>by
 have h1:=foldl_one (l.filter fun f=>decide (f.story=id)) stg0 0 (fun e he=>by cases he) e he
 have h2:=(List.Sublist.filter (fun f:Fct=>decide (f.kind=1)) (List.filter_sublist (p:=fun f:Fct=>decide (f.story=id)) (l:=l))).length_le
 omega
def GL (l:List Blk):Prop:=l.length<=50000/\∀ x∈l,x.lab.after.length<=50000
theorem GL.nil:GL []:=⟨Nat.zero_le _,fun x h=>by cases h⟩
theorem GD.gl {l:List Blk} (h:GD l):GL l:=⟨by have:=h.1;omega,fun x hx=>by have:=(h.2 x hx).2.2.2;omega⟩
def GSt (s:StF):Prop:=∀ x∈s.stories,∀ e∈x.eds,GL e.blocks
theorem GSt.of {s:StF} (h:GSt s) (id:Int):∀ e∈(styOf s id).eds,GL e.blocks:=by
 unfold styOf
 cases hf:findS s id with
 |none=>intro e he;cases he
 |some x=>exact h x (List.mem_of_find?_eq_some hf)
theorem GSt.edn {s:StF} (h:GSt s) (id:Int) (lang:ByteArray):GL ((findE (styOf s id).eds lang).getD edn0).blocks:=by
 cases hf:findE (styOf s id).eds lang with
 |none=>exact GL.nil
 |some x=>exact h.of id x (List.mem_of_find?_eq_some hf)
def EditionPost (s:StF) (id:Int) (lang:ByteArray) (w:World) (e:Ending) (w':World):Prop:=
 ∃ bv,e=.returned (.tuple #[.agg (ednCells ((ednOf s id lang).getD edn0) bv),.bool (ednOf s id lang).isSome])/\EdnOK ((ednOf s id lang).getD edn0)/\BRow w' w.heap.size bv ((ednOf s id lang).getD edn0).blocks/\Below w.heap.size w w'
set_option maxRecDepth 100000 in
set_option maxHeartbeats 4000000 in
theorem Edition_any {mem:Addr->Option Value} {v:Value} {s:StF} (h:StateM mem v s) (hg:GSt s) (id:Int) (lang:ByteArray) (w:World) (hs:Sees mem w):
 Calls Tryz.prog 21 #[v,.int .i64 id,.string lang] w (EditionPost s id lang w):=by
 have HST:=Lib.hid h
 obtain⟨sv,tv,rfl,h1,h2⟩:=h
 obtain⟨sa,sc,rfl⟩:=SlM.slice h1
 obtain⟨ta,tc,rfl⟩:=SlM.slice h2
 have HS:=Lib.hid hs
 have HG:=Lib.hid hg
 obtain⟨W1,hW1⟩:∃ W1,W1=(w.alloc (.cells #[.slice sa s.stories.length sc,.slice ta s.tpls.length tc] 27)).alloc (.cells zEdn 39):=⟨_,rfl⟩
 have hb1:Below w.heap.size w W1:=by rw[hW1];exact(bel1 w _).alloc (by simp) _
 have HN0:Hid (W1.heap[w.heap.size]?=some (.cells #[.slice sa s.stories.length sc,.slice ta s.tpls.length tc] 27 (0,0))):=Lib.hid (by rw[hW1];exact heap_new1 w _ _)
 have HN1:Hid (W1.heap[w.heap.size+1]?=some (.cells zEdn 39 (0,0))):=Lib.hid (by
  rw[hW1]
  have:=World.alloc_heap_new (w.alloc (.cells #[.slice sa s.stories.length sc,.slice ta s.tpls.length tc] 27)) (.cells zEdn 39)
  simpa using this)
 have HB1:=Lib.hid hb1
 have HW1:=Lib.hid hW1
 have cS:=Lib.hid (storyAt_any HST.out id W1 (hs.bel hb1))
 clear h1 h2 hs hg hb1 hW1
 go_enter Tryz.func21,Tryz.ntmps21
 go_upto_region 1 with fail
 rw[<-HW1.out]
 go_wp2_with ((with_reducible refine at_sload 27 _ rfl ?_);go_must (refine wpList_sload rfl S_state _ rfl (by simp[Act.eval]) #[.slice sa s.stories.length sc,.slice ta s.tpls.length tc] rfl HN0.out ?_))
 refine cS.out.mono ?_
 rintro e W2 ⟨u,rfl,hu,hb2⟩
 have HU:=Lib.hid hu
 obtain⟨hok,t0,e0,c0,rfl,hP⟩:=hu
 obtain⟨t1,t2,e1,e2,c1,c2,rfl,rfl,rfl⟩:=hP.shape
 have HB2:=Lib.hid hb2
 clear hok hP hb2 cS
 generalize hn1:(styOf s id).topics.length=n1 at *
 generalize hn2:(styOf s id).eds.length=n2 at *
 generalize hn3:(styOf s id).corr.length=n3 at *
 go_upto_region 2 with ((with_reducible refine at_sstore 34 _ _ rfl ?_);go_must (refine wpList_snew rfl S_sty _ _ rfl rfl _ _ (styCells (styOf s id) (.slice t1 n1 t2) (.slice e1 n2 e2) (.slice c1 n3 c2)) (by simp[Act.eval]) (by simp[Act.eval]) rfl rfl (by simp[Value.oneCell']) ?_))
 obtain⟨W3,hW3⟩:∃ W3,W3=W2.alloc (.cells (styCells (styOf s id) (.slice t1 n1 t2) (.slice e1 n2 e2) (.slice c1 n3 c2)) 34):=⟨_,rfl⟩
 rw[<-hW3]
 have hb3:Below W2.heap.size W2 W3:=by rw[hW3];exact bel1 _ _
 have HN3:Hid (W3.heap[W2.heap.size]?=some (.cells (styCells (styOf s id) (.slice t1 n1 t2) (.slice e1 n2 e2) (.slice c1 n3 c2)) 34 (0,0))):=Lib.hid (by rw[hW3];exact World.alloc_heap_new _ _)
 have HB3:Hid (Below W1.heap.size W1 W3):=Lib.hid (HB2.out.trans (hb3.mono HB2.out.size))
 have cE:=Lib.hid (editionAt_any HU.out lang W3 (HS.out.bel (HB1.out.trans (HB3.out.mono HB1.out.size))))
 clear hW3 hb3
 go_wp2_with ((with_reducible refine at_sload 34 _ rfl ?_);go_must (refine wpList_sload rfl S_sty _ rfl (by simp[Act.eval]) (styCells (styOf s id) (.slice t1 n1 t2) (.slice e1 n2 e2) (.slice c1 n3 c2)) rfl HN3.out ?_))
 refine cE.out.mono ?_
 rintro e W4 ⟨u,rfl,hu,hb4⟩
 have HGE:=Lib.hid (HG.out.edn id lang)
 have HED:Hid (ednOf s id lang=findE (styOf s id).eds lang):=Lib.hid rfl
 generalize findE (styOf s id).eds lang=fe at *
 obtain⟨hok,b0,rfl,hP⟩:=hu
 obtain⟨b1,b2,rfl⟩:=hP.slice
 have HOK:=Lib.hid hok
 have HBM:=Lib.hid hP
 have HB4:Hid (Below W1.heap.size W1 W4):=Lib.hid (HB3.out.trans (hb4.mono HB3.out.size))
 clear hok hP hb4 cE
 generalize hE:fe.getD edn0=E at *
 generalize hnb:E.blocks.length=nb at *
 go_upto_region 3 with ((with_reducible refine at_sstore 39 _ _ rfl ?_);go_must (refine wpList_snew rfl S_edn _ _ rfl rfl _ _ (ednCells E (.slice b1 nb b2)) (by simp[Act.eval]) (by simp[Act.eval]) rfl rfl (by simp[Value.oneCell']) ?_))
 obtain⟨W5,hW5⟩:∃ W5,W5=W4.alloc (.cells (ednCells E (.slice b1 nb b2)) 39):=⟨_,rfl⟩
 rw[<-hW5]
 have hb5:Below W4.heap.size W4 W5:=by rw[hW5];exact bel1 _ _
 have hn5:W5.heap[W4.heap.size]?=some (.cells (ednCells E (.slice b1 nb b2)) 39 (0,0)):=by rw[hW5];exact World.alloc_heap_new _ _
 have HB5:Hid (Below W1.heap.size W1 W5):=Lib.hid (HB4.out.trans (hb5.mono HB4.out.size))
 have k3:W5.cell? ⟨W4.heap.size,3,none⟩=some (.slice b1 nb b2):=rowcell hn5
 have cC:=Lib.hid (copyBlocks_any HBM.out HGE.out.1 HGE.out.2 W5 (HS.out.bel (HB1.out.trans (HB5.out.mono HB1.out.size))))
 have HN5:=Lib.hid hn5
 clear hW5 hb5 hn5
 go_wp2_with fail
 refine cC.out.mono ?_
 rintro e W6 ⟨u,rfl,hr6,hb6⟩
 obtain⟨ua,un,uc,rfl⟩:=hr6.sl
 have hn6:=(hb6.block _ (hlt HN5.out)).trans HN5.out
 have q3:W6.cell? ⟨W4.heap.size,3,none⟩=some (.slice b1 nb b2):=rowcell hn6
 have z3:W6.frozen? ⟨W4.heap.size,3,none⟩=false:=rowfree hn6
 have HR6:=Lib.hid hr6
 have HN6:=Lib.hid hn6
 have HB6:Hid (Below W1.heap.size W1 W6):=Lib.hid (HB5.out.trans (hb6.mono HB5.out.size))
 have hlt6:W4.heap.size<W5.heap.size:=hlt HN5.out
 have hw1:w.heap.size+1<W1.heap.size:=hlt HN1.out
 have hw4:W1.heap.size<=W4.heap.size:=HB4.out.size
 clear hr6 hb6 hn6 cC k3
 go_upto_region 4 with fail
 have HN7:=Lib.hid (blk_set (j:=3) (u:=.slice ua un uc) HN6.out)
 have hne:w.heap.size+1≠W4.heap.size:=by omega
 have HZ7:Hid ((W6.setCell ⟨W4.heap.size,3,none⟩ (.slice ua un uc)).heap[w.heap.size+1]?=some (.cells zEdn 39 (0,0))):=Lib.hid (by rw[Below.heap_setCell _ _ _ _ hne];exact(HB6.out.block _ hw1).trans HN1.out)
 have hu7:=upd_cell W6 W4.heap.size 3 (.slice ua un uc)
 have HR7:Hid (BRow (W6.setCell ⟨W4.heap.size,3,none⟩ (.slice ua un uc)) W5.heap.size (.slice ua un uc) E.blocks):=Lib.hid (HR6.out.kept hu7 (fun k e=>.inl (by omega)))
 have HB7:Hid (Below W1.heap.size W1 (W6.setCell ⟨W4.heap.size,3,none⟩ (.slice ua un uc))):=Lib.hid (HB6.out.setCell hw4 _)
 obtain⟨W7,hW7⟩:∃ W7,W7=W6.setCell ⟨W4.heap.size,3,none⟩ (.slice ua un uc):=⟨_,rfl⟩
 rw[<-hW7]at HN7 HZ7 HR7 HB7 ⊢
 clear hW7 hu7 q3 z3
 go_wp2_with (first
  |((with_reducible refine at_sload 39 _ rfl ?_);go_must (refine wpList_sload rfl S_edn _ rfl (by simp[Act.eval]) (ednCells E (.slice ua un uc)) rfl HN7.out ?_))
  |((with_reducible refine at_sstore 39 _ _ rfl ?_);go_must (refine wpList_sstore (cs:=ednCells E (.slice ua un uc)) rfl S_edn _ _ rfl (by simp[Act.eval]) (by simp[Act.eval]) HZ7.out rfl rfl (by simp[Value.oneCell']) ?_)))
 refine bodyPost_ret (results_cell_row2 (p:=6) (u:=7) (ty:=39) (by kernel_rfl) _ _ (w.heap.size+1) _ _ (0,0) _ (by simp) (setRow_heap _ _ _ _ _ _ HZ7.out) Tryz.underlying39 rfl (by kernel_rfl)) rfl ?_
 unfold EditionPost
 rw[HED.out,hE]
 refine⟨_,rfl,HOK.out,BRow.less (HR7.out.kept (upd_row W7 (w.heap.size+1) _) (fun k e=>.inl (by omega))) (by omega),below_setRow (HB1.out.trans (HB7.out.mono HB1.out.size)) (by omega) _⟩
def EdFin (x:EdnF) (w:World) (e:Ending) (w':World):Prop:=∃ bv,e=.returned (.agg (ednCells x bv))/\BRow w' w.heap.size bv x.blocks/\Below w.heap.size w w'/\GD x.blocks
theorem revised_zero {l:List Fct} (hl:l.length=0) (now:List Blk) (f:Fct):revised l now f=f.blocks:=by
 obtain rfl:l=[]:=List.eq_nil_of_length_eq_zero hl
 rfl
theorem revised_base {l:List Fct} {j:Nat} (hj:j+1=l.length) (now:List Blk) (f:Fct) (h:f.base=l[j].rev):revised l now f=f.blocks:=by
 unfold revised
 rw[List.getLast?_eq_getElem?,show l.length - 1=j by omega,List.getElem?_eq_getElem (by omega)]
 exact if_pos h
theorem revised_merge {l:List Fct} {j:Nat} (hj:j+1=l.length) (now:List Blk) (f:Fct) (h:¬ f.base=l[j].rev):revised l now f=if (mergeF (Mg.named l f.base) now f.blocks).2.2=0 then (mergeF (Mg.named l f.base) now f.blocks).1 else f.blocks:=by
 unfold revised
 rw[List.getLast?_eq_getElem?,show l.length - 1=j by omega,List.getElem?_eq_getElem (by omega)]
 exact if_neg h
theorem blks_ok {mem:Addr->Option Value} {v:Value} {l:List Blk} (h:BlksM mem v l):∀ x∈l,x.text.size<=maxLen/\okI x.kind/\okI x.id:=fun x hx=>by
 obtain⟨_,_,_,_,_,_,_,_,hb⟩:=h.open_
 obtain⟨j,hj,rfl⟩:=List.getElem_of_mem hx
 exact(hb j hj).2.2.1
theorem mergeF_err (X Y Z:List Blk):(mergeF X Y Z).2.2=0\/(mergeF X Y Z).2.2=40:=by
 unfold mergeF
 split
 ·split
  ·exact .inl rfl
  ·exact .inr rfl
 ·exact .inr rfl
theorem edg_edn {w:World} {p:Nat} {e:EdG} {rv:Value} (h:w.heap[p]?=some (.cells (edgCells e rv) 138 (0,0))):∀ t,t<5->w.cell? ⟨p,0+t,none⟩=(ednCells ⟨e.lang,e.rev,e.title,[],e.changed⟩ (.slice none 0 0))[t]?:=fun t ht=>by
 rw[Nat.zero_add,rowcell h]
 match t,ht with
 |0,_=>rfl
 |1,_=>rfl
 |2,_=>rfl
 |3,_=>rfl
 |4,_=>rfl
set_option maxRecDepth 100000 in
set_option maxHeartbeats 8000000 in
theorem edFinish_any {mem:Addr->Option Value} {B:Nat} {w:World} {p:Nat} {e:EdG} {rv cv:Value} {es:List FctE} {cs:List Corr} {corr:List Corr}
 (hE:w.heap[p]?=some (.cells (edgCells e rv) 138 (0,0))) (hr:FRow w B rv es) (hes:es.map FctE.f=e.revs) (hok:∀ x∈es,x.ok mem) (hs:Sees mem w)
 (hc:GRow w B 69 5 cv (cs.map corrCells)) (hco:∀ c∈cs,CorrOK c) (hct:∀ c∈cs,c.text.size<=1000) (hgb:∀ f∈e.revs,GB f.blocks) (hl:es.length<=50001) (hcl:cs.length<=50001) (hcs:cs=corrLang e.lang corr) (h1:es.length<=1):
 Calls Tryz.prog 79 #[.pointer (some ⟨p,0,none⟩),cv] w (EdFin (edFin corr e) w):=by
 obtain⟨ra,rc,rfl⟩:=hr.shape
 obtain⟨ca,ccp,hcv⟩:=hc.shape
 rw[List.length_map]at hcv
 subst hcv
 have hp:=hlt hE
 obtain⟨fa,fc,fb,fo,e0,hfm,hfa,hfe⟩:=(hr.es (fun x hx=>(hok x hx).mono (fun a u h=>hs a u h))).open_
 injection e0 with e1 e2 e3
 subst e1 e3
 clear e2
 have HE:=Lib.hid hE
 have HC:=Lib.hid hc
 have HCO:=Lib.hid hco
 have HCT:=Lib.hid hct
 have HGB:=Lib.hid hgb
 have HES:=Lib.hid hes
 have HOK:=Lib.hid hok
 have HS:=Lib.hid hs
 have HFA:=Lib.hid hfa
 have HFE:=Lib.hid hfe
 have HCS:=Lib.hid hcs
 have hF0:=FinI.start w e.revs
 have HL:Hid (e.revs.length=es.length):=Lib.hid (by rw[<-hes,List.length_map])
 obtain⟨W2,hW2⟩:∃ W2,W2=(w.alloc (.cells zEdn 39)).alloc (.map #[] 0):=⟨_,rfl⟩
 rw[<-hW2]at hF0
 have c5:W2.cell? ⟨p,5,none⟩=some (.slice ra es.length rc):=rowcell ((hF0.low.block p hp).trans hE)
 have HF0:=Lib.hid hF0
 have HW2:=Lib.hid hW2
 clear hE hr hes hok hs hc hco hct hgb hfa hfe hcs hF0 hW2
 have hmm:=@run_makeMap Tryz.prog
 go_enter Tryz.func79,Tryz.ntmps79
 go_upto_region 2 with fail
 clear hmm
 rw[<-HW2.out]
 go_wp2_with fail
 clear c5
 go_loopw [21,6] (fun i v wr=>∃ k:Nat,k<=es.length/\i=.int .i64 k/\Hid (FinI w e.revs k v wr)) (fun i _ _=>es.length - (intOf i).toNat)
 case atStart=>exact⟨0,Nat.zero_le _,rfl,HF0⟩
 case round=>
  obtain⟨k,hk,rfl,HF⟩:=hrel
  by_cases hlt:k<es.length
  ·obtain rfl:=HFA.out (by omega)
   have hmem:=List.getElem_mem hlt
   obtain⟨_,hat⟩:=HFE.out k hlt
   have hxo:=HOK.out _ hmem
   have hrk:k<e.revs.length:=by rw[HL.out];exact hlt
   have hfk:e.revs[k]=es[k].f:=by
    have:(es.map FctE.f)[k]?=e.revs[k]?:=by rw[HES.out]
    rw[List.getElem?_map,List.getElem?_eq_getElem hlt,List.getElem?_eq_getElem hrk]at this
    exact(Option.some.inj this).symm
   have HAT:Hid (es[k].at (fun p=>wr.cell? p) fb (fo+k * 23)):=Lib.hid (fun j u hj=>sees_bel HF.out.low _ _ (hat j u hj))
   have HPV:Hid (∀ j,k=j+1->∃ (hj:j<(e.revs.take k).length),wr.cell? ⟨fb,fo+j * 23+5,none⟩=some (.int .i64 (e.revs.take k)[j].rev)):=Lib.hid (fun j hj=>by
    have hj2:j<(e.revs.take k).length:=by rw[List.length_take];omega
    refine⟨hj2,?_⟩
    obtain⟨_,hat2⟩:=HFE.out j (by omega)
    have h5:wr.cell? ⟨fb,fo+j * 23+5,none⟩=some (.int .i64 es[j].f.rev):=sees_bel HF.out.low _ _ (hat2 5 _ rfl)
    rw[h5,List.getElem_take]
    have:(es.map FctE.f)[j]?=e.revs[j]?:=by rw[HES.out]
    rw[List.getElem?_map,List.getElem?_eq_getElem (by omega),List.getElem?_eq_getElem (by omega)]at this
    rw[<-Option.some.inj this])
   have HTK:Hid (blksOf (e.revs.take (k+1))=revised (e.revs.take k) (blksOf (e.revs.take k)) es[k].f):=Lib.hid (by rw[List.take_succ_eq_append_getElem hrk,blksOf_snoc,hfk])
   have HLT:Hid ((e.revs.take k).length=k):=Lib.hid (by rw[List.length_take];omega)
   have HBX:Hid (BlksM mem es[k].bv es[k].f.blocks):=Lib.hid hxo.parts.2.1
   have HFO:=Lib.hid hxo.fok
   have HFK:Hid (∀ h:k<e.revs.length,e.revs[k]'h=es[k].f):=Lib.hid (fun _=>hfk)
   have HRK:=Lib.hid hrk
   have hsz:Hid (es[k].cells.size=23):=Lib.hid rfl
   have hone:=Lib.hid (es[k].one)
   clear hat hxo hfk hrk hmem
   generalize es[k]=x at *
   obtain⟨W5,hW5⟩:∃ W5,W5=wr.alloc (.cells x.cells 50):=⟨_,rfl⟩
   have hb5:Below wr.heap.size wr W5:=by rw[hW5];exact bel1 wr _
   have HF5:=Lib.hid (HF.out.keep hb5)
   have HB5:=Lib.hid hb5
   have hx5:W5.heap[wr.heap.size]?=some (.cells (fctCells x.f x.tv x.bv x.av) 50 (0,0)):=by rw[hW5,<-FctE.cells_eq];exact World.alloc_heap_new wr _
   have HX5:=Lib.hid hx5
   have HW5:=Lib.hid hW5
   clear hb5 hx5 hW5
   go_upto_region 6 with (first
    |((with_reducible refine at_fload _ rfl ?_);go_must (refine wpList_fct_mid rfl _ rfl (by simp[Act.eval]) HAT.out ?_))
    |((with_reducible refine at_fstore _ _ rfl ?_);go_must (refine wpList_fct_new rfl _ _ rfl rfl _ _ _ (by simp[Act.eval]) (by simp[Act.eval]) (by rfl) hsz.out hone.out ?_)))
   rw[<-HW5.out]
   have c5:W5.cell? ⟨p,5,none⟩=some (.slice (some ⟨fb,fo,none⟩) es.length rc):=rowcell ((HF5.out.low.block p hp).trans HE.out)
   have c6:W5.cell? ⟨wr.heap.size,6,none⟩=some (.int .i64 x.f.base):=rowcell HX5.out
   have c10:W5.cell? ⟨wr.heap.size,10,none⟩=some x.bv:=rowcell HX5.out
   have cr5:W5.cell? ⟨wr.heap.size,5,none⟩=some (.int .i64 x.f.rev):=rowcell HX5.out
   have HEND:Hid (∀ v' W',Below W5.heap.size W5 W'->BlksM (memNo W' (Scr w.heap.size)) v' (revised (e.revs.take k) (blksOf (e.revs.take k)) x.f)->∃ wq,(Instr.mapUpdate 161 (.map (some (w.heap.size+1))) (.int .i64 x.f.rev) x.bv).run Tryz.prog W'=.ok () wq/\FinI w e.revs (k+1) v' wq):=Lib.hid (fun v' W' hb hn=>by
    have:=HF5.out.step (wr':=W') (v':=v') (bv:=x.bv) HRK.out (by omega) (by rw[HFK.out HRK.out];exact HFO.out.i5) hb (by rw[HTK.out];exact hn) (by rw[HFK.out HRK.out];exact HBX.out.mono ((HF5.out.keep hb).mem HS.out))
    rw[HFK.out HRK.out]at this
    exact this)
   have HBV:Hid (∀ W',Below W5.heap.size W5 W'->BlksM (memNo W' (Scr w.heap.size)) x.bv x.f.blocks):=Lib.hid (fun W' hb=>HBX.out.mono ((HF5.out.keep hb).mem HS.out))
   rcases k with _ | j
   ·clear hk
    go_quiet (fail)
    go_upto_if 41 with fail
    obtain⟨wq,hq,hfq⟩:=HEND.out x.bv (W5.drewN nq) (below_dN (Below.refl _ _) nq) (by rw[revised_zero HLT.out];exact HBV.out _ (below_dN (Below.refl _ _) nq))
    have HQ:=Lib.hid hfq
    clear hfq
    go_wp2_with fail
    go_roundw
    case rel=>exact⟨1,by omega,by go_num,HQ⟩
    case measure=>simp[intOf];omega
   ·exfalso;omega
  ·have e':k=es.length:=by omega
   subst e'
   obtain⟨wo,rfl⟩:∃ wo,wo=wr:=⟨_,rfl⟩
   have hnow:=HF.out.now
   have hgb:=blksOf_good e.revs.length HGB.out
   rw[List.take_length]at hgb
   rw[<-HL.out,List.take_length]at hnow
   have HNOW:=Lib.hid hnow
   have HGC0:Hid (GC (blksOf e.revs) 0):=Lib.hid (GC.zero hgb (fun x hx=>(blks_ok hnow x hx).2))
   have cC:=Lib.hid (copyBlocks_any hnow (by have:=hgb.1;omega) (fun x hx=>by have:=(hgb.2 x hx).2;omega) wo (memNo_sees _ _))
   have HR0:=Lib.hid HF.out.res
   have HZ0:=Lib.hid HF.out.size
   have HBW:=Lib.hid HF.out.low
   clear hnow hgb
   go_wp2_with fail
   refine cC.out.mono ?_
   rintro e2 W3 ⟨u,rfl,hrow,hb3⟩
   have HRW:=Lib.hid hrow
   have HB3:=Lib.hid hb3
   have hcl2:cs.length<=9223372036854775807:=by omega
   clear hrow hb3 cC
   go_wp2_with fail
   go_loopw [71] (fun i wr=>∃ j:Nat,j<=cs.length/\i=.int .i64 j/\Hid (BRow wr wo.heap.size u ((cs.take j).foldl applyF (blksOf e.revs)))/\Hid (Below wo.heap.size wo wr)) (fun i _=>cs.length - (intOf i).toNat)
   case atStart=>exact⟨0,Nat.zero_le _,rfl,Lib.hid (by rw[List.take_zero];exact HRW.out),HB3⟩
   case round=>
    obtain⟨j,hj,rfl,HR,HB⟩:=hrel
    by_cases hlt:j<cs.length
    ·have hjl:j<(cs.map corrCells).length:=by rw[List.length_map];exact hlt
     have hbb:Below w.heap.size w wr:=HBW.out.trans (HB.out.mono HBW.out.size)
     obtain⟨cg,ccap,hcv,_,_,_,_,hcc,_⟩:=GRow.at_ (HC.out.bel hbb) j hjl
     rw[List.length_map]at hcv
     injection hcv with e1 e2 e3
     subst e1 e3
     clear e2
     rw[List.getElem_map]at hcc
     have HCC:=Lib.hid hcc
     have HCJ:=Lib.hid (HCO.out _ (List.getElem_mem hlt))
     have HCT2:=Lib.hid (HCT.out _ (List.getElem_mem hlt))
     have HGJ:Hid (GC ((cs.take j).foldl applyF (blksOf e.revs)) j):=Lib.hid (by
      have:=GC.fold (cs.take j) HGC0.out (fun c hc=>HCT.out c (List.mem_of_mem_take hc))
      rw[List.length_take,Nat.min_eq_left hj,Nat.zero_add]at this
      exact this)
     have HTK:Hid ((cs.take (j+1)).foldl applyF (blksOf e.revs)=applyF ((cs.take j).foldl applyF (blksOf e.revs)) cs[j]):=Lib.hid (by
      rw[List.take_succ_eq_append_getElem hlt,List.foldl_append];rfl)
     generalize cs[j]=c at *
     clear hcc hbb
     generalize (cs.take j).foldl applyF (blksOf e.revs)=lj at *
     go_upto_region 18 with (first
      |((with_reducible refine at_sload _ _ rfl ?_);refine wpList_smid rfl S_corr _ rfl (by simp[Act.eval]) (corrCells c) rfl HCC.out ?_)
      |((with_reducible refine at_sstore _ _ _ rfl ?_);refine wpList_snew rfl S_corr _ _ rfl rfl _ _ _ (by simp[Act.eval]) (by simp[Act.eval]) rfl rfl rfl ?_))
     obtain⟨W4,hW4⟩:∃ W4,W4=wr.alloc (.cells (corrCells c) 69):=⟨_,rfl⟩
     have hb4:Below wr.heap.size wr W4:=by rw[hW4];exact bel1 _ _
     have HC4:Hid (W4.heap[wr.heap.size]?=some (.cells (corrCells c) 69 (0,0))):=Lib.hid (by rw[hW4];exact World.alloc_heap_new _ _)
     have cA:=Lib.hid (apply_any W4 (HR.out.same hb4) (fun x hx=>⟨by have:=HGJ.out.1.2 x hx;unfold maxLen;omega,(HGJ.out.2 x hx).1,(HGJ.out.2 x hx).2.1⟩) (fun x hx=>by have:=HGJ.out.1.2 x hx;omega) c HCJ.out (by have:=HCT2.out;omega))
     rw[<-hW4]
     have HB4:=Lib.hid hb4
     clear hW4 hb4
     go_wp2_with ((with_reducible refine at_sload _ _ rfl ?_);refine wpList_sload rfl S_corr _ rfl (by simp[Act.eval]) (corrCells c) rfl HC4.out ?_)
     refine cA.out.mono ?_
     rintro e3 W5 ⟨rfl,hr5,hu5⟩
     have HR5:Hid (BRow W5 wo.heap.size u ((cs.take (j+1)).foldl applyF (blksOf e.revs))):=Lib.hid (by rw[HTK.out];exact hr5)
     have HB5:Hid (Below wo.heap.size wo W5):=Lib.hid ((HB.out.trans (HB4.out.mono HB.out.size)).trans (hu5.below (fun k hk=>(HR.out.ge k hk).1) (by have:=HB.out.size;have:=HB4.out.size;omega)))
     clear hr5 hu5 cA
     go_wp2_with fail
     go_roundw
     case rel=>exact⟨j+1,by omega,by go_num,HR5,HB5⟩
     case measure=>simp[intOf];omega
    ·have e':j=cs.length:=by omega
     subst e'
     have hrf:=HR.out
     rw[List.take_length]at hrf
     have HRF:=Lib.hid hrf
     have hbb:Below w.heap.size w wr:=HBW.out.trans (HB.out.mono HBW.out.size)
     have HE2:=Lib.hid ((hbb.block p hp).trans HE.out)
     have HZ2:Hid (wr.heap[w.heap.size]?=some (.cells zEdn 39 (0,0))):=Lib.hid ((HB.out.block _ (by have:=HZ0.out;omega)).trans HR0.out)
     have HBB:=Lib.hid hbb
     have HE3:=Lib.hid (edg_edn HE2.out)
     obtain⟨ua,un,uc,rfl⟩:=hrf.sl
     clear hrf hbb
     go_upto_region 21 with (first
      |((with_reducible refine at_sload _ _ rfl ?_);refine wpList_smid rfl S_edn _ rfl (by simp[Act.eval]) (ednCells ⟨e.lang,e.rev,e.title,[],e.changed⟩ (.slice none 0 0)) rfl HE3.out ?_)
      |((with_reducible refine at_sstore _ _ _ rfl ?_);refine wpList_snew rfl S_edn _ _ rfl rfl _ _ _ (by simp[Act.eval]) (by simp[Act.eval]) rfl rfl rfl ?_))
     obtain⟨W6,hW6⟩:∃ W6,W6=wr.alloc (.cells (ednCells ⟨e.lang,e.rev,e.title,[],e.changed⟩ (.slice none 0 0)) 39):=⟨_,rfl⟩
     rw[<-hW6]
     have hb6:Below wr.heap.size wr W6:=by rw[hW6];exact bel1 _ _
     have hn6:W6.heap[wr.heap.size]?=some (.cells (ednCells ⟨e.lang,e.rev,e.title,[],e.changed⟩ (.slice none 0 0)) 39 (0,0)):=by rw[hW6];exact World.alloc_heap_new _ _
     have hz6:=(hb6.block _ (qh HZ2.out)).trans HZ2.out
     have hne:w.heap.size≠wr.heap.size:=by have:=HB.out.size;have:=HZ0.out;omega
     have q3:W6.cell? ⟨wr.heap.size,3,none⟩=some (.slice none 0 0):=rowcell hn6
     have q3f:W6.frozen? ⟨wr.heap.size,3,none⟩=false:=rowfree hn6
     have HB6:=Lib.hid hb6
     have HN6:=Lib.hid hn6
     have HZ6:=Lib.hid hz6
     clear hW6 hb6 hn6 hz6
     go_upto_region 22 with fail
     have HN7:=Lib.hid (blk_set (j:=3) (u:=.slice ua un uc) HN6.out)
     have HZ7:Hid ((W6.setCell ⟨wr.heap.size,3,none⟩ (.slice ua un uc)).heap[w.heap.size]?=some (.cells zEdn 39 (0,0))):=Lib.hid (by rw[Below.heap_setCell _ _ _ _ hne];exact HZ6.out)
     have HB7:Hid (Below wr.heap.size wr (W6.setCell ⟨wr.heap.size,3,none⟩ (.slice ua un uc))):=Lib.hid (HB6.out.setCell (Nat.le_refl _) _)
     obtain⟨W7,hW7⟩:∃ W7,W7=W6.setCell ⟨wr.heap.size,3,none⟩ (.slice ua un uc):=⟨_,rfl⟩
     rw[<-hW7]at HN7 HZ7 HB7 ⊢
     clear hW7
     go_wp2_with (first
      |((with_reducible refine at_sload _ _ rfl ?_);refine wpList_sload rfl S_edn _ rfl (by simp[Act.eval]) (ednCells ⟨e.lang,e.rev,e.title,[],e.changed⟩ (.slice ua un uc)) rfl HN7.out ?_)
      |((with_reducible refine at_sstore _ _ _ rfl ?_);go_must (refine wpList_sstore (cs:=ednCells ⟨e.lang,e.rev,e.title,[],e.changed⟩ (.slice ua un uc)) rfl S_edn _ _ rfl (by simp[Act.eval,Act.put]) (by simp[Act.eval,Act.put]) HZ7.out rfl rfl (by simp[Value.oneCell']) ?_)))
     refine bodyPost_ret (results_cell_row (p:=4) (ty:=39) (by kernel_rfl) _ _ w.heap.size _ _ (0,0) _ (by simp[Act.put]) (setRow_heap _ _ _ _ _ _ HZ7.out) Tryz.underlying39 rfl (by kernel_rfl)) rfl ?_
     have hbz:=HB.out.size
     have hrow:BRow (W7.setRow w.heap.size (ednCells ⟨e.lang,e.rev,e.title,[],e.changed⟩ (.slice ua un uc))) wo.heap.size (.slice ua un uc) (cs.foldl applyF (blksOf e.revs)):=by
      have hz:=HZ0.out
      have h7:Upd (fun k=>k=w.heap.size) wr (W7.setRow w.heap.size (ednCells ⟨e.lang,e.rev,e.title,[],e.changed⟩ (.slice ua un uc))):=((Upd.refl (fun k=>k=w.heap.size) wr).bel HB7.out).trans (upd_row _ _ _) (fun i hi=>.inl hi)
      exact HRF.out.kept h7 (fun k hk=>.inl (by omega))
     refine⟨.slice ua un uc,rfl,?_,?_,?_⟩
     ·have:=hrow.less (B':=w.heap.size) (by have:=HZ0.out;omega)
      show BRow _ _ _ ((corrLang e.lang corr).foldl applyF (blksOf e.revs))
      rw[<-HCS.out]
      exact this
     ·exact below_setRow (HBB.out.trans (HB7.out.mono HBB.out.size)) (Nat.le_refl _) _
     ·show GD ((corrLang e.lang corr).foldl applyF (blksOf e.revs))
      rw[<-HCS.out]
      have:=GC.fold cs HGC0.out HCT.out
      exact this.done (by omega)
end Go.Proofs.YtdkkhmjlamkgdaaGreatDoor
namespace Go.Proofs.YtdkkhmjlamkgdaaGreatDoor.Mg
def edAt (l:List EdG) (lang:ByteArray):EdG:=(l.find? fun e=>decide (e.lang=lang)).getD ⟨lang,0,str0,0,[]⟩
theorem edAt_in:∀ {l:List EdG} {lang:ByteArray},lang∈l.map EdG.lang->edAt l lang∈l/\(edAt l lang).lang=lang:=fun {l lang} h=>by
 unfold edAt
 cases hf:l.find? (fun e=>decide (e.lang=lang)) with
 |none=>
  obtain⟨e,he,hl⟩:=List.mem_map.1 h
  have:=List.find?_eq_none.1 hf e he
  exact absurd hl (by simpa using this)
 |some e=>
  refine⟨List.mem_of_find?_eq_some hf,?_⟩
  have:=List.find?_some hf
  simpa using this
theorem apart_eq {l:List EdG} (hn:(l.map EdG.lang).Nodup) {x y:EdG} (hx:x∈l) (hy:y∈l) (h:x.lang=y.lang):x=y:=by
 obtain⟨i,hi,rfl⟩:=List.getElem_of_mem hx
 obtain⟨j,hj,rfl⟩:=List.getElem_of_mem hy
 have hp:=List.pairwise_iff_getElem.1 hn
 rcases Nat.lt_trichotomy i j with q | q | q
 ·exact absurd h (by have:=hp i j (by simpa using hi) (by simpa using hj) q;simpa using this)
 ·subst q;rfl
 ·exact absurd h.symm (by have:=hp j i (by simpa using hj) (by simpa using hi) q;simpa using this)
theorem edAt_of {l:List EdG} (hn:(l.map EdG.lang).Nodup) {e:EdG} (he:e∈l):edAt l e.lang=e:=by
 have h:=edAt_in (l:=l) (lang:=e.lang) (List.mem_map_of_mem he)
 exact apart_eq hn h.1 he h.2
def edsFin (g:StG) (s:List ByteArray):List EdnF:=s.map fun y=>edFin g.corr (edAt g.eds y)
theorem sty_is {id:Int} {g:StG} (hap:Apart g) (ht:g.taken=false) {s:List ByteArray} (hp:s.Pairwise ltB) (hm:∀ y,y∈s↔y∈g.eds.map EdG.lang):StyIs id g ⟨id,g.author,g.topics,edsFin g s,g.pub.getD 0,g.corr,g.retr,g.taken⟩:=by
 refine⟨rfl,rfl,rfl,by rw[ht];rfl,by rw[ht];rfl,by rw[ht];rfl,by rw[ht];rfl,?_,fun e=>?_⟩
 ·have:(edsFin g s).map EdnF.lang=s:=by
   unfold edsFin
   rw[List.map_map]
   refine(List.map_congr_left fun y hy=>?_).trans (List.map_id _)
   exact(edAt_in ((hm y).1 hy)).2
  show ((edsFin g s).map EdnF.lang).Pairwise ltB
  rw[this];exact hp
 ·constructor
  ·intro he
   obtain⟨y,hy,rfl⟩:=List.mem_map.1 he
   exact⟨ht,_,(edAt_in ((hm y).1 hy)).1,rfl⟩
  ·rintro ⟨_,x,hx,rfl⟩
   refine List.mem_map.2 ⟨x.lang,(hm _).2 (List.mem_map_of_mem hx),?_⟩
   rw[edAt_of hap hx]
theorem sty_taken {id:Int} {g:StG} (ht:g.taken=true):StyIs id g ⟨id,str0,[],[],g.pub.getD 0,[],false,true⟩:=by
 refine⟨rfl,rfl,ht.symm,by rw[ht];rfl,by rw[ht];rfl,by rw[ht];rfl,by rw[ht];rfl,List.Pairwise.nil,fun e=>?_⟩
 constructor
 ·intro h;cases h
 ·rintro ⟨h,_⟩;rw[ht]at h;cases h
structure FGood (f:Fct):Prop where
 blks:GB f.blocks
 text:f.text.size<=1000
 tops:f.topics.length<=1000
structure GGood (g:StG):Prop where
 revs:∀ e∈g.eds,∀ f∈e.revs,GB f.blocks
 corr:∀ c∈g.corr,c.text.size<=1000
 tops:g.topics.length<=1000
theorem upEd_good {f:Fct} (hf:GB f.blocks):∀ {l:List EdG},(∀ e∈l,∀ f∈e.revs,GB f.blocks)->∀ e∈upEd f l,∀ f∈e.revs,GB f.blocks
 |[],_,e,he,x,hx=>by
  rw[List.mem_singleton.1 he]at hx
  rw[List.mem_singleton.1 hx];exact hf
 |a::r,h,e,he,x,hx=>by
  unfold upEd at he
  split at he
  ·rcases List.mem_cons.1 he with rfl | he
   ·rcases List.mem_append.1 hx with hx | hx
    ·exact h a List.mem_cons_self x hx
    ·rw[List.mem_singleton.1 hx];exact hf
   ·exact h e (List.mem_cons_of_mem _ he) x hx
  ·rcases List.mem_cons.1 he with rfl | he
   ·exact h _ List.mem_cons_self x hx
   ·exact upEd_good hf (fun y hy=>h y (List.mem_cons_of_mem _ hy)) e he x hx
theorem stepG_good {g:StG} (h:GGood g) {f:Fct} (hf:FGood f):GGood (stepG g f):=by
 unfold stepG
 split
 ·exact⟨upEd_good hf.blks h.revs,h.corr,hf.tops⟩
 split
 ·split
  ·exact h
  ·exact⟨h.revs,h.corr,h.tops⟩
 split
 ·refine⟨fun e he x hx=>?_,fun c hc=>?_,h.tops⟩
  ·unfold touchEd at he
   obtain⟨y,hy,rfl⟩:=List.mem_map.1 he
   refine h.revs y hy x ?_
   split at hx
   ·exact hx
   ·exact hx
  ·rcases List.mem_append.1 hc with hc | hc
   ·exact h.corr c hc
   ·rw[List.mem_singleton.1 hc];exact hf.text
 split
 ·exact⟨h.revs,h.corr,h.tops⟩
 split
 ·exact⟨h.revs,h.corr,h.tops⟩
 ·exact h
theorem foldl_good:∀ (l:List Fct) {g:StG},GGood g->(∀ f∈l,FGood f)->GGood (l.foldl stepG g)
 |[],_,h,_=>h
 |f::l,_,h,hl=>foldl_good l (stepG_good h (hl f List.mem_cons_self)) (fun x hx=>hl x (List.mem_cons_of_mem _ hx))
theorem foldG_good {l:List Fct} (h:∀ f∈l,FGood f) (id:Int):GGood (foldG l id):=
 foldl_good _ ⟨(by intro e he;cases he),(by intro c hc;cases hc),Nat.zero_le _⟩ (fun f hf=>h f (List.mem_filter.1 hf).1)
theorem foldG_good2 {l:List Fct} (h:∀ f∈l,actF f=true->FGood f) (id:Int):GGood (foldG l id):=by
 rw[foldG_own]
 refine foldl_good _ ⟨(by intro e he;cases he),(by intro c hc;cases hc),Nat.zero_le _⟩ (fun f hf=>?_)
 obtain⟨h1,h2⟩:=List.mem_filter.1 hf
 simp only[Bool.and_eq_true]at h2
 exact h f h1 h2.2
theorem lastTpl_mem {l:List Fct} {name t:ByteArray} (h:lastTpl l name=some t):∃ f∈l,f.name=name/\f.text=t:=by
 unfold lastTpl at h
 split at h
 ·next f hf=>
  have h1:=List.mem_of_find?_eq_some hf
  have h2:=List.find?_some hf
  simp only[Bool.and_eq_true,decide_eq_true_eq]at h2
  injection h with h
  exact⟨f,by simpa using h1,h2.2,h⟩
 ·cases h
def tplsOf (l:List Fct) (names:List ByteArray):List TplF:=names.map fun y=>⟨y,(lastTpl l y).getD str0⟩
theorem tplsOf_is {l:List Fct} {names:List ByteArray} (hp:names.Pairwise ltB) (hm:∀ y,y∈names↔(lastTpl l y).isSome=true):((tplsOf l names).map TplF.name).Pairwise ltB/\∀ t,t∈tplsOf l names↔lastTpl l t.name=some t.text:=by
 have e:(tplsOf l names).map TplF.name=names:=by
  unfold tplsOf
  rw[List.map_map]
  exact(List.map_congr_left fun _ _=>rfl).trans (List.map_id _)
 refine⟨by rw[e];exact hp,fun t=>?_⟩
 constructor
 ·intro h
  obtain⟨y,hy,rfl⟩:=List.mem_map.1 h
  have:=(hm y).1 hy
  obtain⟨u,hu⟩:=Option.isSome_iff_exists.1 this
  show lastTpl l y=some ((lastTpl l y).getD str0)
  rw[hu];rfl
 ·intro h
  refine List.mem_map.2 ⟨t.name,(hm _).2 (by rw[h];rfl),?_⟩
  rw[h];rfl
theorem fold_is {l:List Fct} {ids:List Int} {sts:List StyF} {names:List ByteArray} (hids:ids.Pairwise (·<·)) (hin:∀ id,(foldG l id).pub.isSome=true->id∈ids) (hst:sts.map StyF.id=ids.filter fun i=>(foldG l i).pub.isSome) (hx:∀ x∈sts,StyIs x.id (foldG l x.id) x)
 (hp:names.Pairwise ltB) (hm:∀ y,y∈names↔(lastTpl l y).isSome=true):FoldIs l ⟨sts,tplsOf l names⟩:=by
 refine⟨?_,fun id=>?_,hx,(tplsOf_is hp hm).1,(tplsOf_is hp hm).2⟩
 ·show (sts.map StyF.id).Pairwise _
  rw[hst];exact List.Pairwise.filter _ hids
 ·show id∈sts.map StyF.id↔_
  rw[hst,List.mem_filter]
  exact⟨fun h=>h.2,fun h=>⟨hin id h,h⟩⟩
theorem nodup_len:∀ {l m:List Int},l.Nodup->(∀ x∈l,x∈m)->l.length<=m.length
 |[],_,_,_=>Nat.zero_le _
 |a::l,m,h,hs=>by
  obtain⟨h1,h2⟩:=List.nodup_cons.1 h
  have ha:=hs a List.mem_cons_self
  have:=nodup_len (m:=m.erase a) h2 (fun x hx=>(List.mem_erase_of_ne (fun e=>h1 (by rw[<-e];exact hx))).2 (hs x (List.mem_cons_of_mem _ hx)))
  rw[List.length_erase_of_mem ha]at this
  have:=List.length_pos_of_mem ha
  rw[List.length_cons];omega
theorem fold_len {l:List Fct} {s:StF} (h:FoldIs l s):s.stories.length<=l.length:=by
 have h1:(s.stories.map StyF.id).Nodup:=h.ids.imp (fun e q=>by rw[q]at e;omega)
 have:=nodup_len (m:=l.map Fct.story) h1 (fun id hid=>by
  have hp:=(h.mem id).1 hid
  by_cases ht:touched l id
  ·obtain⟨f,hf,_,e⟩:=ht
   exact List.mem_map.2 ⟨f,hf,e⟩
  ·rw[foldG_untouched ht]at hp;cases hp)
 simpa using this
end Go.Proofs.YtdkkhmjlamkgdaaGreatDoor.Mg
