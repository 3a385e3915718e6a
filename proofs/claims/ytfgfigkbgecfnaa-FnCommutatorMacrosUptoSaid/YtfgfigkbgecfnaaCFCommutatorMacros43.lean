/-
  Part 44 of the proof that the statement FnCommutatorMacros holds.
-/
import Derived.Test.YtfgfigkbgecfnaaCFCommutatorMacros42
import Derived.Shelf.SortG.Plain
import Derived.Shelf.SortG.SortNone
namespace Go.Proofs.Ytfgfigkbgecfnaa
open Go.Shelf Go.RowKit
def zp:Go.Shelf.Ren:=⟨λ |53=>63|64=>89|63=>88|78=>117|79=>118|70=>108|71=>109|72=>110|73=>111|74=>112|75=>113|59=>114|76=>115|77=>116|88=>127|89=>128|90=>129|91=>130|92=>131|68=>132|96=>136|n=>n,λ |22=>33|23=>2|3=>3|51=>99|0=>0|67=>142|69=>26|4=>4|61=>135|60=>134|44=>139|5=>5|9=>9|75=>151|79=>155|83=>159|84=>160|n=>n,λ |n=>n⟩
theorem DW:Go.Proofs.SlLaysN.n53 Try.prog zp:= {
 mixed:=by kernel_rfl
 f53:=⟨Try.f63.name,by decide,Try.func63.trans (Fh some (by kernel_rfl))⟩
 f59:=⟨Try.f114.name,by decide,Try.func114.trans (Fh some (by kernel_rfl))⟩
 f63:=⟨Try.f88.name,by decide,Try.func88.trans (Fh some (by kernel_rfl))⟩
 f64:=Try.func89.trans (Fh some (by kernel_rfl))
 f68:=⟨Try.f132.name,by decide,Try.func132.trans (Fh some (by kernel_rfl))⟩
 f70:=⟨Try.f108.name,by decide,Try.func108.trans (Fh some (by kernel_rfl))⟩
 f71:=⟨Try.f109.name,by decide,Try.func109.trans (Fh some (by kernel_rfl))⟩
 f72:=⟨Try.f110.name,by decide,Try.func110.trans (Fh some (by kernel_rfl))⟩
 f73:=⟨Try.f111.name,by decide,Try.func111.trans (Fh some (by kernel_rfl))⟩
 f74:=⟨Try.f112.name,by decide,Try.func112.trans (Fh some (by kernel_rfl))⟩
 f75:=⟨Try.f113.name,by decide,Try.func113.trans (Fh some (by kernel_rfl))⟩
 f76:=⟨Try.f115.name,by decide,Try.func115.trans (Fh some (by kernel_rfl))⟩
 f77:=⟨Try.f116.name,by decide,Try.func116.trans (Fh some (by kernel_rfl))⟩
 f78:=Try.func117.trans (Fh some (by kernel_rfl))
 f79:=Try.func118.trans (Fh some (by kernel_rfl))
 f88:=⟨Try.f127.name,by decide,Try.func127.trans (Fh some (by kernel_rfl))⟩
 f89:=Try.func128.trans (Fh some (by kernel_rfl))
 f90:=Try.func129.trans (Fh some (by kernel_rfl))
 f91:=⟨Try.f130.name,by decide,Try.func130.trans (Fh some (by kernel_rfl))⟩
 f92:=⟨Try.f131.name,by decide,Try.func131.trans (Fh some (by kernel_rfl))⟩
 f96:=⟨Try.f136.name,by decide,Try.func136.trans (Fh some (by kernel_rfl))⟩
 t0:=Try.underlying0
 a0:=Try.isAgg0
 z0:=Try.sizeOf0
 v0:=Try.zeroValue0
 t3:=Try.underlying3
 a3:=Try.isAgg3
 z3:=Try.sizeOf3
 v3:=Try.zeroValue3
 t4:=Try.underlying4
 a4:=Try.isAgg4
 z4:=Try.sizeOf4
 v4:=Try.zeroValue4
 t5:=Try.underlying5
 a5:=Try.isAgg5
 z5:=Try.sizeOf5
 v5:=Try.zeroValue5
 t9:=Try.underlying9
 a9:=Try.isAgg9
 z9:=Try.sizeOf9
 v9:=Try.zeroValue9
 t22:=Try.underlying33
 a22:=Try.isAgg33
 z22:=Try.sizeOf33
 v22:=Try.zeroValue33
 t23:=Try.underlying2
 a23:=Try.isAgg2
 z23:=Try.sizeOf2
 v23:=Try.zeroValue2
 t44:=Try.underlying139
 a44:=Try.isAgg139
 z44:=Try.sizeOf139
 v44:=Try.zeroValue139
 t51:=Try.underlying99
 a51:=Try.isAgg99
 z51:=Try.sizeOf99
 v51:=Try.zeroValue99
 t60:=Try.underlying134
 a60:=Try.isAgg134
 z60:=Try.sizeOf134
 v60:=Try.zeroValue134
 t61:=Try.underlying135
 a61:=Try.isAgg135
 z61:=Try.sizeOf135
 v61:=Try.zeroValue135
 t67:=Try.underlying142
 a67:=Try.isAgg142
 z67:=Try.sizeOf142
 v67:=Try.zeroValue142
 t69:=Try.underlying26
 a69:=Try.isAgg26
 z69:=Try.sizeOf26
 v69:=Try.zeroValue26
 t75:=Try.underlying151
 a75:=Try.isAgg151
 z75:=Try.sizeOf151
 v75:=Try.zeroValue151
 t79:=Try.underlying155
 a79:=Try.isAgg155
 z79:=Try.sizeOf155
 v79:=Try.zeroValue155
 t83:=Try.underlying159
 a83:=Try.isAgg159
 z83:=Try.sizeOf159
 v83:=Try.zeroValue159
 t84:=Try.underlying160
 a84:=Try.isAgg160
 z84:=Try.sizeOf160
 v84:=Try.zeroValue160}
end Go.Proofs.Ytfgfigkbgecfnaa
