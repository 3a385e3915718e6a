/-
  Part 36 of the proof that the statement FnExactSolveTwoPhaseWithin holds.
-/
import Derived.Test.YtfgfigkbgecfnaaCSolveTwoPhaseWithin34
import Derived.Test.YtfgfigkbgecfnaaProg
import Derived.KernelRfl
namespace Go.Proofs.Ytfgfigkbgecfnaa
open Go.RowKit
abbrev tI:Ty:= .int .i64
abbrev tL:Ty:= .slice tI
abbrev kh:Ty:= .slice tL
abbrev Gi:Ty:= .pair tI (.pair .str (.pair kh .unit))
abbrev Qn:Ty:= .pair kh (.pair tL (.pair tL (.pair .bool .unit)))
abbrev Ad6:Ty:= .pair tI (.pair (.slice kh) (.pair (.slice kh) .unit))
abbrev kf:Ty:= .pair Gi (.pair kh (.pair tL (.pair (.smap tI) (.pair tL (.pair tL (.pair kh .unit))))))
abbrev dF:Ty:= .pair (.optr kf) (.pair tL (.pair (.optr kf) .unit))
abbrev vY:Ty:= .pair tI (.pair tI (.pair tI .unit))
abbrev Ajb:Ty:= .pair (.slice (.int .u8)) (.pair tI (.pair (.int .u64) .unit))
abbrev QK:Ty:= .pair tL (.pair tL .unit)
def Hf:Tab where
 ty:= λt=>match t with
  |2=>some tI
  |3=>some tI
  |4=>some .bool
  |5=>some (.int .u8)
  |9=>some .str
  |33=>some tL
  |27=>some kh
  |22=>some (.slice (.int .u8))
  |116=>some (.slice .bool)
  |62=>some tL
  |162=>some (.slice kh)
  |91=>some (.smap tI)
  |55=>some (.smap .bool)
  |38=>some Gi
  |29=>some Gi
  |64=>some Qn
  |164=>some Ad6
  |93=>some kf
  |81=>some (.optr kf)
  |83=>some dF
  |77=>some (.optr dF)
  |86=>some vY
  |87=>some (.slice vY)
  |88=>some (.slice (.slice vY))
  |26=>some (.int .u64)
  |50=>some Ajb
  |35=>some QK
  |31=>some (.slice QK)
  |_=>none
 elem:= λt=>match t with
  |33=>some 2
  |27=>some 33
  |22=>some 5
  |116=>some 4
  |62=>some 3
  |162=>some 27
  |87=>some 86
  |88=>some 87
  |31=>some 35
  |_=>none
 mapOf:= λt=>match t with
  |91=>some tI
  |55=>some .bool
  |_=>none
 off:= λs f=>match s,f with
  |38,0=>some (0,2)
  |38,1=>some (1,9)
  |38,2=>some (2,27)
  |29,0=>some (0,2)
  |29,1=>some (1,9)
  |29,2=>some (2,27)
  |64,0=>some (0,27)
  |64,1=>some (1,33)
  |64,2=>some (2,62)
  |64,3=>some (3,4)
  |164,0=>some (0,2)
  |164,1=>some (1,162)
  |164,2=>some (2,162)
  |93,0=>some (0,29)
  |93,1=>some (3,27)
  |93,2=>some (4,33)
  |93,3=>some (5,91)
  |93,4=>some (6,33)
  |93,5=>some (7,33)
  |93,6=>some (8,27)
  |83,0=>some (0,81)
  |83,1=>some (1,33)
  |83,2=>some (2,81)
  |86,0=>some (0,2)
  |86,1=>some (1,3)
  |86,2=>some (2,2)
  |50,0=>some (0,22)
  |50,1=>some (1,3)
  |50,2=>some (2,26)
  |35,0=>some (0,33)
  |35,1=>some (1,33)
  |_,_=>none
def fieldsOf (P:Program) (s:TypeId):Array Field:=match P.underlying s with|some (.struct fs)=>fs|_=> #[]
theorem Fe {P:Program} {t:TypeId} {τ:Ty} {b:Nat} (h:(P.info? t).map (λi=>(i.size,i.bytes,i.zero))=some (τ.size,b,some (Cj τ (Cd τ)))) (hb:b<=256):
  ∃i:TypeInfo,P.info? t=some i/\i.size=τ.size/\i.bytes<=256/\i.zero=some (Cj τ (Cd τ)):=by
 cases hi:P.info? t with
 |none=>rw [hi] at h;cases h
 |some i=>
  rw [hi] at h;simp only [An,Aa,Ag] at h;exact ⟨i,rfl,h.1,by rw [h.2.1];exact hb,h.2.2⟩
theorem BY {P:Program} {t:TypeId} (h:((P.info? t).map λi=>i.size==0)=some false): ∃i:TypeInfo,P.info? t=some i/\i.size≠0:=by
 cases hi:P.info? t with
 |none=>rw [hi] at h;cases h
 |some i=>rw [hi] at h;simp only [An,Aa] at h;exact ⟨i,rfl,by simpa using h⟩
theorem Adc: ∀t τ,Hf.ty t=some τ->pk Try.prog Hf t τ:=by
 intro t τ h;simp only [Hf] at h;split at h
 ·cases h;exact ⟨Fe (b:=8) (by kernel_rfl) (by omega),(by kernel_rfl:Try.prog.underlying 2=some (.int .i64))⟩
 ·cases h;exact ⟨Fe (b:=8) (by kernel_rfl) (by omega),(by kernel_rfl:Try.prog.underlying 3=some (.int .i64))⟩
 ·cases h;exact ⟨Fe (b:=1) (by kernel_rfl) (by omega),(by kernel_rfl:Try.prog.underlying 4=some (.bool))⟩
 ·cases h;exact ⟨Fe (b:=1) (by kernel_rfl) (by omega),(by kernel_rfl:Try.prog.underlying 5=some (.int .u8))⟩
 ·cases h;exact ⟨Fe (b:=16) (by kernel_rfl) (by omega),(by kernel_rfl:Try.prog.underlying 9=some (.string))⟩
 ·cases h;exact ⟨Fe (b:=24) (by kernel_rfl) (by omega),⟨2,by kernel_rfl,rfl,rfl⟩⟩
 ·cases h;exact ⟨Fe (b:=24) (by kernel_rfl) (by omega),⟨33,by kernel_rfl,rfl,rfl⟩⟩
 ·cases h;exact ⟨Fe (b:=24) (by kernel_rfl) (by omega),⟨5,by kernel_rfl,rfl,rfl⟩⟩
 ·cases h;exact ⟨Fe (b:=24) (by kernel_rfl) (by omega),⟨4,by kernel_rfl,rfl,rfl⟩⟩
 ·cases h;exact ⟨Fe (b:=24) (by kernel_rfl) (by omega),⟨3,by kernel_rfl,rfl,rfl⟩⟩
 ·cases h;exact ⟨Fe (b:=24) (by kernel_rfl) (by omega),⟨27,by kernel_rfl,rfl,rfl⟩⟩
 ·cases h;exact ⟨Fe (b:=8) (by kernel_rfl) (by omega),⟨9,2,by kernel_rfl⟩⟩
 ·cases h;exact ⟨Fe (b:=8) (by kernel_rfl) (by omega),⟨9,4,by kernel_rfl⟩⟩
 ·cases h;exact ⟨Fe (b:=48) (by kernel_rfl) (by omega),⟨fieldsOf Try.prog 38,by kernel_rfl⟩⟩
 ·cases h;exact ⟨Fe (b:=48) (by kernel_rfl) (by omega),⟨fieldsOf Try.prog 29,by kernel_rfl⟩⟩
 ·cases h;exact ⟨Fe (b:=80) (by kernel_rfl) (by omega),⟨fieldsOf Try.prog 64,by kernel_rfl⟩⟩
 ·cases h;exact ⟨Fe (b:=56) (by kernel_rfl) (by omega),⟨fieldsOf Try.prog 164,by kernel_rfl⟩⟩
 ·cases h;exact ⟨Fe (b:=176) (by kernel_rfl) (by omega),⟨fieldsOf Try.prog 93,by kernel_rfl⟩⟩
 ·cases h;exact ⟨Fe (b:=8) (by kernel_rfl) (by omega),⟨93,by kernel_rfl⟩⟩
 ·cases h;exact ⟨Fe (b:=40) (by kernel_rfl) (by omega),⟨fieldsOf Try.prog 83,by kernel_rfl⟩⟩
 ·cases h;exact ⟨Fe (b:=8) (by kernel_rfl) (by omega),⟨83,by kernel_rfl⟩⟩
 ·cases h;exact ⟨Fe (b:=24) (by kernel_rfl) (by omega),⟨fieldsOf Try.prog 86,by kernel_rfl⟩⟩
 ·cases h;exact ⟨Fe (b:=24) (by kernel_rfl) (by omega),⟨86,by kernel_rfl,rfl,rfl⟩⟩
 ·cases h;exact ⟨Fe (b:=24) (by kernel_rfl) (by omega),⟨87,by kernel_rfl,rfl,rfl⟩⟩
 ·cases h;exact ⟨Fe (b:=8) (by kernel_rfl) (by omega),(by kernel_rfl:Try.prog.underlying 26=some (.int .u64))⟩
 ·cases h;exact ⟨Fe (b:=40) (by kernel_rfl) (by omega),⟨fieldsOf Try.prog 50,by kernel_rfl⟩⟩
 ·cases h;exact ⟨Fe (b:=48) (by kernel_rfl) (by omega),⟨fieldsOf Try.prog 35,by kernel_rfl⟩⟩
 ·cases h;exact ⟨Fe (b:=24) (by kernel_rfl) (by omega),⟨35,by kernel_rfl,rfl,rfl⟩⟩
 ·cases h
theorem Agz: ∀t te,Hf.elem t=some te->Try.prog.underlying t=some (.slice te):=by
 intro t te h;simp only [Hf] at h;split at h
 ·cases h;kernel_rfl
 ·cases h;kernel_rfl
 ·cases h;kernel_rfl
 ·cases h;kernel_rfl
 ·cases h;kernel_rfl
 ·cases h;kernel_rfl
 ·cases h;kernel_rfl
 ·cases h;kernel_rfl
 ·cases h;kernel_rfl
 ·cases h
theorem Ame: ∀t v,Hf.mapOf t=some v-> ∃k e,Try.prog.underlying t=some (.map k e)/\Try.prog.underlying k=some .string/\Hf.ty e=some v/\v.flat=true/\v.Ar=false:=by
 intro t v h;simp only [Hf] at h;split at h
 ·cases h;exact ⟨9,2,by kernel_rfl,by kernel_rfl,rfl,rfl,rfl⟩
 ·cases h;exact ⟨9,4,by kernel_rfl,by kernel_rfl,rfl,rfl,rfl⟩
 ·cases h
theorem Is {P:Program} {s:TypeId} {f o:Nat} {t:TypeId} (hu:P.underlying s=some (.struct (fieldsOf P s))) (hf:((fieldsOf P s)[f]?).map (λfd=>(fd.offset,fd.type))=some (o,t)) (hi:((P.info? t).map λi=>i.size==0)=some false):
  ∃(fs:Array Field) (fd:Field),P.underlying s=some (.struct fs)/\fs[f]?=some fd/\fd.offset=o/\fd.type=t/\ ∃i:TypeInfo,P.info? t=some i/\i.size≠0:=by
 cases h:(fieldsOf P s)[f]? with
 |none=>rw [h] at hf;cases hf
 |some fd=>
  rw [h] at hf;simp only [An,Aa,Ag] at hf;exact ⟨fieldsOf P s,fd,hu,h,hf.1,hf.2,BY hi⟩
theorem Amg: ∀s f o t,Hf.off s f=some (o,t)-> ∃(fs:Array Field) (fd:Field),Try.prog.underlying s=some (.struct fs)/\fs[f]?=some fd/\fd.offset=o/\fd.type=t/\ ∃i:TypeInfo,Try.prog.info? t=some i/\i.size≠0:=by
 intro s f o t h;simp only [Hf] at h;split at h
 ·cases h;exact Is (by kernel_rfl) (by kernel_rfl) (by kernel_rfl)
 ·cases h;exact Is (by kernel_rfl) (by kernel_rfl) (by kernel_rfl)
 ·cases h;exact Is (by kernel_rfl) (by kernel_rfl) (by kernel_rfl)
 ·cases h;exact Is (by kernel_rfl) (by kernel_rfl) (by kernel_rfl)
 ·cases h;exact Is (by kernel_rfl) (by kernel_rfl) (by kernel_rfl)
 ·cases h;exact Is (by kernel_rfl) (by kernel_rfl) (by kernel_rfl)
 ·cases h;exact Is (by kernel_rfl) (by kernel_rfl) (by kernel_rfl)
 ·cases h;exact Is (by kernel_rfl) (by kernel_rfl) (by kernel_rfl)
 ·cases h;exact Is (by kernel_rfl) (by kernel_rfl) (by kernel_rfl)
 ·cases h;exact Is (by kernel_rfl) (by kernel_rfl) (by kernel_rfl)
 ·cases h;exact Is (by kernel_rfl) (by kernel_rfl) (by kernel_rfl)
 ·cases h;exact Is (by kernel_rfl) (by kernel_rfl) (by kernel_rfl)
 ·cases h;exact Is (by kernel_rfl) (by kernel_rfl) (by kernel_rfl)
 ·cases h;exact Is (by kernel_rfl) (by kernel_rfl) (by kernel_rfl)
 ·cases h;exact Is (by kernel_rfl) (by kernel_rfl) (by kernel_rfl)
 ·cases h;exact Is (by kernel_rfl) (by kernel_rfl) (by kernel_rfl)
 ·cases h;exact Is (by kernel_rfl) (by kernel_rfl) (by kernel_rfl)
 ·cases h;exact Is (by kernel_rfl) (by kernel_rfl) (by kernel_rfl)
 ·cases h;exact Is (by kernel_rfl) (by kernel_rfl) (by kernel_rfl)
 ·cases h;exact Is (by kernel_rfl) (by kernel_rfl) (by kernel_rfl)
 ·cases h;exact Is (by kernel_rfl) (by kernel_rfl) (by kernel_rfl)
 ·cases h;exact Is (by kernel_rfl) (by kernel_rfl) (by kernel_rfl)
 ·cases h;exact Is (by kernel_rfl) (by kernel_rfl) (by kernel_rfl)
 ·cases h;exact Is (by kernel_rfl) (by kernel_rfl) (by kernel_rfl)
 ·cases h;exact Is (by kernel_rfl) (by kernel_rfl) (by kernel_rfl)
 ·cases h;exact Is (by kernel_rfl) (by kernel_rfl) (by kernel_rfl)
 ·cases h;exact Is (by kernel_rfl) (by kernel_rfl) (by kernel_rfl)
 ·cases h;exact Is (by kernel_rfl) (by kernel_rfl) (by kernel_rfl)
 ·cases h;exact Is (by kernel_rfl) (by kernel_rfl) (by kernel_rfl)
 ·cases h;exact Is (by kernel_rfl) (by kernel_rfl) (by kernel_rfl)
 ·cases h;exact Is (by kernel_rfl) (by kernel_rfl) (by kernel_rfl)
 ·cases h
theorem bj {P:Program} {t:TypeId} (hu:P.underlying t=some (.struct (fieldsOf P t))) (Mo:Array (Nat×Nat)) (hp: ∀w,(placesOf (fieldsOf P t)).run P w= .ok Mo w)
  (h: ∀f o u ρ,Hf.off t f=some (o,u)->Hf.ty u=some ρ->Mo[f]?=some (o,ρ.size)):
  ∃(fs:Array Field) (Mo:Array (Nat×Nat)),P.underlying t=some (.struct fs)/\(∀w,(placesOf fs).run P w= .ok Mo w)/\ ∀f o u ρ,Hf.off t f=some (o,u)->Hf.ty u=some ρ->Mo[f]?=some (o,ρ.size):=
 ⟨fieldsOf P t,Mo,hu,hp,h⟩
def Ve (t:TypeId):Array (Nat×Nat):=match t with
 |38=> #[(0,1),(1,1),(2,1)]
 |29=> #[(0,1),(1,1),(2,1)]
 |64=> #[(0,1),(1,1),(2,1),(3,1)]
 |164=> #[(0,1),(1,1),(2,1)]
 |93=> #[(0,3),(3,1),(4,1),(5,1),(6,1),(7,1),(8,1)]
 |83=> #[(0,1),(1,1),(2,1)]
 |86=> #[(0,1),(1,1),(2,1)]
 |50=> #[(0,1),(1,1),(2,1)]
 |35=> #[(0,1),(1,1)]
 |_=> #[]
theorem Ah0: ∀t τ,Hf.ty t=some τ->τ.Ar=true-> ∃(fs:Array Field) (Mo:Array (Nat×Nat)),Try.prog.underlying t=some (.struct fs)/\(∀w,(placesOf fs).run Try.prog w= .ok Mo w)/\
  ∀f o u ρ,Hf.off t f=some (o,u)->Hf.ty u=some ρ->Mo[f]?=some (o,ρ.size):=by
 intro t τ h hs
 have all: ∀t,∀f o u ρ,Hf.off t f=some (o,u)->Hf.ty u=some ρ->(Ve t)[f]?=some (o,ρ.size):=by
  intro t f o u ρ ho hu;simp only [Hf] at ho;split at ho
  all_goals first
   |(cases ho;cases hu;rfl)
   |cases ho
 simp only [Hf] at h;split at h
 ·cases h;simp [Ty.Ar] at hs
 ·cases h;simp [Ty.Ar] at hs
 ·cases h;simp [Ty.Ar] at hs
 ·cases h;simp [Ty.Ar] at hs
 ·cases h;simp [Ty.Ar] at hs
 ·cases h;simp [Ty.Ar] at hs
 ·cases h;simp [Ty.Ar] at hs
 ·cases h;simp [Ty.Ar] at hs
 ·cases h;simp [Ty.Ar] at hs
 ·cases h;simp [Ty.Ar] at hs
 ·cases h;simp [Ty.Ar] at hs
 ·cases h;simp [Ty.Ar] at hs
 ·cases h;simp [Ty.Ar] at hs
 ·exact bj (by kernel_rfl) (Ve 38) (λw=>by kernel_rfl) (all _)
 ·exact bj (by kernel_rfl) (Ve 29) (λw=>by kernel_rfl) (all _)
 ·exact bj (by kernel_rfl) (Ve 64) (λw=>by kernel_rfl) (all _)
 ·exact bj (by kernel_rfl) (Ve 164) (λw=>by kernel_rfl) (all _)
 ·exact bj (by kernel_rfl) (Ve 93) (λw=>by kernel_rfl) (all _)
 ·cases h;simp [Ty.Ar] at hs
 ·exact bj (by kernel_rfl) (Ve 83) (λw=>by kernel_rfl) (all _)
 ·cases h;simp [Ty.Ar] at hs
 ·exact bj (by kernel_rfl) (Ve 86) (λw=>by kernel_rfl) (all _)
 ·cases h;simp [Ty.Ar] at hs
 ·cases h;simp [Ty.Ar] at hs
 ·cases h;simp [Ty.Ar] at hs
 ·exact bj (by kernel_rfl) (Ve 50) (λw=>by kernel_rfl) (all _)
 ·exact bj (by kernel_rfl) (Ve 35) (λw=>by kernel_rfl) (all _)
 ·cases h;simp [Ty.Ar] at hs
 ·cases h
theorem Ez:Ec Try.prog Hf:=⟨Ah0,Adc,Agz,Ame,Amg⟩
def Rw:Tab:= {Hf with tN:=true,DA:=true}
theorem Qo:Ec Try.prog Rw:=Ez.flags true true
def Amh:Tab:= {Rw with parts:= [1000000000]}
def Amk:Tab:= {Rw with marks:= [Ux]}
theorem Aml:Ec Try.prog Amk:=Qo.qE [Ux]
def Ad7 (l:List Nat):Tab:= {Rw with marks:=l}
theorem Ad8 (l:List Nat):Ec Try.prog (Ad7 l):=Qo.qE l
theorem Ami:Ec Try.prog Amh:=Qo.YD [1000000000]
theorem mixed:Try.prog.follows .mixedOrders=true:=by kernel_rfl
end Go.Proofs.Ytfgfigkbgecfnaa
