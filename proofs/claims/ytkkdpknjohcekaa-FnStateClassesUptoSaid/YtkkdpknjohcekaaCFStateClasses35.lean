/-
  Part 36 of the proof that the statement FnStateClasses holds.
-/
import Derived.Test.YtkkdpknjohcekaaCFStateClasses34
import Derived.Test.YtkkdpknjohcekaaProg
import Derived.KernelRfl
namespace Go.Proofs.Ytkkdpknjohcekaa
open Go.RowKit
abbrev tI:Ty:= .int .i64
abbrev tL:Ty:= .slice tI
abbrev pR:Ty:= .slice tL
abbrev yG:Ty:= .pair tL (.pair pR (.pair tL .unit))
abbrev Kg:Ty:= .pair tI (.pair .str (.pair pR .unit))
abbrev iZ:Ty:= .pair pR (.pair tL (.pair tL (.pair .bool .unit)))
abbrev yD:Ty:= .pair tI (.pair (.slice pR) (.pair (.slice pR) .unit))
abbrev sJ:Ty:= .pair Kg (.pair pR (.pair tL (.pair (.smap tI) (.pair tL (.pair tL (.pair pR .unit))))))
abbrev MD:Ty:= .pair (.optr sJ) (.pair tL (.pair (.optr sJ) .unit))
abbrev MC:Ty:= .pair (.slice yG) (.pair (.slice (.smap tI)) .unit)
abbrev yF:Ty:= .pair tI (.pair tI (.pair tI .unit))
abbrev Abv:Ty:= .pair (.slice (.int .u8)) (.pair tI (.pair (.int .u64) .unit))
abbrev JE:Ty:= .pair tL (.pair tL .unit)
def Hf:Tab where
 ty:= λt=>match t with
  |2=>some tI
  |3=>some tI
  |4=>some .bool
  |5=>some (.int .u8)
  |9=>some .str
  |31=>some tL
  |27=>some pR
  |22=>some (.slice (.int .u8))
  |173=>some (.slice .bool)
  |82=>some tL
  |187=>some (.slice pR)
  |67=>some (.slice yG)
  |169=>some (.slice (.smap tI))
  |111=>some (.smap tI)
  |100=>some (.smap tI)
  |130=>some (.smap .bool)
  |48=>some yG
  |29=>some Kg
  |84=>some iZ
  |198=>some yD
  |189=>some yD
  |102=>some sJ
  |97=>some (.optr sJ)
  |123=>some MD
  |114=>some (.optr MD)
  |171=>some MC
  |135=>some (.optr MC)
  |141=>some yF
  |142=>some (.slice yF)
  |143=>some (.slice (.slice yF))
  |26=>some (.int .u64)
  |75=>some Abv
  |64=>some JE
  |61=>some (.slice JE)
  |_=>none
 elem:= λt=>match t with
  |31=>some 2
  |27=>some 31
  |22=>some 5
  |173=>some 4
  |82=>some 3
  |187=>some 27
  |67=>some 48
  |169=>some 100
  |142=>some 141
  |143=>some 142
  |61=>some 64
  |_=>none
 mapOf:= λt=>match t with
  |111=>some tI
  |100=>some tI
  |130=>some .bool
  |_=>none
 off:= λs f=>match s,f with
  |48,0=>some (0,31)
  |48,1=>some (1,27)
  |48,2=>some (2,31)
  |29,0=>some (0,2)
  |29,1=>some (1,9)
  |29,2=>some (2,27)
  |84,0=>some (0,27)
  |84,1=>some (1,31)
  |84,2=>some (2,82)
  |84,3=>some (3,4)
  |198,0=>some (0,2)
  |198,1=>some (1,187)
  |198,2=>some (2,187)
  |189,0=>some (0,2)
  |189,1=>some (1,187)
  |189,2=>some (2,187)
  |102,0=>some (0,29)
  |102,1=>some (3,27)
  |102,2=>some (4,31)
  |102,3=>some (5,100)
  |102,4=>some (6,31)
  |102,5=>some (7,31)
  |102,6=>some (8,27)
  |123,0=>some (0,97)
  |123,1=>some (1,31)
  |123,2=>some (2,97)
  |171,0=>some (0,67)
  |171,1=>some (1,169)
  |141,0=>some (0,2)
  |141,1=>some (1,3)
  |141,2=>some (2,2)
  |75,0=>some (0,22)
  |75,1=>some (1,3)
  |75,2=>some (2,26)
  |64,0=>some (0,31)
  |64,1=>some (1,31)
  |_,_=>none
def fieldsOf (P:Program) (s:TypeId):Array Field:=match P.underlying s with|some (.struct fs)=>fs|_=> #[]
theorem Em {P:Program} {t:TypeId} {τ:Ty} {b:Nat} (h:(P.info? t).map (λi=>(i.size,i.bytes,i.zero))=some (τ.size,b,some (Bv τ (Bp τ)))) (hb:b<=256):
  ∃i:TypeInfo,P.info? t=some i/\i.size=τ.size/\i.bytes<=256/\i.zero=some (Bv τ (Bp τ)):=by
 cases hi:P.info? t with
 |none=>rw [hi] at h;cases h
 |some i=>
  rw [hi] at h
  simp only [Ak,Aa,Ad] at h
  exact ⟨i,rfl,h.1,by rw [h.2.1];exact hb,h.2.2⟩
theorem ya {P:Program} {t:TypeId} (h:((P.info? t).map λi=>i.size==0)=some false): ∃i:TypeInfo,P.info? t=some i/\i.size≠0:=by
 cases hi:P.info? t with
 |none=>rw [hi] at h;cases h
 |some i=>rw [hi] at h;simp only [Ak,Aa] at h;exact ⟨i,rfl,by simpa using h⟩
theorem WB: ∀t τ,Hf.ty t=some τ->p7 Try.prog Hf t τ:=by
 intro t τ h
 simp only [Hf] at h
 split at h
 ·cases h;exact ⟨Em (b:=8) (by kernel_rfl) (by omega),(by kernel_rfl:Try.prog.underlying 2=some (.int .i64))⟩
 ·cases h;exact ⟨Em (b:=8) (by kernel_rfl) (by omega),(by kernel_rfl:Try.prog.underlying 3=some (.int .i64))⟩
 ·cases h;exact ⟨Em (b:=1) (by kernel_rfl) (by omega),(by kernel_rfl:Try.prog.underlying 4=some (.bool))⟩
 ·cases h;exact ⟨Em (b:=1) (by kernel_rfl) (by omega),(by kernel_rfl:Try.prog.underlying 5=some (.int .u8))⟩
 ·cases h;exact ⟨Em (b:=16) (by kernel_rfl) (by omega),(by kernel_rfl:Try.prog.underlying 9=some (.string))⟩
 ·cases h;exact ⟨Em (b:=24) (by kernel_rfl) (by omega),⟨2,by kernel_rfl,rfl,rfl⟩⟩
 ·cases h;exact ⟨Em (b:=24) (by kernel_rfl) (by omega),⟨31,by kernel_rfl,rfl,rfl⟩⟩
 ·cases h;exact ⟨Em (b:=24) (by kernel_rfl) (by omega),⟨5,by kernel_rfl,rfl,rfl⟩⟩
 ·cases h;exact ⟨Em (b:=24) (by kernel_rfl) (by omega),⟨4,by kernel_rfl,rfl,rfl⟩⟩
 ·cases h;exact ⟨Em (b:=24) (by kernel_rfl) (by omega),⟨3,by kernel_rfl,rfl,rfl⟩⟩
 ·cases h;exact ⟨Em (b:=24) (by kernel_rfl) (by omega),⟨27,by kernel_rfl,rfl,rfl⟩⟩
 ·cases h;exact ⟨Em (b:=24) (by kernel_rfl) (by omega),⟨48,by kernel_rfl,rfl,rfl⟩⟩
 ·cases h;exact ⟨Em (b:=24) (by kernel_rfl) (by omega),⟨100,by kernel_rfl,rfl,rfl⟩⟩
 ·cases h;exact ⟨Em (b:=8) (by kernel_rfl) (by omega),⟨9,3,by kernel_rfl⟩⟩
 ·cases h;exact ⟨Em (b:=8) (by kernel_rfl) (by omega),⟨9,2,by kernel_rfl⟩⟩
 ·cases h;exact ⟨Em (b:=8) (by kernel_rfl) (by omega),⟨9,4,by kernel_rfl⟩⟩
 ·cases h;exact ⟨Em (b:=72) (by kernel_rfl) (by omega),⟨fieldsOf Try.prog 48,by kernel_rfl⟩⟩
 ·cases h;exact ⟨Em (b:=48) (by kernel_rfl) (by omega),⟨fieldsOf Try.prog 29,by kernel_rfl⟩⟩
 ·cases h;exact ⟨Em (b:=80) (by kernel_rfl) (by omega),⟨fieldsOf Try.prog 84,by kernel_rfl⟩⟩
 ·cases h;exact ⟨Em (b:=56) (by kernel_rfl) (by omega),⟨fieldsOf Try.prog 198,by kernel_rfl⟩⟩
 ·cases h;exact ⟨Em (b:=56) (by kernel_rfl) (by omega),⟨fieldsOf Try.prog 189,by kernel_rfl⟩⟩
 ·cases h;exact ⟨Em (b:=176) (by kernel_rfl) (by omega),⟨fieldsOf Try.prog 102,by kernel_rfl⟩⟩
 ·cases h;exact ⟨Em (b:=8) (by kernel_rfl) (by omega),⟨102,by kernel_rfl⟩⟩
 ·cases h;exact ⟨Em (b:=40) (by kernel_rfl) (by omega),⟨fieldsOf Try.prog 123,by kernel_rfl⟩⟩
 ·cases h;exact ⟨Em (b:=8) (by kernel_rfl) (by omega),⟨123,by kernel_rfl⟩⟩
 ·cases h;exact ⟨Em (b:=48) (by kernel_rfl) (by omega),⟨fieldsOf Try.prog 171,by kernel_rfl⟩⟩
 ·cases h;exact ⟨Em (b:=8) (by kernel_rfl) (by omega),⟨171,by kernel_rfl⟩⟩
 ·cases h;exact ⟨Em (b:=24) (by kernel_rfl) (by omega),⟨fieldsOf Try.prog 141,by kernel_rfl⟩⟩
 ·cases h;exact ⟨Em (b:=24) (by kernel_rfl) (by omega),⟨141,by kernel_rfl,rfl,rfl⟩⟩
 ·cases h;exact ⟨Em (b:=24) (by kernel_rfl) (by omega),⟨142,by kernel_rfl,rfl,rfl⟩⟩
 ·cases h;exact ⟨Em (b:=8) (by kernel_rfl) (by omega),(by kernel_rfl:Try.prog.underlying 26=some (.int .u64))⟩
 ·cases h;exact ⟨Em (b:=40) (by kernel_rfl) (by omega),⟨fieldsOf Try.prog 75,by kernel_rfl⟩⟩
 ·cases h;exact ⟨Em (b:=48) (by kernel_rfl) (by omega),⟨fieldsOf Try.prog 64,by kernel_rfl⟩⟩
 ·cases h;exact ⟨Em (b:=24) (by kernel_rfl) (by omega),⟨64,by kernel_rfl,rfl,rfl⟩⟩
 ·cases h
theorem ZZ: ∀t te,Hf.elem t=some te->Try.prog.underlying t=some (.slice te):=by
 intro t te h
 simp only [Hf] at h
 split at h
 ·cases h;kernel_rfl
 ·cases h;kernel_rfl
 ·cases h;kernel_rfl
 ·cases h;kernel_rfl
 ·cases h;kernel_rfl
 ·cases h;kernel_rfl
 ·cases h;kernel_rfl
 ·cases h;kernel_rfl
 ·cases h;kernel_rfl
 ·cases h;kernel_rfl
 ·cases h;kernel_rfl
 ·cases h
theorem Ael: ∀t v,Hf.mapOf t=some v-> ∃k e,Try.prog.underlying t=some (.map k e)/\Try.prog.underlying k=some .string/\Hf.ty e=some v/\v.flat=true/\v.Ap=false:=by
 intro t v h
 simp only [Hf] at h
 split at h
 ·cases h;exact ⟨9,3,by kernel_rfl,by kernel_rfl,rfl,rfl,rfl⟩
 ·cases h;exact ⟨9,2,by kernel_rfl,by kernel_rfl,rfl,rfl,rfl⟩
 ·cases h;exact ⟨9,4,by kernel_rfl,by kernel_rfl,rfl,rfl,rfl⟩
 ·cases h
theorem Gl {P:Program} {s:TypeId} {f o:Nat} {t:TypeId} (hu:P.underlying s=some (.struct (fieldsOf P s))) (hf:((fieldsOf P s)[f]?).map (λfd=>(fd.offset,fd.type))=some (o,t)) (hi:((P.info? t).map λi=>i.size==0)=some false):
  ∃(fs:Array Field) (fd:Field),P.underlying s=some (.struct fs)/\fs[f]?=some fd/\fd.offset=o/\fd.type=t/\ ∃i:TypeInfo,P.info? t=some i/\i.size≠0:=by
 cases h:(fieldsOf P s)[f]? with
 |none=>rw [h] at hf;cases hf
 |some fd=>
  rw [h] at hf
  simp only [Ak,Aa,Ad] at hf
  exact ⟨fieldsOf P s,fd,hu,h,hf.1,hf.2,ya hi⟩
theorem Aen: ∀s f o t,Hf.off s f=some (o,t)-> ∃(fs:Array Field) (fd:Field),Try.prog.underlying s=some (.struct fs)/\fs[f]?=some fd/\fd.offset=o/\fd.type=t/\ ∃i:TypeInfo,Try.prog.info? t=some i/\i.size≠0:=by
 intro s f o t h
 simp only [Hf] at h
 split at h
 ·cases h;exact Gl (by kernel_rfl) (by kernel_rfl) (by kernel_rfl)
 ·cases h;exact Gl (by kernel_rfl) (by kernel_rfl) (by kernel_rfl)
 ·cases h;exact Gl (by kernel_rfl) (by kernel_rfl) (by kernel_rfl)
 ·cases h;exact Gl (by kernel_rfl) (by kernel_rfl) (by kernel_rfl)
 ·cases h;exact Gl (by kernel_rfl) (by kernel_rfl) (by kernel_rfl)
 ·cases h;exact Gl (by kernel_rfl) (by kernel_rfl) (by kernel_rfl)
 ·cases h;exact Gl (by kernel_rfl) (by kernel_rfl) (by kernel_rfl)
 ·cases h;exact Gl (by kernel_rfl) (by kernel_rfl) (by kernel_rfl)
 ·cases h;exact Gl (by kernel_rfl) (by kernel_rfl) (by kernel_rfl)
 ·cases h;exact Gl (by kernel_rfl) (by kernel_rfl) (by kernel_rfl)
 ·cases h;exact Gl (by kernel_rfl) (by kernel_rfl) (by kernel_rfl)
 ·cases h;exact Gl (by kernel_rfl) (by kernel_rfl) (by kernel_rfl)
 ·cases h;exact Gl (by kernel_rfl) (by kernel_rfl) (by kernel_rfl)
 ·cases h;exact Gl (by kernel_rfl) (by kernel_rfl) (by kernel_rfl)
 ·cases h;exact Gl (by kernel_rfl) (by kernel_rfl) (by kernel_rfl)
 ·cases h;exact Gl (by kernel_rfl) (by kernel_rfl) (by kernel_rfl)
 ·cases h;exact Gl (by kernel_rfl) (by kernel_rfl) (by kernel_rfl)
 ·cases h;exact Gl (by kernel_rfl) (by kernel_rfl) (by kernel_rfl)
 ·cases h;exact Gl (by kernel_rfl) (by kernel_rfl) (by kernel_rfl)
 ·cases h;exact Gl (by kernel_rfl) (by kernel_rfl) (by kernel_rfl)
 ·cases h;exact Gl (by kernel_rfl) (by kernel_rfl) (by kernel_rfl)
 ·cases h;exact Gl (by kernel_rfl) (by kernel_rfl) (by kernel_rfl)
 ·cases h;exact Gl (by kernel_rfl) (by kernel_rfl) (by kernel_rfl)
 ·cases h;exact Gl (by kernel_rfl) (by kernel_rfl) (by kernel_rfl)
 ·cases h;exact Gl (by kernel_rfl) (by kernel_rfl) (by kernel_rfl)
 ·cases h;exact Gl (by kernel_rfl) (by kernel_rfl) (by kernel_rfl)
 ·cases h;exact Gl (by kernel_rfl) (by kernel_rfl) (by kernel_rfl)
 ·cases h;exact Gl (by kernel_rfl) (by kernel_rfl) (by kernel_rfl)
 ·cases h;exact Gl (by kernel_rfl) (by kernel_rfl) (by kernel_rfl)
 ·cases h;exact Gl (by kernel_rfl) (by kernel_rfl) (by kernel_rfl)
 ·cases h;exact Gl (by kernel_rfl) (by kernel_rfl) (by kernel_rfl)
 ·cases h;exact Gl (by kernel_rfl) (by kernel_rfl) (by kernel_rfl)
 ·cases h;exact Gl (by kernel_rfl) (by kernel_rfl) (by kernel_rfl)
 ·cases h;exact Gl (by kernel_rfl) (by kernel_rfl) (by kernel_rfl)
 ·cases h;exact Gl (by kernel_rfl) (by kernel_rfl) (by kernel_rfl)
 ·cases h;exact Gl (by kernel_rfl) (by kernel_rfl) (by kernel_rfl)
 ·cases h
theorem Uz {P:Program} {t:TypeId} (hu:P.underlying t=some (.struct (fieldsOf P t))) (Nv:Array (Nat×Nat)) (hp: ∀w,(placesOf (fieldsOf P t)).run P w= .ok Nv w)
  (h: ∀f o u ρ,Hf.off t f=some (o,u)->Hf.ty u=some ρ->Nv[f]?=some (o,ρ.size)):
  ∃(fs:Array Field) (Nv:Array (Nat×Nat)),P.underlying t=some (.struct fs)/\(∀w,(placesOf fs).run P w= .ok Nv w)/\ ∀f o u ρ,Hf.off t f=some (o,u)->Hf.ty u=some ρ->Nv[f]?=some (o,ρ.size):=
 ⟨fieldsOf P t,Nv,hu,hp,h⟩
def Qn (t:TypeId):Array (Nat×Nat):=match t with
 |48=> #[(0,1),(1,1),(2,1)]
 |29=> #[(0,1),(1,1),(2,1)]
 |84=> #[(0,1),(1,1),(2,1),(3,1)]
 |198=> #[(0,1),(1,1),(2,1)]
 |189=> #[(0,1),(1,1),(2,1)]
 |102=> #[(0,3),(3,1),(4,1),(5,1),(6,1),(7,1),(8,1)]
 |123=> #[(0,1),(1,1),(2,1)]
 |171=> #[(0,1),(1,1)]
 |141=> #[(0,1),(1,1),(2,1)]
 |75=> #[(0,1),(1,1),(2,1)]
 |64=> #[(0,1),(1,1)]
 |_=> #[]
theorem Aa0: ∀t τ,Hf.ty t=some τ->τ.Ap=true-> ∃(fs:Array Field) (Nv:Array (Nat×Nat)),Try.prog.underlying t=some (.struct fs)/\(∀w,(placesOf fs).run Try.prog w= .ok Nv w)/\
  ∀f o u ρ,Hf.off t f=some (o,u)->Hf.ty u=some ρ->Nv[f]?=some (o,ρ.size):=by
 intro t τ h hs
 have all: ∀t,∀f o u ρ,Hf.off t f=some (o,u)->Hf.ty u=some ρ->(Qn t)[f]?=some (o,ρ.size):=by
  intro t f o u ρ ho hu
  simp only [Hf] at ho
  split at ho
  all_goals first
   |(cases ho;cases hu;rfl)
   |cases ho
 simp only [Hf] at h
 split at h
 ·cases h;simp [Ty.Ap] at hs
 ·cases h;simp [Ty.Ap] at hs
 ·cases h;simp [Ty.Ap] at hs
 ·cases h;simp [Ty.Ap] at hs
 ·cases h;simp [Ty.Ap] at hs
 ·cases h;simp [Ty.Ap] at hs
 ·cases h;simp [Ty.Ap] at hs
 ·cases h;simp [Ty.Ap] at hs
 ·cases h;simp [Ty.Ap] at hs
 ·cases h;simp [Ty.Ap] at hs
 ·cases h;simp [Ty.Ap] at hs
 ·cases h;simp [Ty.Ap] at hs
 ·cases h;simp [Ty.Ap] at hs
 ·cases h;simp [Ty.Ap] at hs
 ·cases h;simp [Ty.Ap] at hs
 ·cases h;simp [Ty.Ap] at hs
 ·exact Uz (by kernel_rfl) (Qn 48) (λw=>by kernel_rfl) (all _)
 ·exact Uz (by kernel_rfl) (Qn 29) (λw=>by kernel_rfl) (all _)
 ·exact Uz (by kernel_rfl) (Qn 84) (λw=>by kernel_rfl) (all _)
 ·exact Uz (by kernel_rfl) (Qn 198) (λw=>by kernel_rfl) (all _)
 ·exact Uz (by kernel_rfl) (Qn 189) (λw=>by kernel_rfl) (all _)
 ·exact Uz (by kernel_rfl) (Qn 102) (λw=>by kernel_rfl) (all _)
 ·cases h;simp [Ty.Ap] at hs
 ·exact Uz (by kernel_rfl) (Qn 123) (λw=>by kernel_rfl) (all _)
 ·cases h;simp [Ty.Ap] at hs
 ·exact Uz (by kernel_rfl) (Qn 171) (λw=>by kernel_rfl) (all _)
 ·cases h;simp [Ty.Ap] at hs
 ·exact Uz (by kernel_rfl) (Qn 141) (λw=>by kernel_rfl) (all _)
 ·cases h;simp [Ty.Ap] at hs
 ·cases h;simp [Ty.Ap] at hs
 ·cases h;simp [Ty.Ap] at hs
 ·exact Uz (by kernel_rfl) (Qn 75) (λw=>by kernel_rfl) (all _)
 ·exact Uz (by kernel_rfl) (Qn 64) (λw=>by kernel_rfl) (all _)
 ·cases h;simp [Ty.Ap] at hs
 ·cases h
theorem Fh:Dn Try.prog Hf:=⟨Aa0,WB,ZZ,Ael,Aen⟩
def Vy:Tab:= {Hf with sS:=true,z8:=true}
theorem Sq:Dn Try.prog Vy:=Fh.flags true true
def Aeo:Tab:= {Vy with parts:= [1000000000]}
def Aeq:Tab:= {Vy with marks:= [Td]}
theorem Aer:Dn Try.prog Aeq:=Sq.nX [Td]
def Aej (l:List Nat):Tab:= {Vy with marks:=l}
theorem Aek (l:List Nat):Dn Try.prog (Aej l):=Sq.nX l
theorem Aep:Dn Try.prog Aeo:=Sq.QN [1000000000]
theorem mixed:Try.prog.follows .mixedOrders=true:=by kernel_rfl
end Go.Proofs.Ytkkdpknjohcekaa
