/-
  Part 36 of the proof that the statement FnBoundStatistics holds.
-/
import Derived.Test.YtkkdpknjohcekaaCFBoundStatistics34
import Derived.Test.YtkkdpknjohcekaaProg
import Derived.KernelRfl
namespace Go.Proofs.Ytkkdpknjohcekaa
open Go.RowKit
abbrev tI:Ty:= .int .i64
abbrev tL:Ty:= .slice tI
abbrev mG:Ty:= .slice tL
abbrev cd:Ty:= .pair tL (.pair mG (.pair tL .unit))
abbrev Ma:Ty:= .pair tI (.pair .str (.pair mG .unit))
abbrev kx:Ty:= .pair mG (.pair tL (.pair tL (.pair .bool .unit)))
abbrev BA:Ty:= .pair tI (.pair (.slice mG) (.pair (.slice mG) .unit))
abbrev uW:Ty:= .pair Ma (.pair mG (.pair tL (.pair (.smap tI) (.pair tL (.pair tL (.pair mG .unit))))))
abbrev RJ:Ty:= .pair (.optr uW) (.pair tL (.pair (.optr uW) .unit))
abbrev oq:Ty:= .pair (.slice cd) (.pair (.slice (.smap tI)) .unit)
abbrev BC:Ty:= .pair tI (.pair tI (.pair tI .unit))
abbrev Ago:Ty:= .pair (.slice (.int .u8)) (.pair tI (.pair (.int .u64) .unit))
abbrev OC:Ty:= .pair tL (.pair tL .unit)
def Hf:Tab where
 ty:= λt=>match t with
  |2=>some tI
  |3=>some tI
  |4=>some .bool
  |5=>some (.int .u8)
  |9=>some .str
  |31=>some tL
  |27=>some mG
  |22=>some (.slice (.int .u8))
  |173=>some (.slice .bool)
  |82=>some tL
  |187=>some (.slice mG)
  |67=>some (.slice cd)
  |169=>some (.slice (.smap tI))
  |111=>some (.smap tI)
  |100=>some (.smap tI)
  |130=>some (.smap .bool)
  |48=>some cd
  |29=>some Ma
  |84=>some kx
  |198=>some BA
  |189=>some BA
  |102=>some uW
  |97=>some (.optr uW)
  |123=>some RJ
  |114=>some (.optr RJ)
  |171=>some oq
  |135=>some (.optr oq)
  |141=>some BC
  |142=>some (.slice BC)
  |143=>some (.slice (.slice BC))
  |26=>some (.int .u64)
  |75=>some Ago
  |64=>some OC
  |61=>some (.slice OC)
  |_=>none
 elem:= λt=>match t with
  |31=>some 2
  |27=>some 31
  |22=>some 5
  |173=>some 4
  |82=>some 3
  |187=>some 27
  |67=>some 48
  |169=>some 100
  |142=>some 141
  |143=>some 142
  |61=>some 64
  |_=>none
 mapOf:= λt=>match t with
  |111=>some tI
  |100=>some tI
  |130=>some .bool
  |_=>none
 off:= λs f=>match s,f with
  |48,0=>some (0,31)
  |48,1=>some (1,27)
  |48,2=>some (2,31)
  |29,0=>some (0,2)
  |29,1=>some (1,9)
  |29,2=>some (2,27)
  |84,0=>some (0,27)
  |84,1=>some (1,31)
  |84,2=>some (2,82)
  |84,3=>some (3,4)
  |198,0=>some (0,2)
  |198,1=>some (1,187)
  |198,2=>some (2,187)
  |189,0=>some (0,2)
  |189,1=>some (1,187)
  |189,2=>some (2,187)
  |102,0=>some (0,29)
  |102,1=>some (3,27)
  |102,2=>some (4,31)
  |102,3=>some (5,100)
  |102,4=>some (6,31)
  |102,5=>some (7,31)
  |102,6=>some (8,27)
  |123,0=>some (0,97)
  |123,1=>some (1,31)
  |123,2=>some (2,97)
  |171,0=>some (0,67)
  |171,1=>some (1,169)
  |141,0=>some (0,2)
  |141,1=>some (1,3)
  |141,2=>some (2,2)
  |75,0=>some (0,22)
  |75,1=>some (1,3)
  |75,2=>some (2,26)
  |64,0=>some (0,31)
  |64,1=>some (1,31)
  |_,_=>none
def fieldsOf (P:Program) (s:TypeId):Array Field:=match P.underlying s with|some (.struct fs)=>fs|_=> #[]
theorem Dq {P:Program} {t:TypeId} {τ:Ty} {b:Nat} (h:(P.info? t).map (λi=>(i.size,i.bytes,i.zero))=some (τ.size,b,some (Cb τ (Bu τ)))) (hb:b<=256):
  ∃i:TypeInfo,P.info? t=some i/\i.size=τ.size/\i.bytes<=256/\i.zero=some (Cb τ (Bu τ)):=by
 cases hi:P.info? t with
 |none=>rw [hi] at h;cases h
 |some i=>
  rw [hi] at h
  simp only [Am,Aa,Ae] at h
  exact ⟨i,rfl,h.1,by rw [h.2.1];exact hb,h.2.2⟩
theorem AD {P:Program} {t:TypeId} (h:((P.info? t).map λi=>i.size==0)=some false): ∃i:TypeInfo,P.info? t=some i/\i.size≠0:=by
 cases hi:P.info? t with
 |none=>rw [hi] at h;cases h
 |some i=>rw [hi] at h;simp only [Am,Aa] at h;exact ⟨i,rfl,by simpa using h⟩
theorem Abh: ∀t τ,Hf.ty t=some τ->oJ Try.prog Hf t τ:=by
 intro t τ h
 simp only [Hf] at h
 split at h
 ·cases h;exact ⟨Dq (b:=8) (by kernel_rfl) (by omega),(by kernel_rfl:Try.prog.underlying 2=some (.int .i64))⟩
 ·cases h;exact ⟨Dq (b:=8) (by kernel_rfl) (by omega),(by kernel_rfl:Try.prog.underlying 3=some (.int .i64))⟩
 ·cases h;exact ⟨Dq (b:=1) (by kernel_rfl) (by omega),(by kernel_rfl:Try.prog.underlying 4=some (.bool))⟩
 ·cases h;exact ⟨Dq (b:=1) (by kernel_rfl) (by omega),(by kernel_rfl:Try.prog.underlying 5=some (.int .u8))⟩
 ·cases h;exact ⟨Dq (b:=16) (by kernel_rfl) (by omega),(by kernel_rfl:Try.prog.underlying 9=some (.string))⟩
 ·cases h;exact ⟨Dq (b:=24) (by kernel_rfl) (by omega),⟨2,by kernel_rfl,rfl,rfl⟩⟩
 ·cases h;exact ⟨Dq (b:=24) (by kernel_rfl) (by omega),⟨31,by kernel_rfl,rfl,rfl⟩⟩
 ·cases h;exact ⟨Dq (b:=24) (by kernel_rfl) (by omega),⟨5,by kernel_rfl,rfl,rfl⟩⟩
 ·cases h;exact ⟨Dq (b:=24) (by kernel_rfl) (by omega),⟨4,by kernel_rfl,rfl,rfl⟩⟩
 ·cases h;exact ⟨Dq (b:=24) (by kernel_rfl) (by omega),⟨3,by kernel_rfl,rfl,rfl⟩⟩
 ·cases h;exact ⟨Dq (b:=24) (by kernel_rfl) (by omega),⟨27,by kernel_rfl,rfl,rfl⟩⟩
 ·cases h;exact ⟨Dq (b:=24) (by kernel_rfl) (by omega),⟨48,by kernel_rfl,rfl,rfl⟩⟩
 ·cases h;exact ⟨Dq (b:=24) (by kernel_rfl) (by omega),⟨100,by kernel_rfl,rfl,rfl⟩⟩
 ·cases h;exact ⟨Dq (b:=8) (by kernel_rfl) (by omega),⟨9,3,by kernel_rfl⟩⟩
 ·cases h;exact ⟨Dq (b:=8) (by kernel_rfl) (by omega),⟨9,2,by kernel_rfl⟩⟩
 ·cases h;exact ⟨Dq (b:=8) (by kernel_rfl) (by omega),⟨9,4,by kernel_rfl⟩⟩
 ·cases h;exact ⟨Dq (b:=72) (by kernel_rfl) (by omega),⟨fieldsOf Try.prog 48,by kernel_rfl⟩⟩
 ·cases h;exact ⟨Dq (b:=48) (by kernel_rfl) (by omega),⟨fieldsOf Try.prog 29,by kernel_rfl⟩⟩
 ·cases h;exact ⟨Dq (b:=80) (by kernel_rfl) (by omega),⟨fieldsOf Try.prog 84,by kernel_rfl⟩⟩
 ·cases h;exact ⟨Dq (b:=56) (by kernel_rfl) (by omega),⟨fieldsOf Try.prog 198,by kernel_rfl⟩⟩
 ·cases h;exact ⟨Dq (b:=56) (by kernel_rfl) (by omega),⟨fieldsOf Try.prog 189,by kernel_rfl⟩⟩
 ·cases h;exact ⟨Dq (b:=176) (by kernel_rfl) (by omega),⟨fieldsOf Try.prog 102,by kernel_rfl⟩⟩
 ·cases h;exact ⟨Dq (b:=8) (by kernel_rfl) (by omega),⟨102,by kernel_rfl⟩⟩
 ·cases h;exact ⟨Dq (b:=40) (by kernel_rfl) (by omega),⟨fieldsOf Try.prog 123,by kernel_rfl⟩⟩
 ·cases h;exact ⟨Dq (b:=8) (by kernel_rfl) (by omega),⟨123,by kernel_rfl⟩⟩
 ·cases h;exact ⟨Dq (b:=48) (by kernel_rfl) (by omega),⟨fieldsOf Try.prog 171,by kernel_rfl⟩⟩
 ·cases h;exact ⟨Dq (b:=8) (by kernel_rfl) (by omega),⟨171,by kernel_rfl⟩⟩
 ·cases h;exact ⟨Dq (b:=24) (by kernel_rfl) (by omega),⟨fieldsOf Try.prog 141,by kernel_rfl⟩⟩
 ·cases h;exact ⟨Dq (b:=24) (by kernel_rfl) (by omega),⟨141,by kernel_rfl,rfl,rfl⟩⟩
 ·cases h;exact ⟨Dq (b:=24) (by kernel_rfl) (by omega),⟨142,by kernel_rfl,rfl,rfl⟩⟩
 ·cases h;exact ⟨Dq (b:=8) (by kernel_rfl) (by omega),(by kernel_rfl:Try.prog.underlying 26=some (.int .u64))⟩
 ·cases h;exact ⟨Dq (b:=40) (by kernel_rfl) (by omega),⟨fieldsOf Try.prog 75,by kernel_rfl⟩⟩
 ·cases h;exact ⟨Dq (b:=48) (by kernel_rfl) (by omega),⟨fieldsOf Try.prog 64,by kernel_rfl⟩⟩
 ·cases h;exact ⟨Dq (b:=24) (by kernel_rfl) (by omega),⟨64,by kernel_rfl,rfl,rfl⟩⟩
 ·cases h
theorem Aen: ∀t te,Hf.elem t=some te->Try.prog.underlying t=some (.slice te):=by
 intro t te h
 simp only [Hf] at h
 split at h
 ·cases h;kernel_rfl
 ·cases h;kernel_rfl
 ·cases h;kernel_rfl
 ·cases h;kernel_rfl
 ·cases h;kernel_rfl
 ·cases h;kernel_rfl
 ·cases h;kernel_rfl
 ·cases h;kernel_rfl
 ·cases h;kernel_rfl
 ·cases h;kernel_rfl
 ·cases h;kernel_rfl
 ·cases h
theorem Ajk: ∀t v,Hf.mapOf t=some v-> ∃k e,Try.prog.underlying t=some (.map k e)/\Try.prog.underlying k=some .string/\Hf.ty e=some v/\v.flat=true/\v.Ao=false:=by
 intro t v h
 simp only [Hf] at h
 split at h
 ·cases h;exact ⟨9,3,by kernel_rfl,by kernel_rfl,rfl,rfl,rfl⟩
 ·cases h;exact ⟨9,2,by kernel_rfl,by kernel_rfl,rfl,rfl,rfl⟩
 ·cases h;exact ⟨9,4,by kernel_rfl,by kernel_rfl,rfl,rfl,rfl⟩
 ·cases h
theorem Gm {P:Program} {s:TypeId} {f o:Nat} {t:TypeId} (hu:P.underlying s=some (.struct (fieldsOf P s))) (hf:((fieldsOf P s)[f]?).map (λfd=>(fd.offset,fd.type))=some (o,t)) (hi:((P.info? t).map λi=>i.size==0)=some false):
  ∃(fs:Array Field) (fd:Field),P.underlying s=some (.struct fs)/\fs[f]?=some fd/\fd.offset=o/\fd.type=t/\ ∃i:TypeInfo,P.info? t=some i/\i.size≠0:=by
 cases h:(fieldsOf P s)[f]? with
 |none=>rw [h] at hf;cases hf
 |some fd=>
  rw [h] at hf
  simp only [Am,Aa,Ae] at hf
  exact ⟨fieldsOf P s,fd,hu,h,hf.1,hf.2,AD hi⟩
theorem Ajm: ∀s f o t,Hf.off s f=some (o,t)-> ∃(fs:Array Field) (fd:Field),Try.prog.underlying s=some (.struct fs)/\fs[f]?=some fd/\fd.offset=o/\fd.type=t/\ ∃i:TypeInfo,Try.prog.info? t=some i/\i.size≠0:=by
 intro s f o t h
 simp only [Hf] at h
 split at h
 ·cases h;exact Gm (by kernel_rfl) (by kernel_rfl) (by kernel_rfl)
 ·cases h;exact Gm (by kernel_rfl) (by kernel_rfl) (by kernel_rfl)
 ·cases h;exact Gm (by kernel_rfl) (by kernel_rfl) (by kernel_rfl)
 ·cases h;exact Gm (by kernel_rfl) (by kernel_rfl) (by kernel_rfl)
 ·cases h;exact Gm (by kernel_rfl) (by kernel_rfl) (by kernel_rfl)
 ·cases h;exact Gm (by kernel_rfl) (by kernel_rfl) (by kernel_rfl)
 ·cases h;exact Gm (by kernel_rfl) (by kernel_rfl) (by kernel_rfl)
 ·cases h;exact Gm (by kernel_rfl) (by kernel_rfl) (by kernel_rfl)
 ·cases h;exact Gm (by kernel_rfl) (by kernel_rfl) (by kernel_rfl)
 ·cases h;exact Gm (by kernel_rfl) (by kernel_rfl) (by kernel_rfl)
 ·cases h;exact Gm (by kernel_rfl) (by kernel_rfl) (by kernel_rfl)
 ·cases h;exact Gm (by kernel_rfl) (by kernel_rfl) (by kernel_rfl)
 ·cases h;exact Gm (by kernel_rfl) (by kernel_rfl) (by kernel_rfl)
 ·cases h;exact Gm (by kernel_rfl) (by kernel_rfl) (by kernel_rfl)
 ·cases h;exact Gm (by kernel_rfl) (by kernel_rfl) (by kernel_rfl)
 ·cases h;exact Gm (by kernel_rfl) (by kernel_rfl) (by kernel_rfl)
 ·cases h;exact Gm (by kernel_rfl) (by kernel_rfl) (by kernel_rfl)
 ·cases h;exact Gm (by kernel_rfl) (by kernel_rfl) (by kernel_rfl)
 ·cases h;exact Gm (by kernel_rfl) (by kernel_rfl) (by kernel_rfl)
 ·cases h;exact Gm (by kernel_rfl) (by kernel_rfl) (by kernel_rfl)
 ·cases h;exact Gm (by kernel_rfl) (by kernel_rfl) (by kernel_rfl)
 ·cases h;exact Gm (by kernel_rfl) (by kernel_rfl) (by kernel_rfl)
 ·cases h;exact Gm (by kernel_rfl) (by kernel_rfl) (by kernel_rfl)
 ·cases h;exact Gm (by kernel_rfl) (by kernel_rfl) (by kernel_rfl)
 ·cases h;exact Gm (by kernel_rfl) (by kernel_rfl) (by kernel_rfl)
 ·cases h;exact Gm (by kernel_rfl) (by kernel_rfl) (by kernel_rfl)
 ·cases h;exact Gm (by kernel_rfl) (by kernel_rfl) (by kernel_rfl)
 ·cases h;exact Gm (by kernel_rfl) (by kernel_rfl) (by kernel_rfl)
 ·cases h;exact Gm (by kernel_rfl) (by kernel_rfl) (by kernel_rfl)
 ·cases h;exact Gm (by kernel_rfl) (by kernel_rfl) (by kernel_rfl)
 ·cases h;exact Gm (by kernel_rfl) (by kernel_rfl) (by kernel_rfl)
 ·cases h;exact Gm (by kernel_rfl) (by kernel_rfl) (by kernel_rfl)
 ·cases h;exact Gm (by kernel_rfl) (by kernel_rfl) (by kernel_rfl)
 ·cases h;exact Gm (by kernel_rfl) (by kernel_rfl) (by kernel_rfl)
 ·cases h;exact Gm (by kernel_rfl) (by kernel_rfl) (by kernel_rfl)
 ·cases h;exact Gm (by kernel_rfl) (by kernel_rfl) (by kernel_rfl)
 ·cases h
theorem Wf {P:Program} {t:TypeId} (hu:P.underlying t=some (.struct (fieldsOf P t))) (Lz:Array (Nat×Nat)) (hp: ∀w,(placesOf (fieldsOf P t)).run P w= .ok Lz w)
  (h: ∀f o u ρ,Hf.off t f=some (o,u)->Hf.ty u=some ρ->Lz[f]?=some (o,ρ.size)):
  ∃(fs:Array Field) (Lz:Array (Nat×Nat)),P.underlying t=some (.struct fs)/\(∀w,(placesOf fs).run P w= .ok Lz w)/\ ∀f o u ρ,Hf.off t f=some (o,u)->Hf.ty u=some ρ->Lz[f]?=some (o,ρ.size):=
 ⟨fieldsOf P t,Lz,hu,hp,h⟩
def Oq (t:TypeId):Array (Nat×Nat):=match t with
 |48=> #[(0,1),(1,1),(2,1)]
 |29=> #[(0,1),(1,1),(2,1)]
 |84=> #[(0,1),(1,1),(2,1),(3,1)]
 |198=> #[(0,1),(1,1),(2,1)]
 |189=> #[(0,1),(1,1),(2,1)]
 |102=> #[(0,3),(3,1),(4,1),(5,1),(6,1),(7,1),(8,1)]
 |123=> #[(0,1),(1,1),(2,1)]
 |171=> #[(0,1),(1,1)]
 |141=> #[(0,1),(1,1),(2,1)]
 |75=> #[(0,1),(1,1),(2,1)]
 |64=> #[(0,1),(1,1)]
 |_=> #[]
theorem Aeo: ∀t τ,Hf.ty t=some τ->τ.Ao=true-> ∃(fs:Array Field) (Lz:Array (Nat×Nat)),Try.prog.underlying t=some (.struct fs)/\(∀w,(placesOf fs).run Try.prog w= .ok Lz w)/\
  ∀f o u ρ,Hf.off t f=some (o,u)->Hf.ty u=some ρ->Lz[f]?=some (o,ρ.size):=by
 intro t τ h hs
 have all: ∀t,∀f o u ρ,Hf.off t f=some (o,u)->Hf.ty u=some ρ->(Oq t)[f]?=some (o,ρ.size):=by
  intro t f o u ρ ho hu
  simp only [Hf] at ho
  split at ho
  all_goals first
   |(cases ho;cases hu;rfl)
   |cases ho
 simp only [Hf] at h
 split at h
 ·cases h;simp [Ty.Ao] at hs
 ·cases h;simp [Ty.Ao] at hs
 ·cases h;simp [Ty.Ao] at hs
 ·cases h;simp [Ty.Ao] at hs
 ·cases h;simp [Ty.Ao] at hs
 ·cases h;simp [Ty.Ao] at hs
 ·cases h;simp [Ty.Ao] at hs
 ·cases h;simp [Ty.Ao] at hs
 ·cases h;simp [Ty.Ao] at hs
 ·cases h;simp [Ty.Ao] at hs
 ·cases h;simp [Ty.Ao] at hs
 ·cases h;simp [Ty.Ao] at hs
 ·cases h;simp [Ty.Ao] at hs
 ·cases h;simp [Ty.Ao] at hs
 ·cases h;simp [Ty.Ao] at hs
 ·cases h;simp [Ty.Ao] at hs
 ·exact Wf (by kernel_rfl) (Oq 48) (λw=>by kernel_rfl) (all _)
 ·exact Wf (by kernel_rfl) (Oq 29) (λw=>by kernel_rfl) (all _)
 ·exact Wf (by kernel_rfl) (Oq 84) (λw=>by kernel_rfl) (all _)
 ·exact Wf (by kernel_rfl) (Oq 198) (λw=>by kernel_rfl) (all _)
 ·exact Wf (by kernel_rfl) (Oq 189) (λw=>by kernel_rfl) (all _)
 ·exact Wf (by kernel_rfl) (Oq 102) (λw=>by kernel_rfl) (all _)
 ·cases h;simp [Ty.Ao] at hs
 ·exact Wf (by kernel_rfl) (Oq 123) (λw=>by kernel_rfl) (all _)
 ·cases h;simp [Ty.Ao] at hs
 ·exact Wf (by kernel_rfl) (Oq 171) (λw=>by kernel_rfl) (all _)
 ·cases h;simp [Ty.Ao] at hs
 ·exact Wf (by kernel_rfl) (Oq 141) (λw=>by kernel_rfl) (all _)
 ·cases h;simp [Ty.Ao] at hs
 ·cases h;simp [Ty.Ao] at hs
 ·cases h;simp [Ty.Ao] at hs
 ·exact Wf (by kernel_rfl) (Oq 75) (λw=>by kernel_rfl) (all _)
 ·exact Wf (by kernel_rfl) (Oq 64) (λw=>by kernel_rfl) (all _)
 ·cases h;simp [Ty.Ao] at hs
 ·cases h
theorem Ew:Dz Try.prog Hf:=⟨Aeo,Abh,Aen,Ajk,Ajm⟩
def Xe:Tab:= {Hf with sX:=true,BH:=true}
theorem Uy:Dz Try.prog Xe:=Ew.flags true true
def Ajo:Tab:= {Xe with marks:= [Pf]}
theorem Ajp:Dz Try.prog Ajo:=Uy.kA [Pf]
def BD (l:List Nat):Tab:= {Xe with marks:=l}
theorem BE (l:List Nat):Dz Try.prog (BD l):=Uy.kA l
theorem mixed:Try.prog.follows .mixedOrders=true:=by kernel_rfl
end Go.Proofs.Ytkkdpknjohcekaa
