/-
  Part 36 of the proof that the statement FnExactMethodLength holds.
-/
import Derived.Test.YtjbdmibbbpdnnaaCMethodLength34
import Derived.Test.YtjbdmibbbpdnnaaProg
import Derived.KernelRfl
namespace Go.Proofs.Ytjbdmibbbpdnnaa
open Go.RowKit
abbrev tI:Ty:= .int .i64
abbrev tL:Ty:= .slice tI
abbrev bC:Ty:= .slice tL
abbrev gr:Ty:= .pair tL (.pair bC (.pair tL .unit))
abbrev Dc:Ty:= .pair tI (.pair .str (.pair bC .unit))
abbrev Ww:Ty:= .pair bC (.pair tL (.pair tL (.pair .bool .unit)))
abbrev MT:Ty:= .pair tI (.pair (.slice bC) (.pair (.slice bC) .unit))
abbrev Wv:Ty:= .pair Dc (.pair bC (.pair tL (.pair (.smap tI) (.pair tL (.pair tL (.pair bC .unit))))))
abbrev CW:Ty:= .pair (.optr Wv) (.pair tL (.pair (.optr Wv) .unit))
abbrev CV:Ty:= .pair (.slice gr) (.pair (.slice (.smap tI)) .unit)
abbrev uk:Ty:= .pair tI (.pair tI (.pair tI .unit))
def Co:Tab where
 ty:= λt=>match t with
  |2=>some tI
  |3=>some tI
  |4=>some .bool
  |5=>some (.int .u8)
  |9=>some .str
  |25=>some tL
  |22=>some bC
  |163=>some (.slice (.int .u8))
  |150=>some (.slice .bool)
  |60=>some tL
  |177=>some (.slice bC)
  |51=>some (.slice gr)
  |54=>some (.slice gr)
  |146=>some (.slice (.smap tI))
  |77=>some (.smap tI)
  |189=>some (.smap .bool)
  |105=>some gr
  |108=>some gr
  |24=>some Dc
  |28=>some Dc
  |62=>some Ww
  |179=>some MT
  |79=>some Wv
  |74=>some (.optr Wv)
  |76=>some CW
  |67=>some (.optr CW)
  |148=>some CV
  |110=>some (.optr CV)
  |118=>some uk
  |119=>some (.slice uk)
  |120=>some (.slice (.slice uk))
  |_=>none
 elem:= λt=>match t with
  |25=>some 2
  |22=>some 25
  |163=>some 5
  |150=>some 4
  |60=>some 3
  |177=>some 22
  |51=>some 105
  |54=>some 108
  |146=>some 77
  |119=>some 118
  |120=>some 119
  |_=>none
 mapOf:= λt=>match t with
  |77=>some tI
  |189=>some .bool
  |_=>none
 off:= λs f=>match s,f with
  |105,0=>some (0,25)
  |105,1=>some (1,22)
  |105,2=>some (2,25)
  |108,0=>some (0,25)
  |108,1=>some (1,22)
  |108,2=>some (2,25)
  |24,0=>some (0,2)
  |24,1=>some (1,9)
  |24,2=>some (2,22)
  |28,0=>some (0,2)
  |28,1=>some (1,9)
  |28,2=>some (2,22)
  |62,0=>some (0,22)
  |62,1=>some (1,25)
  |62,2=>some (2,60)
  |62,3=>some (3,4)
  |179,0=>some (0,2)
  |179,1=>some (1,177)
  |179,2=>some (2,177)
  |79,0=>some (0,28)
  |79,1=>some (3,22)
  |79,2=>some (4,25)
  |79,3=>some (5,77)
  |79,4=>some (6,25)
  |79,5=>some (7,25)
  |79,6=>some (8,22)
  |76,0=>some (0,74)
  |76,1=>some (1,25)
  |76,2=>some (2,74)
  |148,0=>some (0,54)
  |148,1=>some (1,146)
  |118,0=>some (0,2)
  |118,1=>some (1,3)
  |118,2=>some (2,2)
  |_,_=>none
def fieldsOf (P:Program) (s:TypeId):Array Field:=match P.underlying s with|some (.struct fs)=>fs|_=> #[]
theorem Bu {P:Program} {t:TypeId} {τ:Ty} {b:Nat} (h:(P.info? t).map (λi=>(i.size,i.bytes,i.zero))=some (τ.size,b,some (As τ (Ar τ)))) (hb:b<=256):
  ∃i:TypeInfo,P.info? t=some i/\i.size=τ.size/\i.bytes<=256/\i.zero=some (As τ (Ar τ)):=by
 cases hi:P.info? t with
 |none=>rw [hi] at h;cases h
 |some i=>
  rw [hi] at h
  simp only [Option.map_some,Option.some.injEq,Prod.mk.injEq] at h
  exact ⟨i,rfl,h.1,by rw [h.2.1];exact hb,h.2.2⟩
theorem tT {P:Program} {t:TypeId} (h:((P.info? t).map λi=>i.size==0)=some false): ∃i:TypeInfo,P.info? t=some i/\i.size≠0:=by
 cases hi:P.info? t with
 |none=>rw [hi] at h;cases h
 |some i=>rw [hi] at h;simp only [Option.map_some,Option.some.injEq] at h;exact ⟨i,rfl,by simpa using h⟩
theorem MX: ∀t τ,Co.ty t=some τ->ja Try.prog Co t τ:=by
 intro t τ h
 simp only [Co] at h
 split at h
 ·cases h;exact ⟨Bu (b:=8) (by kernel_rfl) (by omega),(by kernel_rfl:Try.prog.underlying 2=some (.int .i64))⟩
 ·cases h;exact ⟨Bu (b:=8) (by kernel_rfl) (by omega),(by kernel_rfl:Try.prog.underlying 3=some (.int .i64))⟩
 ·cases h;exact ⟨Bu (b:=1) (by kernel_rfl) (by omega),(by kernel_rfl:Try.prog.underlying 4=some (.bool))⟩
 ·cases h;exact ⟨Bu (b:=1) (by kernel_rfl) (by omega),(by kernel_rfl:Try.prog.underlying 5=some (.int .u8))⟩
 ·cases h;exact ⟨Bu (b:=16) (by kernel_rfl) (by omega),(by kernel_rfl:Try.prog.underlying 9=some (.string))⟩
 ·cases h;exact ⟨Bu (b:=24) (by kernel_rfl) (by omega),⟨2,by kernel_rfl,rfl,rfl⟩⟩
 ·cases h;exact ⟨Bu (b:=24) (by kernel_rfl) (by omega),⟨25,by kernel_rfl,rfl,rfl⟩⟩
 ·cases h;exact ⟨Bu (b:=24) (by kernel_rfl) (by omega),⟨5,by kernel_rfl,rfl,rfl⟩⟩
 ·cases h;exact ⟨Bu (b:=24) (by kernel_rfl) (by omega),⟨4,by kernel_rfl,rfl,rfl⟩⟩
 ·cases h;exact ⟨Bu (b:=24) (by kernel_rfl) (by omega),⟨3,by kernel_rfl,rfl,rfl⟩⟩
 ·cases h;exact ⟨Bu (b:=24) (by kernel_rfl) (by omega),⟨22,by kernel_rfl,rfl,rfl⟩⟩
 ·cases h;exact ⟨Bu (b:=24) (by kernel_rfl) (by omega),⟨105,by kernel_rfl,rfl,rfl⟩⟩
 ·cases h;exact ⟨Bu (b:=24) (by kernel_rfl) (by omega),⟨108,by kernel_rfl,rfl,rfl⟩⟩
 ·cases h;exact ⟨Bu (b:=24) (by kernel_rfl) (by omega),⟨77,by kernel_rfl,rfl,rfl⟩⟩
 ·cases h;exact ⟨Bu (b:=8) (by kernel_rfl) (by omega),⟨9,2,by kernel_rfl⟩⟩
 ·cases h;exact ⟨Bu (b:=8) (by kernel_rfl) (by omega),⟨9,4,by kernel_rfl⟩⟩
 ·cases h;exact ⟨Bu (b:=72) (by kernel_rfl) (by omega),⟨fieldsOf Try.prog 105,by kernel_rfl⟩⟩
 ·cases h;exact ⟨Bu (b:=72) (by kernel_rfl) (by omega),⟨fieldsOf Try.prog 108,by kernel_rfl⟩⟩
 ·cases h;exact ⟨Bu (b:=48) (by kernel_rfl) (by omega),⟨fieldsOf Try.prog 24,by kernel_rfl⟩⟩
 ·cases h;exact ⟨Bu (b:=48) (by kernel_rfl) (by omega),⟨fieldsOf Try.prog 28,by kernel_rfl⟩⟩
 ·cases h;exact ⟨Bu (b:=80) (by kernel_rfl) (by omega),⟨fieldsOf Try.prog 62,by kernel_rfl⟩⟩
 ·cases h;exact ⟨Bu (b:=56) (by kernel_rfl) (by omega),⟨fieldsOf Try.prog 179,by kernel_rfl⟩⟩
 ·cases h;exact ⟨Bu (b:=176) (by kernel_rfl) (by omega),⟨fieldsOf Try.prog 79,by kernel_rfl⟩⟩
 ·cases h;exact ⟨Bu (b:=8) (by kernel_rfl) (by omega),⟨79,by kernel_rfl⟩⟩
 ·cases h;exact ⟨Bu (b:=40) (by kernel_rfl) (by omega),⟨fieldsOf Try.prog 76,by kernel_rfl⟩⟩
 ·cases h;exact ⟨Bu (b:=8) (by kernel_rfl) (by omega),⟨76,by kernel_rfl⟩⟩
 ·cases h;exact ⟨Bu (b:=48) (by kernel_rfl) (by omega),⟨fieldsOf Try.prog 148,by kernel_rfl⟩⟩
 ·cases h;exact ⟨Bu (b:=8) (by kernel_rfl) (by omega),⟨148,by kernel_rfl⟩⟩
 ·cases h;exact ⟨Bu (b:=24) (by kernel_rfl) (by omega),⟨fieldsOf Try.prog 118,by kernel_rfl⟩⟩
 ·cases h;exact ⟨Bu (b:=24) (by kernel_rfl) (by omega),⟨118,by kernel_rfl,rfl,rfl⟩⟩
 ·cases h;exact ⟨Bu (b:=24) (by kernel_rfl) (by omega),⟨119,by kernel_rfl,rfl,rfl⟩⟩
 ·cases h
theorem RR: ∀t te,Co.elem t=some te->Try.prog.underlying t=some (.slice te):=by
 intro t te h
 simp only [Co] at h
 split at h
 ·cases h;kernel_rfl
 ·cases h;kernel_rfl
 ·cases h;kernel_rfl
 ·cases h;kernel_rfl
 ·cases h;kernel_rfl
 ·cases h;kernel_rfl
 ·cases h;kernel_rfl
 ·cases h;kernel_rfl
 ·cases h;kernel_rfl
 ·cases h;kernel_rfl
 ·cases h;kernel_rfl
 ·cases h
theorem XZ: ∀t v,Co.mapOf t=some v-> ∃k e,Try.prog.underlying t=some (.map k e)/\Try.prog.underlying k=some .string/\Co.ty e=some v/\v.flat=true/\v.Ac=false:=by
 intro t v h
 simp only [Co] at h
 split at h
 ·cases h;exact ⟨9,2,by kernel_rfl,by kernel_rfl,rfl,rfl,rfl⟩
 ·cases h;exact ⟨9,4,by kernel_rfl,by kernel_rfl,rfl,rfl,rfl⟩
 ·cases h
theorem Dw {P:Program} {s:TypeId} {f o:Nat} {t:TypeId} (hu:P.underlying s=some (.struct (fieldsOf P s))) (hf:((fieldsOf P s)[f]?).map (λfd=>(fd.offset,fd.type))=some (o,t)) (hi:((P.info? t).map λi=>i.size==0)=some false):
  ∃(fs:Array Field) (fd:Field),P.underlying s=some (.struct fs)/\fs[f]?=some fd/\fd.offset=o/\fd.type=t/\ ∃i:TypeInfo,P.info? t=some i/\i.size≠0:=by
 cases h:(fieldsOf P s)[f]? with
 |none=>rw [h] at hf;cases hf
 |some fd=>
  rw [h] at hf
  simp only [Option.map_some,Option.some.injEq,Prod.mk.injEq] at hf
  exact ⟨fieldsOf P s,fd,hu,h,hf.1,hf.2,tT hi⟩
theorem YB: ∀s f o t,Co.off s f=some (o,t)-> ∃(fs:Array Field) (fd:Field),Try.prog.underlying s=some (.struct fs)/\fs[f]?=some fd/\fd.offset=o/\fd.type=t/\ ∃i:TypeInfo,Try.prog.info? t=some i/\i.size≠0:=by
 intro s f o t h
 simp only [Co] at h
 split at h
 ·cases h;exact Dw (by kernel_rfl) (by kernel_rfl) (by kernel_rfl)
 ·cases h;exact Dw (by kernel_rfl) (by kernel_rfl) (by kernel_rfl)
 ·cases h;exact Dw (by kernel_rfl) (by kernel_rfl) (by kernel_rfl)
 ·cases h;exact Dw (by kernel_rfl) (by kernel_rfl) (by kernel_rfl)
 ·cases h;exact Dw (by kernel_rfl) (by kernel_rfl) (by kernel_rfl)
 ·cases h;exact Dw (by kernel_rfl) (by kernel_rfl) (by kernel_rfl)
 ·cases h;exact Dw (by kernel_rfl) (by kernel_rfl) (by kernel_rfl)
 ·cases h;exact Dw (by kernel_rfl) (by kernel_rfl) (by kernel_rfl)
 ·cases h;exact Dw (by kernel_rfl) (by kernel_rfl) (by kernel_rfl)
 ·cases h;exact Dw (by kernel_rfl) (by kernel_rfl) (by kernel_rfl)
 ·cases h;exact Dw (by kernel_rfl) (by kernel_rfl) (by kernel_rfl)
 ·cases h;exact Dw (by kernel_rfl) (by kernel_rfl) (by kernel_rfl)
 ·cases h;exact Dw (by kernel_rfl) (by kernel_rfl) (by kernel_rfl)
 ·cases h;exact Dw (by kernel_rfl) (by kernel_rfl) (by kernel_rfl)
 ·cases h;exact Dw (by kernel_rfl) (by kernel_rfl) (by kernel_rfl)
 ·cases h;exact Dw (by kernel_rfl) (by kernel_rfl) (by kernel_rfl)
 ·cases h;exact Dw (by kernel_rfl) (by kernel_rfl) (by kernel_rfl)
 ·cases h;exact Dw (by kernel_rfl) (by kernel_rfl) (by kernel_rfl)
 ·cases h;exact Dw (by kernel_rfl) (by kernel_rfl) (by kernel_rfl)
 ·cases h;exact Dw (by kernel_rfl) (by kernel_rfl) (by kernel_rfl)
 ·cases h;exact Dw (by kernel_rfl) (by kernel_rfl) (by kernel_rfl)
 ·cases h;exact Dw (by kernel_rfl) (by kernel_rfl) (by kernel_rfl)
 ·cases h;exact Dw (by kernel_rfl) (by kernel_rfl) (by kernel_rfl)
 ·cases h;exact Dw (by kernel_rfl) (by kernel_rfl) (by kernel_rfl)
 ·cases h;exact Dw (by kernel_rfl) (by kernel_rfl) (by kernel_rfl)
 ·cases h;exact Dw (by kernel_rfl) (by kernel_rfl) (by kernel_rfl)
 ·cases h;exact Dw (by kernel_rfl) (by kernel_rfl) (by kernel_rfl)
 ·cases h;exact Dw (by kernel_rfl) (by kernel_rfl) (by kernel_rfl)
 ·cases h;exact Dw (by kernel_rfl) (by kernel_rfl) (by kernel_rfl)
 ·cases h;exact Dw (by kernel_rfl) (by kernel_rfl) (by kernel_rfl)
 ·cases h;exact Dw (by kernel_rfl) (by kernel_rfl) (by kernel_rfl)
 ·cases h;exact Dw (by kernel_rfl) (by kernel_rfl) (by kernel_rfl)
 ·cases h;exact Dw (by kernel_rfl) (by kernel_rfl) (by kernel_rfl)
 ·cases h;exact Dw (by kernel_rfl) (by kernel_rfl) (by kernel_rfl)
 ·cases h
theorem Rl {P:Program} {t:TypeId} (hu:P.underlying t=some (.struct (fieldsOf P t))) (He:Array (Nat×Nat)) (hp: ∀w,(placesOf (fieldsOf P t)).run P w= .ok He w)
  (h: ∀f o u ρ,Co.off t f=some (o,u)->Co.ty u=some ρ->He[f]?=some (o,ρ.size)):
  ∃(fs:Array Field) (He:Array (Nat×Nat)),P.underlying t=some (.struct fs)/\(∀w,(placesOf fs).run P w= .ok He w)/\ ∀f o u ρ,Co.off t f=some (o,u)->Co.ty u=some ρ->He[f]?=some (o,ρ.size):=
 ⟨fieldsOf P t,He,hu,hp,h⟩
def Mb (t:TypeId):Array (Nat×Nat):=match t with
 |105=> #[(0,1),(1,1),(2,1)]
 |108=> #[(0,1),(1,1),(2,1)]
 |24=> #[(0,1),(1,1),(2,1)]
 |28=> #[(0,1),(1,1),(2,1)]
 |62=> #[(0,1),(1,1),(2,1),(3,1)]
 |179=> #[(0,1),(1,1),(2,1)]
 |79=> #[(0,3),(3,1),(4,1),(5,1),(6,1),(7,1),(8,1)]
 |76=> #[(0,1),(1,1),(2,1)]
 |148=> #[(0,1),(1,1)]
 |118=> #[(0,1),(1,1),(2,1)]
 |_=> #[]
theorem RS: ∀t τ,Co.ty t=some τ->τ.Ac=true-> ∃(fs:Array Field) (He:Array (Nat×Nat)),Try.prog.underlying t=some (.struct fs)/\(∀w,(placesOf fs).run Try.prog w= .ok He w)/\
  ∀f o u ρ,Co.off t f=some (o,u)->Co.ty u=some ρ->He[f]?=some (o,ρ.size):=by
 intro t τ h hs
 have all: ∀t,∀f o u ρ,Co.off t f=some (o,u)->Co.ty u=some ρ->(Mb t)[f]?=some (o,ρ.size):=by
  intro t f o u ρ ho hu
  simp only [Co] at ho
  split at ho
  all_goals first
   |(cases ho;cases hu;rfl)
   |cases ho
 simp only [Co] at h
 split at h
 ·cases h;simp [Ty.Ac] at hs
 ·cases h;simp [Ty.Ac] at hs
 ·cases h;simp [Ty.Ac] at hs
 ·cases h;simp [Ty.Ac] at hs
 ·cases h;simp [Ty.Ac] at hs
 ·cases h;simp [Ty.Ac] at hs
 ·cases h;simp [Ty.Ac] at hs
 ·cases h;simp [Ty.Ac] at hs
 ·cases h;simp [Ty.Ac] at hs
 ·cases h;simp [Ty.Ac] at hs
 ·cases h;simp [Ty.Ac] at hs
 ·cases h;simp [Ty.Ac] at hs
 ·cases h;simp [Ty.Ac] at hs
 ·cases h;simp [Ty.Ac] at hs
 ·cases h;simp [Ty.Ac] at hs
 ·cases h;simp [Ty.Ac] at hs
 ·exact Rl (by kernel_rfl) (Mb 105) (λw=>by kernel_rfl) (all _)
 ·exact Rl (by kernel_rfl) (Mb 108) (λw=>by kernel_rfl) (all _)
 ·exact Rl (by kernel_rfl) (Mb 24) (λw=>by kernel_rfl) (all _)
 ·exact Rl (by kernel_rfl) (Mb 28) (λw=>by kernel_rfl) (all _)
 ·exact Rl (by kernel_rfl) (Mb 62) (λw=>by kernel_rfl) (all _)
 ·exact Rl (by kernel_rfl) (Mb 179) (λw=>by kernel_rfl) (all _)
 ·exact Rl (by kernel_rfl) (Mb 79) (λw=>by kernel_rfl) (all _)
 ·cases h;simp [Ty.Ac] at hs
 ·exact Rl (by kernel_rfl) (Mb 76) (λw=>by kernel_rfl) (all _)
 ·cases h;simp [Ty.Ac] at hs
 ·exact Rl (by kernel_rfl) (Mb 148) (λw=>by kernel_rfl) (all _)
 ·cases h;simp [Ty.Ac] at hs
 ·exact Rl (by kernel_rfl) (Mb 118) (λw=>by kernel_rfl) (all _)
 ·cases h;simp [Ty.Ac] at hs
 ·cases h;simp [Ty.Ac] at hs
 ·cases h
theorem Bj:Cd Try.prog Co:=⟨RS,MX,RR,XZ,YB⟩
def um:Tab:= {Co with mK:=true,ur:=true}
theorem oI:Cd Try.prog um:=Bj.flags true true
def YD:Tab:= {um with marks:= [Sp]}
theorem YE:Cd Try.prog YD:=oI.kq [Sp]
def XX (l:List Nat):Tab:= {um with marks:=l}
theorem XY (l:List Nat):Cd Try.prog (XX l):=oI.kq l
theorem mixed:Try.prog.follows .mixedOrders=true:=by kernel_rfl
end Go.Proofs.Ytjbdmibbbpdnnaa
