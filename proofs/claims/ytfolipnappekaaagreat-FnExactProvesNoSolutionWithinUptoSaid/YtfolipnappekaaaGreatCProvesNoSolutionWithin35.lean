/-
  Part 36 of the proof that the statement FnExactProvesNoSolutionWithin holds.
-/
import Derived.Test.YtfolipnappekaaaGreatCProvesNoSolutionWithin34
import Derived.Test.YtfolipnappekaaaGreatProg
import Derived.KernelRfl
namespace Go.Proofs.YtfolipnappekaaaGreat
open Go.RowKit
abbrev tI:Ty:= .int .i64
abbrev tL:Ty:= .slice tI
abbrev cZ:Ty:= .slice tL
abbrev Gz:Ty:= .pair tL (.pair cZ (.pair tL .unit))
abbrev Cp:Ty:= .pair tI (.pair .str (.pair cZ .unit))
abbrev fS:Ty:= .pair cZ (.pair tL (.pair tL (.pair .bool .unit)))
abbrev xH:Ty:= .pair tI (.pair (.slice cZ) (.pair (.slice cZ) .unit))
abbrev Abe:Ty:= .pair Cp (.pair cZ (.pair tL (.pair (.smap tI) (.pair tL (.pair tL (.pair cZ .unit))))))
abbrev Uc:Ty:= .pair (.slice Gz) (.pair (.slice (.smap tI)) .unit)
abbrev nO:Ty:= .pair tI (.pair tI (.pair tL (.pair .bool (.pair .bool .unit))))
abbrev VF:Ty:= .pair Cp (.pair (.optr Uc) (.pair tI (.pair .bool (.pair tL (.pair tI (.pair tI (.pair .bool .unit)))))))
def Cd:Tab where
 ty:= λt=>match t with
  |2=>some tI
  |3=>some tI
  |4=>some .bool
  |5=>some (.int .u8)
  |9=>some .str
  |26=>some tL
  |22=>some cZ
  |118=>some (.slice (.int .u8))
  |97=>some tL
  |139=>some (.slice cZ)
  |25=>some (.slice Gz)
  |32=>some (.slice Gz)
  |93=>some (.slice (.smap tI))
  |73=>some (.smap tI)
  |162=>some (.smap .bool)
  |54=>some Gz
  |58=>some Gz
  |24=>some Cp
  |30=>some Cp
  |99=>some fS
  |141=>some xH
  |153=>some xH
  |75=>some Abe
  |69=>some (.optr Abe)
  |95=>some Uc
  |60=>some (.optr Uc)
  |78=>some nO
  |84=>some VF
  |81=>some (.optr VF)
  |_=>none
 elem:= λt=>match t with
  |26=>some 2
  |22=>some 26
  |118=>some 5
  |97=>some 3
  |139=>some 22
  |25=>some 54
  |32=>some 58
  |93=>some 73
  |_=>none
 mapOf:= λt=>match t with
  |73=>some tI
  |162=>some .bool
  |_=>none
 off:= λs f=>match s,f with
  |54,0=>some (0,26)
  |54,1=>some (1,22)
  |54,2=>some (2,26)
  |58,0=>some (0,26)
  |58,1=>some (1,22)
  |58,2=>some (2,26)
  |24,0=>some (0,2)
  |24,1=>some (1,9)
  |24,2=>some (2,22)
  |30,0=>some (0,2)
  |30,1=>some (1,9)
  |30,2=>some (2,22)
  |99,0=>some (0,22)
  |99,1=>some (1,26)
  |99,2=>some (2,97)
  |99,3=>some (3,4)
  |141,0=>some (0,2)
  |141,1=>some (1,139)
  |141,2=>some (2,139)
  |153,0=>some (0,2)
  |153,1=>some (1,139)
  |153,2=>some (2,139)
  |75,0=>some (0,30)
  |75,1=>some (3,22)
  |75,2=>some (4,26)
  |75,3=>some (5,73)
  |75,4=>some (6,26)
  |75,5=>some (7,26)
  |75,6=>some (8,22)
  |95,0=>some (0,32)
  |95,1=>some (1,93)
  |78,0=>some (0,2)
  |78,1=>some (1,2)
  |78,2=>some (2,26)
  |78,3=>some (3,4)
  |78,4=>some (4,4)
  |84,0=>some (0,30)
  |84,1=>some (3,60)
  |84,2=>some (4,2)
  |84,3=>some (5,4)
  |84,4=>some (6,26)
  |84,5=>some (7,2)
  |84,6=>some (8,2)
  |84,7=>some (9,4)
  |_,_=>none
def fieldsOf (P:Program) (s:TypeId):Array Field:=match P.underlying s with|some (.struct fs)=>fs|_=> #[]
theorem Cc {P:Program} {t:TypeId} {τ:Ty} {b:Nat} (h:(P.info? t).map (λi=>(i.size,i.bytes,i.zero))=some (τ.size,b,some (Au τ (Ar τ)))) (hb:b<=256):
  ∃i:TypeInfo,P.info? t=some i/\i.size=τ.size/\i.bytes<=256/\i.zero=some (Au τ (Ar τ)):=by
 cases hi:P.info? t with
 |none=>rw [hi] at h;cases h
 |some i=>
  rw [hi] at h
  simp only [Option.map_some,Option.some.injEq,Prod.mk.injEq] at h
  exact ⟨i,rfl,h.1,by rw [h.2.1];exact hb,h.2.2⟩
theorem xm {P:Program} {t:TypeId} (h:((P.info? t).map λi=>i.size==0)=some false): ∃i:TypeInfo,P.info? t=some i/\i.size≠0:=by
 cases hi:P.info? t with
 |none=>rw [hi] at h;cases h
 |some i=>rw [hi] at h;simp only [Option.map_some,Option.some.injEq] at h;exact ⟨i,rfl,by simpa using h⟩
theorem VM: ∀t τ,Cd.ty t=some τ->lp Tryz.prog Cd t τ:=by
 intro t τ h
 simp only [Cd] at h
 split at h
 ·cases h;exact ⟨Cc (b:=8) (by kernel_rfl) (by omega),(by kernel_rfl:Tryz.prog.underlying 2=some (.int .i64))⟩
 ·cases h;exact ⟨Cc (b:=8) (by kernel_rfl) (by omega),(by kernel_rfl:Tryz.prog.underlying 3=some (.int .i64))⟩
 ·cases h;exact ⟨Cc (b:=1) (by kernel_rfl) (by omega),(by kernel_rfl:Tryz.prog.underlying 4=some (.bool))⟩
 ·cases h;exact ⟨Cc (b:=1) (by kernel_rfl) (by omega),(by kernel_rfl:Tryz.prog.underlying 5=some (.int .u8))⟩
 ·cases h;exact ⟨Cc (b:=16) (by kernel_rfl) (by omega),(by kernel_rfl:Tryz.prog.underlying 9=some (.string))⟩
 ·cases h;exact ⟨Cc (b:=24) (by kernel_rfl) (by omega),⟨2,by kernel_rfl,rfl,rfl⟩⟩
 ·cases h;exact ⟨Cc (b:=24) (by kernel_rfl) (by omega),⟨26,by kernel_rfl,rfl,rfl⟩⟩
 ·cases h;exact ⟨Cc (b:=24) (by kernel_rfl) (by omega),⟨5,by kernel_rfl,rfl,rfl⟩⟩
 ·cases h;exact ⟨Cc (b:=24) (by kernel_rfl) (by omega),⟨3,by kernel_rfl,rfl,rfl⟩⟩
 ·cases h;exact ⟨Cc (b:=24) (by kernel_rfl) (by omega),⟨22,by kernel_rfl,rfl,rfl⟩⟩
 ·cases h;exact ⟨Cc (b:=24) (by kernel_rfl) (by omega),⟨54,by kernel_rfl,rfl,rfl⟩⟩
 ·cases h;exact ⟨Cc (b:=24) (by kernel_rfl) (by omega),⟨58,by kernel_rfl,rfl,rfl⟩⟩
 ·cases h;exact ⟨Cc (b:=24) (by kernel_rfl) (by omega),⟨73,by kernel_rfl,rfl,rfl⟩⟩
 ·cases h;exact ⟨Cc (b:=8) (by kernel_rfl) (by omega),⟨9,2,by kernel_rfl⟩⟩
 ·cases h;exact ⟨Cc (b:=8) (by kernel_rfl) (by omega),⟨9,4,by kernel_rfl⟩⟩
 ·cases h;exact ⟨Cc (b:=72) (by kernel_rfl) (by omega),⟨fieldsOf Tryz.prog 54,by kernel_rfl⟩⟩
 ·cases h;exact ⟨Cc (b:=72) (by kernel_rfl) (by omega),⟨fieldsOf Tryz.prog 58,by kernel_rfl⟩⟩
 ·cases h;exact ⟨Cc (b:=48) (by kernel_rfl) (by omega),⟨fieldsOf Tryz.prog 24,by kernel_rfl⟩⟩
 ·cases h;exact ⟨Cc (b:=48) (by kernel_rfl) (by omega),⟨fieldsOf Tryz.prog 30,by kernel_rfl⟩⟩
 ·cases h;exact ⟨Cc (b:=80) (by kernel_rfl) (by omega),⟨fieldsOf Tryz.prog 99,by kernel_rfl⟩⟩
 ·cases h;exact ⟨Cc (b:=56) (by kernel_rfl) (by omega),⟨fieldsOf Tryz.prog 141,by kernel_rfl⟩⟩
 ·cases h;exact ⟨Cc (b:=56) (by kernel_rfl) (by omega),⟨fieldsOf Tryz.prog 153,by kernel_rfl⟩⟩
 ·cases h;exact ⟨Cc (b:=176) (by kernel_rfl) (by omega),⟨fieldsOf Tryz.prog 75,by kernel_rfl⟩⟩
 ·cases h;exact ⟨Cc (b:=8) (by kernel_rfl) (by omega),⟨75,by kernel_rfl⟩⟩
 ·cases h;exact ⟨Cc (b:=48) (by kernel_rfl) (by omega),⟨fieldsOf Tryz.prog 95,by kernel_rfl⟩⟩
 ·cases h;exact ⟨Cc (b:=8) (by kernel_rfl) (by omega),⟨95,by kernel_rfl⟩⟩
 ·cases h;exact ⟨Cc (b:=48) (by kernel_rfl) (by omega),⟨fieldsOf Tryz.prog 78,by kernel_rfl⟩⟩
 ·cases h;exact ⟨Cc (b:=120) (by kernel_rfl) (by omega),⟨fieldsOf Tryz.prog 84,by kernel_rfl⟩⟩
 ·cases h;exact ⟨Cc (b:=8) (by kernel_rfl) (by omega),⟨84,by kernel_rfl⟩⟩
 ·cases h
theorem ZE: ∀t te,Cd.elem t=some te->Tryz.prog.underlying t=some (.slice te):=by
 intro t te h
 simp only [Cd] at h
 split at h
 ·cases h;kernel_rfl
 ·cases h;kernel_rfl
 ·cases h;kernel_rfl
 ·cases h;kernel_rfl
 ·cases h;kernel_rfl
 ·cases h;kernel_rfl
 ·cases h;kernel_rfl
 ·cases h;kernel_rfl
 ·cases h
theorem Aeh: ∀t v,Cd.mapOf t=some v-> ∃k e,Tryz.prog.underlying t=some (.map k e)/\Tryz.prog.underlying k=some .string/\Cd.ty e=some v/\v.flat=true/\v.Ac=false:=by
 intro t v h
 simp only [Cd] at h
 split at h
 ·cases h;exact ⟨9,2,by kernel_rfl,by kernel_rfl,rfl,rfl,rfl⟩
 ·cases h;exact ⟨9,4,by kernel_rfl,by kernel_rfl,rfl,rfl,rfl⟩
 ·cases h
theorem Cj {P:Program} {s:TypeId} {f o:Nat} {t:TypeId} (hu:P.underlying s=some (.struct (fieldsOf P s))) (hf:((fieldsOf P s)[f]?).map (λfd=>(fd.offset,fd.type))=some (o,t)) (hi:((P.info? t).map λi=>i.size==0)=some false):
  ∃(fs:Array Field) (fd:Field),P.underlying s=some (.struct fs)/\fs[f]?=some fd/\fd.offset=o/\fd.type=t/\ ∃i:TypeInfo,P.info? t=some i/\i.size≠0:=by
 cases h:(fieldsOf P s)[f]? with
 |none=>rw [h] at hf;cases hf
 |some fd=>
  rw [h] at hf
  simp only [Option.map_some,Option.some.injEq,Prod.mk.injEq] at hf
  exact ⟨fieldsOf P s,fd,hu,h,hf.1,hf.2,xm hi⟩
theorem Aej: ∀s f o t,Cd.off s f=some (o,t)-> ∃(fs:Array Field) (fd:Field),Tryz.prog.underlying s=some (.struct fs)/\fs[f]?=some fd/\fd.offset=o/\fd.type=t/\ ∃i:TypeInfo,Tryz.prog.info? t=some i/\i.size≠0:=by
 intro s f o t h
 simp only [Cd] at h
 split at h
 ·cases h;exact Cj (by kernel_rfl) (by kernel_rfl) (by kernel_rfl)
 ·cases h;exact Cj (by kernel_rfl) (by kernel_rfl) (by kernel_rfl)
 ·cases h;exact Cj (by kernel_rfl) (by kernel_rfl) (by kernel_rfl)
 ·cases h;exact Cj (by kernel_rfl) (by kernel_rfl) (by kernel_rfl)
 ·cases h;exact Cj (by kernel_rfl) (by kernel_rfl) (by kernel_rfl)
 ·cases h;exact Cj (by kernel_rfl) (by kernel_rfl) (by kernel_rfl)
 ·cases h;exact Cj (by kernel_rfl) (by kernel_rfl) (by kernel_rfl)
 ·cases h;exact Cj (by kernel_rfl) (by kernel_rfl) (by kernel_rfl)
 ·cases h;exact Cj (by kernel_rfl) (by kernel_rfl) (by kernel_rfl)
 ·cases h;exact Cj (by kernel_rfl) (by kernel_rfl) (by kernel_rfl)
 ·cases h;exact Cj (by kernel_rfl) (by kernel_rfl) (by kernel_rfl)
 ·cases h;exact Cj (by kernel_rfl) (by kernel_rfl) (by kernel_rfl)
 ·cases h;exact Cj (by kernel_rfl) (by kernel_rfl) (by kernel_rfl)
 ·cases h;exact Cj (by kernel_rfl) (by kernel_rfl) (by kernel_rfl)
 ·cases h;exact Cj (by kernel_rfl) (by kernel_rfl) (by kernel_rfl)
 ·cases h;exact Cj (by kernel_rfl) (by kernel_rfl) (by kernel_rfl)
 ·cases h;exact Cj (by kernel_rfl) (by kernel_rfl) (by kernel_rfl)
 ·cases h;exact Cj (by kernel_rfl) (by kernel_rfl) (by kernel_rfl)
 ·cases h;exact Cj (by kernel_rfl) (by kernel_rfl) (by kernel_rfl)
 ·cases h;exact Cj (by kernel_rfl) (by kernel_rfl) (by kernel_rfl)
 ·cases h;exact Cj (by kernel_rfl) (by kernel_rfl) (by kernel_rfl)
 ·cases h;exact Cj (by kernel_rfl) (by kernel_rfl) (by kernel_rfl)
 ·cases h;exact Cj (by kernel_rfl) (by kernel_rfl) (by kernel_rfl)
 ·cases h;exact Cj (by kernel_rfl) (by kernel_rfl) (by kernel_rfl)
 ·cases h;exact Cj (by kernel_rfl) (by kernel_rfl) (by kernel_rfl)
 ·cases h;exact Cj (by kernel_rfl) (by kernel_rfl) (by kernel_rfl)
 ·cases h;exact Cj (by kernel_rfl) (by kernel_rfl) (by kernel_rfl)
 ·cases h;exact Cj (by kernel_rfl) (by kernel_rfl) (by kernel_rfl)
 ·cases h;exact Cj (by kernel_rfl) (by kernel_rfl) (by kernel_rfl)
 ·cases h;exact Cj (by kernel_rfl) (by kernel_rfl) (by kernel_rfl)
 ·cases h;exact Cj (by kernel_rfl) (by kernel_rfl) (by kernel_rfl)
 ·cases h;exact Cj (by kernel_rfl) (by kernel_rfl) (by kernel_rfl)
 ·cases h;exact Cj (by kernel_rfl) (by kernel_rfl) (by kernel_rfl)
 ·cases h;exact Cj (by kernel_rfl) (by kernel_rfl) (by kernel_rfl)
 ·cases h;exact Cj (by kernel_rfl) (by kernel_rfl) (by kernel_rfl)
 ·cases h;exact Cj (by kernel_rfl) (by kernel_rfl) (by kernel_rfl)
 ·cases h;exact Cj (by kernel_rfl) (by kernel_rfl) (by kernel_rfl)
 ·cases h;exact Cj (by kernel_rfl) (by kernel_rfl) (by kernel_rfl)
 ·cases h;exact Cj (by kernel_rfl) (by kernel_rfl) (by kernel_rfl)
 ·cases h;exact Cj (by kernel_rfl) (by kernel_rfl) (by kernel_rfl)
 ·cases h;exact Cj (by kernel_rfl) (by kernel_rfl) (by kernel_rfl)
 ·cases h;exact Cj (by kernel_rfl) (by kernel_rfl) (by kernel_rfl)
 ·cases h;exact Cj (by kernel_rfl) (by kernel_rfl) (by kernel_rfl)
 ·cases h;exact Cj (by kernel_rfl) (by kernel_rfl) (by kernel_rfl)
 ·cases h
theorem Qr {P:Program} {t:TypeId} (hu:P.underlying t=some (.struct (fieldsOf P t))) (Hi:Array (Nat×Nat)) (hp: ∀w,(placesOf (fieldsOf P t)).run P w= .ok Hi w)
  (h: ∀f o u ρ,Cd.off t f=some (o,u)->Cd.ty u=some ρ->Hi[f]?=some (o,ρ.size)):
  ∃(fs:Array Field) (Hi:Array (Nat×Nat)),P.underlying t=some (.struct fs)/\(∀w,(placesOf fs).run P w= .ok Hi w)/\ ∀f o u ρ,Cd.off t f=some (o,u)->Cd.ty u=some ρ->Hi[f]?=some (o,ρ.size):=
 ⟨fieldsOf P t,Hi,hu,hp,h⟩
def Ju (t:TypeId):Array (Nat×Nat):=match t with
 |54=> #[(0,1),(1,1),(2,1)]
 |58=> #[(0,1),(1,1),(2,1)]
 |24=> #[(0,1),(1,1),(2,1)]
 |30=> #[(0,1),(1,1),(2,1)]
 |99=> #[(0,1),(1,1),(2,1),(3,1)]
 |141=> #[(0,1),(1,1),(2,1)]
 |153=> #[(0,1),(1,1),(2,1)]
 |75=> #[(0,3),(3,1),(4,1),(5,1),(6,1),(7,1),(8,1)]
 |95=> #[(0,1),(1,1)]
 |78=> #[(0,1),(1,1),(2,1),(3,1),(4,1)]
 |84=> #[(0,3),(3,1),(4,1),(5,1),(6,1),(7,1),(8,1),(9,1)]
 |_=> #[]
theorem ZF: ∀t τ,Cd.ty t=some τ->τ.Ac=true-> ∃(fs:Array Field) (Hi:Array (Nat×Nat)),Tryz.prog.underlying t=some (.struct fs)/\(∀w,(placesOf fs).run Tryz.prog w= .ok Hi w)/\
  ∀f o u ρ,Cd.off t f=some (o,u)->Cd.ty u=some ρ->Hi[f]?=some (o,ρ.size):=by
 intro t τ h hs
 have all: ∀t,∀f o u ρ,Cd.off t f=some (o,u)->Cd.ty u=some ρ->(Ju t)[f]?=some (o,ρ.size):=by
  intro t f o u ρ ho hu
  simp only [Cd] at ho
  split at ho
  all_goals first
   |(cases ho;cases hu;rfl)
   |cases ho
 simp only [Cd] at h
 split at h
 ·cases h;simp [Ty.Ac] at hs
 ·cases h;simp [Ty.Ac] at hs
 ·cases h;simp [Ty.Ac] at hs
 ·cases h;simp [Ty.Ac] at hs
 ·cases h;simp [Ty.Ac] at hs
 ·cases h;simp [Ty.Ac] at hs
 ·cases h;simp [Ty.Ac] at hs
 ·cases h;simp [Ty.Ac] at hs
 ·cases h;simp [Ty.Ac] at hs
 ·cases h;simp [Ty.Ac] at hs
 ·cases h;simp [Ty.Ac] at hs
 ·cases h;simp [Ty.Ac] at hs
 ·cases h;simp [Ty.Ac] at hs
 ·cases h;simp [Ty.Ac] at hs
 ·cases h;simp [Ty.Ac] at hs
 ·exact Qr (by kernel_rfl) (Ju 54) (λw=>by kernel_rfl) (all _)
 ·exact Qr (by kernel_rfl) (Ju 58) (λw=>by kernel_rfl) (all _)
 ·exact Qr (by kernel_rfl) (Ju 24) (λw=>by kernel_rfl) (all _)
 ·exact Qr (by kernel_rfl) (Ju 30) (λw=>by kernel_rfl) (all _)
 ·exact Qr (by kernel_rfl) (Ju 99) (λw=>by kernel_rfl) (all _)
 ·exact Qr (by kernel_rfl) (Ju 141) (λw=>by kernel_rfl) (all _)
 ·exact Qr (by kernel_rfl) (Ju 153) (λw=>by kernel_rfl) (all _)
 ·exact Qr (by kernel_rfl) (Ju 75) (λw=>by kernel_rfl) (all _)
 ·cases h;simp [Ty.Ac] at hs
 ·exact Qr (by kernel_rfl) (Ju 95) (λw=>by kernel_rfl) (all _)
 ·cases h;simp [Ty.Ac] at hs
 ·exact Qr (by kernel_rfl) (Ju 78) (λw=>by kernel_rfl) (all _)
 ·exact Qr (by kernel_rfl) (Ju 84) (λw=>by kernel_rfl) (all _)
 ·cases h;simp [Ty.Ac] at hs
 ·cases h
theorem Bi:By Tryz.prog Cd:=⟨ZF,VM,ZE,Aeh,Aej⟩
def jh:Tab:= {Cd with pK:=true,xK:=true}
theorem eN:By Tryz.prog jh:=Bi.flags true true
def VN:Tab:= {jh with marks:= [Ol]}
theorem VO:By Tryz.prog VN:=eN.fV [Ol]
def HS (l:List Nat):Tab:= {jh with marks:=l}
theorem HT (l:List Nat):By Tryz.prog (HS l):=eN.fV l
theorem mixed:Tryz.prog.follows .mixedOrders=true:=by kernel_rfl
end Go.Proofs.YtfolipnappekaaaGreat
