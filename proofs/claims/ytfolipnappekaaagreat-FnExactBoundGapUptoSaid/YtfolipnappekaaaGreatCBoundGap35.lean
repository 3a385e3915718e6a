/-
  Part 36 of the proof that the statement FnExactBoundGap holds.
-/
import Derived.Test.YtfolipnappekaaaGreatCBoundGap34
import Derived.Test.YtfolipnappekaaaGreatProg
import Derived.KernelRfl
namespace Go.Proofs.YtfolipnappekaaaGreat
open Go.RowKit
abbrev tI:Ty:= .int .i64
abbrev tL:Ty:= .slice tI
abbrev cF:Ty:= .slice tL
abbrev Hp:Ty:= .pair tL (.pair cF (.pair tL .unit))
abbrev Cu:Ty:= .pair tI (.pair .str (.pair cF .unit))
abbrev Vb:Ty:= .pair cF (.pair tL (.pair tL (.pair .bool .unit)))
abbrev wF:Ty:= .pair tI (.pair (.slice cF) (.pair (.slice cF) .unit))
abbrev qp:Ty:= .pair Cu (.pair cF (.pair tL (.pair (.smap tI) (.pair tL (.pair tL (.pair cF .unit))))))
abbrev fb:Ty:= .pair (.slice Hp) (.pair (.slice (.smap tI)) .unit)
abbrev YX:Ty:= .pair tI (.pair tI (.pair tL (.pair .bool (.pair .bool .unit))))
abbrev YY:Ty:= .pair Cu (.pair (.optr fb) (.pair tI (.pair .bool (.pair tL (.pair tI (.pair tI (.pair .bool .unit)))))))
def Cf:Tab where
 ty:= λt=>match t with
  |2=>some tI
  |3=>some tI
  |4=>some .bool
  |5=>some (.int .u8)
  |9=>some .str
  |26=>some tL
  |22=>some cF
  |118=>some (.slice (.int .u8))
  |97=>some tL
  |139=>some (.slice cF)
  |25=>some (.slice Hp)
  |32=>some (.slice Hp)
  |93=>some (.slice (.smap tI))
  |73=>some (.smap tI)
  |162=>some (.smap .bool)
  |54=>some Hp
  |58=>some Hp
  |24=>some Cu
  |30=>some Cu
  |99=>some Vb
  |141=>some wF
  |153=>some wF
  |75=>some qp
  |69=>some (.optr qp)
  |95=>some fb
  |60=>some (.optr fb)
  |78=>some YX
  |84=>some YY
  |81=>some (.optr YY)
  |_=>none
 elem:= λt=>match t with
  |26=>some 2
  |22=>some 26
  |118=>some 5
  |97=>some 3
  |139=>some 22
  |25=>some 54
  |32=>some 58
  |93=>some 73
  |_=>none
 mapOf:= λt=>match t with
  |73=>some tI
  |162=>some .bool
  |_=>none
 off:= λs f=>match s,f with
  |54,0=>some (0,26)
  |54,1=>some (1,22)
  |54,2=>some (2,26)
  |58,0=>some (0,26)
  |58,1=>some (1,22)
  |58,2=>some (2,26)
  |24,0=>some (0,2)
  |24,1=>some (1,9)
  |24,2=>some (2,22)
  |30,0=>some (0,2)
  |30,1=>some (1,9)
  |30,2=>some (2,22)
  |99,0=>some (0,22)
  |99,1=>some (1,26)
  |99,2=>some (2,97)
  |99,3=>some (3,4)
  |141,0=>some (0,2)
  |141,1=>some (1,139)
  |141,2=>some (2,139)
  |153,0=>some (0,2)
  |153,1=>some (1,139)
  |153,2=>some (2,139)
  |75,0=>some (0,30)
  |75,1=>some (3,22)
  |75,2=>some (4,26)
  |75,3=>some (5,73)
  |75,4=>some (6,26)
  |75,5=>some (7,26)
  |75,6=>some (8,22)
  |95,0=>some (0,32)
  |95,1=>some (1,93)
  |78,0=>some (0,2)
  |78,1=>some (1,2)
  |78,2=>some (2,26)
  |78,3=>some (3,4)
  |78,4=>some (4,4)
  |84,0=>some (0,30)
  |84,1=>some (3,60)
  |84,2=>some (4,2)
  |84,3=>some (5,4)
  |84,4=>some (6,26)
  |84,5=>some (7,2)
  |84,6=>some (8,2)
  |84,7=>some (9,4)
  |_,_=>none
def fieldsOf (P:Program) (s:TypeId):Array Field:=match P.underlying s with|some (.struct fs)=>fs|_=> #[]
theorem Cd {P:Program} {t:TypeId} {τ:Ty} {b:Nat} (h:(P.info? t).map (λi=>(i.size,i.bytes,i.zero))=some (τ.size,b,some (Ar τ (Aq τ)))) (hb:b<=256):
  ∃i:TypeInfo,P.info? t=some i/\i.size=τ.size/\i.bytes<=256/\i.zero=some (Ar τ (Aq τ)):=by
 cases hi:P.info? t with
 |none=>rw [hi] at h;cases h
 |some i=>
  rw [hi] at h
  simp only [Option.map_some,Option.some.injEq,Prod.mk.injEq] at h
  exact ⟨i,rfl,h.1,by rw [h.2.1];exact hb,h.2.2⟩
theorem we {P:Program} {t:TypeId} (h:((P.info? t).map λi=>i.size==0)=some false): ∃i:TypeInfo,P.info? t=some i/\i.size≠0:=by
 cases hi:P.info? t with
 |none=>rw [hi] at h;cases h
 |some i=>rw [hi] at h;simp only [Option.map_some,Option.some.injEq] at h;exact ⟨i,rfl,by simpa using h⟩
theorem SQ: ∀t τ,Cf.ty t=some τ->jY Tryz.prog Cf t τ:=by
 intro t τ h
 simp only [Cf] at h
 split at h
 ·cases h;exact ⟨Cd (b:=8) (by kernel_rfl) (by omega),(by kernel_rfl:Tryz.prog.underlying 2=some (.int .i64))⟩
 ·cases h;exact ⟨Cd (b:=8) (by kernel_rfl) (by omega),(by kernel_rfl:Tryz.prog.underlying 3=some (.int .i64))⟩
 ·cases h;exact ⟨Cd (b:=1) (by kernel_rfl) (by omega),(by kernel_rfl:Tryz.prog.underlying 4=some (.bool))⟩
 ·cases h;exact ⟨Cd (b:=1) (by kernel_rfl) (by omega),(by kernel_rfl:Tryz.prog.underlying 5=some (.int .u8))⟩
 ·cases h;exact ⟨Cd (b:=16) (by kernel_rfl) (by omega),(by kernel_rfl:Tryz.prog.underlying 9=some (.string))⟩
 ·cases h;exact ⟨Cd (b:=24) (by kernel_rfl) (by omega),⟨2,by kernel_rfl,rfl,rfl⟩⟩
 ·cases h;exact ⟨Cd (b:=24) (by kernel_rfl) (by omega),⟨26,by kernel_rfl,rfl,rfl⟩⟩
 ·cases h;exact ⟨Cd (b:=24) (by kernel_rfl) (by omega),⟨5,by kernel_rfl,rfl,rfl⟩⟩
 ·cases h;exact ⟨Cd (b:=24) (by kernel_rfl) (by omega),⟨3,by kernel_rfl,rfl,rfl⟩⟩
 ·cases h;exact ⟨Cd (b:=24) (by kernel_rfl) (by omega),⟨22,by kernel_rfl,rfl,rfl⟩⟩
 ·cases h;exact ⟨Cd (b:=24) (by kernel_rfl) (by omega),⟨54,by kernel_rfl,rfl,rfl⟩⟩
 ·cases h;exact ⟨Cd (b:=24) (by kernel_rfl) (by omega),⟨58,by kernel_rfl,rfl,rfl⟩⟩
 ·cases h;exact ⟨Cd (b:=24) (by kernel_rfl) (by omega),⟨73,by kernel_rfl,rfl,rfl⟩⟩
 ·cases h;exact ⟨Cd (b:=8) (by kernel_rfl) (by omega),⟨9,2,by kernel_rfl⟩⟩
 ·cases h;exact ⟨Cd (b:=8) (by kernel_rfl) (by omega),⟨9,4,by kernel_rfl⟩⟩
 ·cases h;exact ⟨Cd (b:=72) (by kernel_rfl) (by omega),⟨fieldsOf Tryz.prog 54,by kernel_rfl⟩⟩
 ·cases h;exact ⟨Cd (b:=72) (by kernel_rfl) (by omega),⟨fieldsOf Tryz.prog 58,by kernel_rfl⟩⟩
 ·cases h;exact ⟨Cd (b:=48) (by kernel_rfl) (by omega),⟨fieldsOf Tryz.prog 24,by kernel_rfl⟩⟩
 ·cases h;exact ⟨Cd (b:=48) (by kernel_rfl) (by omega),⟨fieldsOf Tryz.prog 30,by kernel_rfl⟩⟩
 ·cases h;exact ⟨Cd (b:=80) (by kernel_rfl) (by omega),⟨fieldsOf Tryz.prog 99,by kernel_rfl⟩⟩
 ·cases h;exact ⟨Cd (b:=56) (by kernel_rfl) (by omega),⟨fieldsOf Tryz.prog 141,by kernel_rfl⟩⟩
 ·cases h;exact ⟨Cd (b:=56) (by kernel_rfl) (by omega),⟨fieldsOf Tryz.prog 153,by kernel_rfl⟩⟩
 ·cases h;exact ⟨Cd (b:=176) (by kernel_rfl) (by omega),⟨fieldsOf Tryz.prog 75,by kernel_rfl⟩⟩
 ·cases h;exact ⟨Cd (b:=8) (by kernel_rfl) (by omega),⟨75,by kernel_rfl⟩⟩
 ·cases h;exact ⟨Cd (b:=48) (by kernel_rfl) (by omega),⟨fieldsOf Tryz.prog 95,by kernel_rfl⟩⟩
 ·cases h;exact ⟨Cd (b:=8) (by kernel_rfl) (by omega),⟨95,by kernel_rfl⟩⟩
 ·cases h;exact ⟨Cd (b:=48) (by kernel_rfl) (by omega),⟨fieldsOf Tryz.prog 78,by kernel_rfl⟩⟩
 ·cases h;exact ⟨Cd (b:=120) (by kernel_rfl) (by omega),⟨fieldsOf Tryz.prog 84,by kernel_rfl⟩⟩
 ·cases h;exact ⟨Cd (b:=8) (by kernel_rfl) (by omega),⟨84,by kernel_rfl⟩⟩
 ·cases h
theorem WJ: ∀t te,Cf.elem t=some te->Tryz.prog.underlying t=some (.slice te):=by
 intro t te h
 simp only [Cf] at h
 split at h
 ·cases h;kernel_rfl
 ·cases h;kernel_rfl
 ·cases h;kernel_rfl
 ·cases h;kernel_rfl
 ·cases h;kernel_rfl
 ·cases h;kernel_rfl
 ·cases h;kernel_rfl
 ·cases h;kernel_rfl
 ·cases h
theorem Ac1: ∀t v,Cf.mapOf t=some v-> ∃k e,Tryz.prog.underlying t=some (.map k e)/\Tryz.prog.underlying k=some .string/\Cf.ty e=some v/\v.flat=true/\v.Ab=false:=by
 intro t v h
 simp only [Cf] at h
 split at h
 ·cases h;exact ⟨9,2,by kernel_rfl,by kernel_rfl,rfl,rfl,rfl⟩
 ·cases h;exact ⟨9,4,by kernel_rfl,by kernel_rfl,rfl,rfl,rfl⟩
 ·cases h
theorem Cn {P:Program} {s:TypeId} {f o:Nat} {t:TypeId} (hu:P.underlying s=some (.struct (fieldsOf P s))) (hf:((fieldsOf P s)[f]?).map (λfd=>(fd.offset,fd.type))=some (o,t)) (hi:((P.info? t).map λi=>i.size==0)=some false):
  ∃(fs:Array Field) (fd:Field),P.underlying s=some (.struct fs)/\fs[f]?=some fd/\fd.offset=o/\fd.type=t/\ ∃i:TypeInfo,P.info? t=some i/\i.size≠0:=by
 cases h:(fieldsOf P s)[f]? with
 |none=>rw [h] at hf;cases hf
 |some fd=>
  rw [h] at hf
  simp only [Option.map_some,Option.some.injEq,Prod.mk.injEq] at hf
  exact ⟨fieldsOf P s,fd,hu,h,hf.1,hf.2,we hi⟩
theorem Ac3: ∀s f o t,Cf.off s f=some (o,t)-> ∃(fs:Array Field) (fd:Field),Tryz.prog.underlying s=some (.struct fs)/\fs[f]?=some fd/\fd.offset=o/\fd.type=t/\ ∃i:TypeInfo,Tryz.prog.info? t=some i/\i.size≠0:=by
 intro s f o t h
 simp only [Cf] at h
 split at h
 ·cases h;exact Cn (by kernel_rfl) (by kernel_rfl) (by kernel_rfl)
 ·cases h;exact Cn (by kernel_rfl) (by kernel_rfl) (by kernel_rfl)
 ·cases h;exact Cn (by kernel_rfl) (by kernel_rfl) (by kernel_rfl)
 ·cases h;exact Cn (by kernel_rfl) (by kernel_rfl) (by kernel_rfl)
 ·cases h;exact Cn (by kernel_rfl) (by kernel_rfl) (by kernel_rfl)
 ·cases h;exact Cn (by kernel_rfl) (by kernel_rfl) (by kernel_rfl)
 ·cases h;exact Cn (by kernel_rfl) (by kernel_rfl) (by kernel_rfl)
 ·cases h;exact Cn (by kernel_rfl) (by kernel_rfl) (by kernel_rfl)
 ·cases h;exact Cn (by kernel_rfl) (by kernel_rfl) (by kernel_rfl)
 ·cases h;exact Cn (by kernel_rfl) (by kernel_rfl) (by kernel_rfl)
 ·cases h;exact Cn (by kernel_rfl) (by kernel_rfl) (by kernel_rfl)
 ·cases h;exact Cn (by kernel_rfl) (by kernel_rfl) (by kernel_rfl)
 ·cases h;exact Cn (by kernel_rfl) (by kernel_rfl) (by kernel_rfl)
 ·cases h;exact Cn (by kernel_rfl) (by kernel_rfl) (by kernel_rfl)
 ·cases h;exact Cn (by kernel_rfl) (by kernel_rfl) (by kernel_rfl)
 ·cases h;exact Cn (by kernel_rfl) (by kernel_rfl) (by kernel_rfl)
 ·cases h;exact Cn (by kernel_rfl) (by kernel_rfl) (by kernel_rfl)
 ·cases h;exact Cn (by kernel_rfl) (by kernel_rfl) (by kernel_rfl)
 ·cases h;exact Cn (by kernel_rfl) (by kernel_rfl) (by kernel_rfl)
 ·cases h;exact Cn (by kernel_rfl) (by kernel_rfl) (by kernel_rfl)
 ·cases h;exact Cn (by kernel_rfl) (by kernel_rfl) (by kernel_rfl)
 ·cases h;exact Cn (by kernel_rfl) (by kernel_rfl) (by kernel_rfl)
 ·cases h;exact Cn (by kernel_rfl) (by kernel_rfl) (by kernel_rfl)
 ·cases h;exact Cn (by kernel_rfl) (by kernel_rfl) (by kernel_rfl)
 ·cases h;exact Cn (by kernel_rfl) (by kernel_rfl) (by kernel_rfl)
 ·cases h;exact Cn (by kernel_rfl) (by kernel_rfl) (by kernel_rfl)
 ·cases h;exact Cn (by kernel_rfl) (by kernel_rfl) (by kernel_rfl)
 ·cases h;exact Cn (by kernel_rfl) (by kernel_rfl) (by kernel_rfl)
 ·cases h;exact Cn (by kernel_rfl) (by kernel_rfl) (by kernel_rfl)
 ·cases h;exact Cn (by kernel_rfl) (by kernel_rfl) (by kernel_rfl)
 ·cases h;exact Cn (by kernel_rfl) (by kernel_rfl) (by kernel_rfl)
 ·cases h;exact Cn (by kernel_rfl) (by kernel_rfl) (by kernel_rfl)
 ·cases h;exact Cn (by kernel_rfl) (by kernel_rfl) (by kernel_rfl)
 ·cases h;exact Cn (by kernel_rfl) (by kernel_rfl) (by kernel_rfl)
 ·cases h;exact Cn (by kernel_rfl) (by kernel_rfl) (by kernel_rfl)
 ·cases h;exact Cn (by kernel_rfl) (by kernel_rfl) (by kernel_rfl)
 ·cases h;exact Cn (by kernel_rfl) (by kernel_rfl) (by kernel_rfl)
 ·cases h;exact Cn (by kernel_rfl) (by kernel_rfl) (by kernel_rfl)
 ·cases h;exact Cn (by kernel_rfl) (by kernel_rfl) (by kernel_rfl)
 ·cases h;exact Cn (by kernel_rfl) (by kernel_rfl) (by kernel_rfl)
 ·cases h;exact Cn (by kernel_rfl) (by kernel_rfl) (by kernel_rfl)
 ·cases h;exact Cn (by kernel_rfl) (by kernel_rfl) (by kernel_rfl)
 ·cases h;exact Cn (by kernel_rfl) (by kernel_rfl) (by kernel_rfl)
 ·cases h;exact Cn (by kernel_rfl) (by kernel_rfl) (by kernel_rfl)
 ·cases h
theorem Qi {P:Program} {t:TypeId} (hu:P.underlying t=some (.struct (fieldsOf P t))) (Ho:Array (Nat×Nat)) (hp: ∀w,(placesOf (fieldsOf P t)).run P w= .ok Ho w)
  (h: ∀f o u ρ,Cf.off t f=some (o,u)->Cf.ty u=some ρ->Ho[f]?=some (o,ρ.size)):
  ∃(fs:Array Field) (Ho:Array (Nat×Nat)),P.underlying t=some (.struct fs)/\(∀w,(placesOf fs).run P w= .ok Ho w)/\ ∀f o u ρ,Cf.off t f=some (o,u)->Cf.ty u=some ρ->Ho[f]?=some (o,ρ.size):=
 ⟨fieldsOf P t,Ho,hu,hp,h⟩
def Jo (t:TypeId):Array (Nat×Nat):=match t with
 |54=> #[(0,1),(1,1),(2,1)]
 |58=> #[(0,1),(1,1),(2,1)]
 |24=> #[(0,1),(1,1),(2,1)]
 |30=> #[(0,1),(1,1),(2,1)]
 |99=> #[(0,1),(1,1),(2,1),(3,1)]
 |141=> #[(0,1),(1,1),(2,1)]
 |153=> #[(0,1),(1,1),(2,1)]
 |75=> #[(0,3),(3,1),(4,1),(5,1),(6,1),(7,1),(8,1)]
 |95=> #[(0,1),(1,1)]
 |78=> #[(0,1),(1,1),(2,1),(3,1),(4,1)]
 |84=> #[(0,3),(3,1),(4,1),(5,1),(6,1),(7,1),(8,1),(9,1)]
 |_=> #[]
theorem WK: ∀t τ,Cf.ty t=some τ->τ.Ab=true-> ∃(fs:Array Field) (Ho:Array (Nat×Nat)),Tryz.prog.underlying t=some (.struct fs)/\(∀w,(placesOf fs).run Tryz.prog w= .ok Ho w)/\
  ∀f o u ρ,Cf.off t f=some (o,u)->Cf.ty u=some ρ->Ho[f]?=some (o,ρ.size):=by
 intro t τ h hs
 have all: ∀t,∀f o u ρ,Cf.off t f=some (o,u)->Cf.ty u=some ρ->(Jo t)[f]?=some (o,ρ.size):=by
  intro t f o u ρ ho hu
  simp only [Cf] at ho
  split at ho
  all_goals first
   |(cases ho;cases hu;rfl)
   |cases ho
 simp only [Cf] at h
 split at h
 ·cases h;simp [Ty.Ab] at hs
 ·cases h;simp [Ty.Ab] at hs
 ·cases h;simp [Ty.Ab] at hs
 ·cases h;simp [Ty.Ab] at hs
 ·cases h;simp [Ty.Ab] at hs
 ·cases h;simp [Ty.Ab] at hs
 ·cases h;simp [Ty.Ab] at hs
 ·cases h;simp [Ty.Ab] at hs
 ·cases h;simp [Ty.Ab] at hs
 ·cases h;simp [Ty.Ab] at hs
 ·cases h;simp [Ty.Ab] at hs
 ·cases h;simp [Ty.Ab] at hs
 ·cases h;simp [Ty.Ab] at hs
 ·cases h;simp [Ty.Ab] at hs
 ·cases h;simp [Ty.Ab] at hs
 ·exact Qi (by kernel_rfl) (Jo 54) (λw=>by kernel_rfl) (all _)
 ·exact Qi (by kernel_rfl) (Jo 58) (λw=>by kernel_rfl) (all _)
 ·exact Qi (by kernel_rfl) (Jo 24) (λw=>by kernel_rfl) (all _)
 ·exact Qi (by kernel_rfl) (Jo 30) (λw=>by kernel_rfl) (all _)
 ·exact Qi (by kernel_rfl) (Jo 99) (λw=>by kernel_rfl) (all _)
 ·exact Qi (by kernel_rfl) (Jo 141) (λw=>by kernel_rfl) (all _)
 ·exact Qi (by kernel_rfl) (Jo 153) (λw=>by kernel_rfl) (all _)
 ·exact Qi (by kernel_rfl) (Jo 75) (λw=>by kernel_rfl) (all _)
 ·cases h;simp [Ty.Ab] at hs
 ·exact Qi (by kernel_rfl) (Jo 95) (λw=>by kernel_rfl) (all _)
 ·cases h;simp [Ty.Ab] at hs
 ·exact Qi (by kernel_rfl) (Jo 78) (λw=>by kernel_rfl) (all _)
 ·exact Qi (by kernel_rfl) (Jo 84) (λw=>by kernel_rfl) (all _)
 ·cases h;simp [Ty.Ab] at hs
 ·cases h
theorem Bg:Ce Tryz.prog Cf:=⟨WK,SQ,WJ,Ac1,Ac3⟩
def lF:Tab:= {Cf with ou:=true,wI:=true}
theorem im:Ce Tryz.prog lF:=Bg.flags true true
def Ac5:Tab:= {lF with marks:= [Tw]}
theorem Ac6:Ce Tryz.prog Ac5:=im.ff [Tw]
def SI (l:List Nat):Tab:= {lF with marks:=l}
theorem SJ (l:List Nat):Ce Tryz.prog (SI l):=im.ff l
theorem mixed:Tryz.prog.follows .mixedOrders=true:=by kernel_rfl
end Go.Proofs.YtfolipnappekaaaGreat
