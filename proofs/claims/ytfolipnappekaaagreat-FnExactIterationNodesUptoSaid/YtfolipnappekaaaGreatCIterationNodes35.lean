/-
  Part 36 of the proof that the statement FnExactIterationNodes holds.
-/
import Derived.Test.YtfolipnappekaaaGreatCIterationNodes34
import Derived.Test.YtfolipnappekaaaGreatProg
import Derived.KernelRfl
namespace Go.Proofs.YtfolipnappekaaaGreat
open Go.RowKit
abbrev tI:Ty:= .int .i64
abbrev tL:Ty:= .slice tI
abbrev dI:Ty:= .slice tL
abbrev Ku:Ty:= .pair tL (.pair dI (.pair tL .unit))
abbrev Fb:Ty:= .pair tI (.pair .str (.pair dI .unit))
abbrev kK:Ty:= .pair dI (.pair tL (.pair tL (.pair .bool .unit)))
abbrev DH:Ty:= .pair tI (.pair (.slice dI) (.pair (.slice dI) .unit))
abbrev Ai8:Ty:= .pair Fb (.pair dI (.pair tL (.pair (.smap tI) (.pair tL (.pair tL (.pair dI .unit))))))
abbrev Wy:Ty:= .pair (.slice Ku) (.pair (.slice (.smap tI)) .unit)
abbrev oR:Ty:= .pair tI (.pair tI (.pair tL (.pair .bool (.pair .bool .unit))))
abbrev TU:Ty:= .pair Fb (.pair (.optr Wy) (.pair tI (.pair .bool (.pair tL (.pair tI (.pair tI (.pair .bool .unit)))))))
def Ej:Tab where
 ty:= λt=>match t with
  |2=>some tI
  |3=>some tI
  |4=>some .bool
  |5=>some (.int .u8)
  |9=>some .str
  |26=>some tL
  |22=>some dI
  |118=>some (.slice (.int .u8))
  |97=>some tL
  |139=>some (.slice dI)
  |25=>some (.slice Ku)
  |32=>some (.slice Ku)
  |93=>some (.slice (.smap tI))
  |73=>some (.smap tI)
  |162=>some (.smap .bool)
  |54=>some Ku
  |58=>some Ku
  |24=>some Fb
  |30=>some Fb
  |99=>some kK
  |141=>some DH
  |153=>some DH
  |75=>some Ai8
  |69=>some (.optr Ai8)
  |95=>some Wy
  |60=>some (.optr Wy)
  |78=>some oR
  |84=>some TU
  |81=>some (.optr TU)
  |_=>none
 elem:= λt=>match t with
  |26=>some 2
  |22=>some 26
  |118=>some 5
  |97=>some 3
  |139=>some 22
  |25=>some 54
  |32=>some 58
  |93=>some 73
  |_=>none
 mapOf:= λt=>match t with
  |73=>some tI
  |162=>some .bool
  |_=>none
 off:= λs f=>match s,f with
  |54,0=>some (0,26)
  |54,1=>some (1,22)
  |54,2=>some (2,26)
  |58,0=>some (0,26)
  |58,1=>some (1,22)
  |58,2=>some (2,26)
  |24,0=>some (0,2)
  |24,1=>some (1,9)
  |24,2=>some (2,22)
  |30,0=>some (0,2)
  |30,1=>some (1,9)
  |30,2=>some (2,22)
  |99,0=>some (0,22)
  |99,1=>some (1,26)
  |99,2=>some (2,97)
  |99,3=>some (3,4)
  |141,0=>some (0,2)
  |141,1=>some (1,139)
  |141,2=>some (2,139)
  |153,0=>some (0,2)
  |153,1=>some (1,139)
  |153,2=>some (2,139)
  |75,0=>some (0,30)
  |75,1=>some (3,22)
  |75,2=>some (4,26)
  |75,3=>some (5,73)
  |75,4=>some (6,26)
  |75,5=>some (7,26)
  |75,6=>some (8,22)
  |95,0=>some (0,32)
  |95,1=>some (1,93)
  |78,0=>some (0,2)
  |78,1=>some (1,2)
  |78,2=>some (2,26)
  |78,3=>some (3,4)
  |78,4=>some (4,4)
  |84,0=>some (0,30)
  |84,1=>some (3,60)
  |84,2=>some (4,2)
  |84,3=>some (5,4)
  |84,4=>some (6,26)
  |84,5=>some (7,2)
  |84,6=>some (8,2)
  |84,7=>some (9,4)
  |_,_=>none
def fieldsOf (P:Program) (s:TypeId):Array Field:=match P.underlying s with|some (.struct fs)=>fs|_=> #[]
theorem Eh {P:Program} {t:TypeId} {τ:Ty} {b:Nat} (h:(P.info? t).map (λi=>(i.size,i.bytes,i.zero))=some (τ.size,b,some (Cf τ (Bw τ)))) (hb:b<=256):
  ∃i:TypeInfo,P.info? t=some i/\i.size=τ.size/\i.bytes<=256/\i.zero=some (Cf τ (Bw τ)):=by
 cases hi:P.info? t with
 |none=>rw [hi] at h;cases h
 |some i=>
  rw [hi] at h
  simp only [Am,Aa,Ad] at h
  exact ⟨i,rfl,h.1,by rw [h.2.1];exact hb,h.2.2⟩
theorem CM {P:Program} {t:TypeId} (h:((P.info? t).map λi=>i.size==0)=some false): ∃i:TypeInfo,P.info? t=some i/\i.size≠0:=by
 cases hi:P.info? t with
 |none=>rw [hi] at h;cases h
 |some i=>rw [hi] at h;simp only [Am,Aa] at h;exact ⟨i,rfl,by simpa using h⟩
theorem Acy: ∀t τ,Ej.ty t=some τ->p9 Tryz.prog Ej t τ:=by
 intro t τ h
 simp only [Ej] at h
 split at h
 ·cases h;exact ⟨Eh (b:=8) (by kernel_rfl) (by omega),(by kernel_rfl:Tryz.prog.underlying 2=some (.int .i64))⟩
 ·cases h;exact ⟨Eh (b:=8) (by kernel_rfl) (by omega),(by kernel_rfl:Tryz.prog.underlying 3=some (.int .i64))⟩
 ·cases h;exact ⟨Eh (b:=1) (by kernel_rfl) (by omega),(by kernel_rfl:Tryz.prog.underlying 4=some (.bool))⟩
 ·cases h;exact ⟨Eh (b:=1) (by kernel_rfl) (by omega),(by kernel_rfl:Tryz.prog.underlying 5=some (.int .u8))⟩
 ·cases h;exact ⟨Eh (b:=16) (by kernel_rfl) (by omega),(by kernel_rfl:Tryz.prog.underlying 9=some (.string))⟩
 ·cases h;exact ⟨Eh (b:=24) (by kernel_rfl) (by omega),⟨2,by kernel_rfl,rfl,rfl⟩⟩
 ·cases h;exact ⟨Eh (b:=24) (by kernel_rfl) (by omega),⟨26,by kernel_rfl,rfl,rfl⟩⟩
 ·cases h;exact ⟨Eh (b:=24) (by kernel_rfl) (by omega),⟨5,by kernel_rfl,rfl,rfl⟩⟩
 ·cases h;exact ⟨Eh (b:=24) (by kernel_rfl) (by omega),⟨3,by kernel_rfl,rfl,rfl⟩⟩
 ·cases h;exact ⟨Eh (b:=24) (by kernel_rfl) (by omega),⟨22,by kernel_rfl,rfl,rfl⟩⟩
 ·cases h;exact ⟨Eh (b:=24) (by kernel_rfl) (by omega),⟨54,by kernel_rfl,rfl,rfl⟩⟩
 ·cases h;exact ⟨Eh (b:=24) (by kernel_rfl) (by omega),⟨58,by kernel_rfl,rfl,rfl⟩⟩
 ·cases h;exact ⟨Eh (b:=24) (by kernel_rfl) (by omega),⟨73,by kernel_rfl,rfl,rfl⟩⟩
 ·cases h;exact ⟨Eh (b:=8) (by kernel_rfl) (by omega),⟨9,2,by kernel_rfl⟩⟩
 ·cases h;exact ⟨Eh (b:=8) (by kernel_rfl) (by omega),⟨9,4,by kernel_rfl⟩⟩
 ·cases h;exact ⟨Eh (b:=72) (by kernel_rfl) (by omega),⟨fieldsOf Tryz.prog 54,by kernel_rfl⟩⟩
 ·cases h;exact ⟨Eh (b:=72) (by kernel_rfl) (by omega),⟨fieldsOf Tryz.prog 58,by kernel_rfl⟩⟩
 ·cases h;exact ⟨Eh (b:=48) (by kernel_rfl) (by omega),⟨fieldsOf Tryz.prog 24,by kernel_rfl⟩⟩
 ·cases h;exact ⟨Eh (b:=48) (by kernel_rfl) (by omega),⟨fieldsOf Tryz.prog 30,by kernel_rfl⟩⟩
 ·cases h;exact ⟨Eh (b:=80) (by kernel_rfl) (by omega),⟨fieldsOf Tryz.prog 99,by kernel_rfl⟩⟩
 ·cases h;exact ⟨Eh (b:=56) (by kernel_rfl) (by omega),⟨fieldsOf Tryz.prog 141,by kernel_rfl⟩⟩
 ·cases h;exact ⟨Eh (b:=56) (by kernel_rfl) (by omega),⟨fieldsOf Tryz.prog 153,by kernel_rfl⟩⟩
 ·cases h;exact ⟨Eh (b:=176) (by kernel_rfl) (by omega),⟨fieldsOf Tryz.prog 75,by kernel_rfl⟩⟩
 ·cases h;exact ⟨Eh (b:=8) (by kernel_rfl) (by omega),⟨75,by kernel_rfl⟩⟩
 ·cases h;exact ⟨Eh (b:=48) (by kernel_rfl) (by omega),⟨fieldsOf Tryz.prog 95,by kernel_rfl⟩⟩
 ·cases h;exact ⟨Eh (b:=8) (by kernel_rfl) (by omega),⟨95,by kernel_rfl⟩⟩
 ·cases h;exact ⟨Eh (b:=48) (by kernel_rfl) (by omega),⟨fieldsOf Tryz.prog 78,by kernel_rfl⟩⟩
 ·cases h;exact ⟨Eh (b:=120) (by kernel_rfl) (by omega),⟨fieldsOf Tryz.prog 84,by kernel_rfl⟩⟩
 ·cases h;exact ⟨Eh (b:=8) (by kernel_rfl) (by omega),⟨84,by kernel_rfl⟩⟩
 ·cases h
theorem Ag1: ∀t te,Ej.elem t=some te->Tryz.prog.underlying t=some (.slice te):=by
 intro t te h
 simp only [Ej] at h
 split at h
 ·cases h;kernel_rfl
 ·cases h;kernel_rfl
 ·cases h;kernel_rfl
 ·cases h;kernel_rfl
 ·cases h;kernel_rfl
 ·cases h;kernel_rfl
 ·cases h;kernel_rfl
 ·cases h;kernel_rfl
 ·cases h
theorem Ald: ∀t v,Ej.mapOf t=some v-> ∃k e,Tryz.prog.underlying t=some (.map k e)/\Tryz.prog.underlying k=some .string/\Ej.ty e=some v/\v.flat=true/\v.Aq=false:=by
 intro t v h
 simp only [Ej] at h
 split at h
 ·cases h;exact ⟨9,2,by kernel_rfl,by kernel_rfl,rfl,rfl,rfl⟩
 ·cases h;exact ⟨9,4,by kernel_rfl,by kernel_rfl,rfl,rfl,rfl⟩
 ·cases h
theorem Et {P:Program} {s:TypeId} {f o:Nat} {t:TypeId} (hu:P.underlying s=some (.struct (fieldsOf P s))) (hf:((fieldsOf P s)[f]?).map (λfd=>(fd.offset,fd.type))=some (o,t)) (hi:((P.info? t).map λi=>i.size==0)=some false):
  ∃(fs:Array Field) (fd:Field),P.underlying s=some (.struct fs)/\fs[f]?=some fd/\fd.offset=o/\fd.type=t/\ ∃i:TypeInfo,P.info? t=some i/\i.size≠0:=by
 cases h:(fieldsOf P s)[f]? with
 |none=>rw [h] at hf;cases hf
 |some fd=>
  rw [h] at hf
  simp only [Am,Aa,Ad] at hf
  exact ⟨fieldsOf P s,fd,hu,h,hf.1,hf.2,CM hi⟩
theorem Alf: ∀s f o t,Ej.off s f=some (o,t)-> ∃(fs:Array Field) (fd:Field),Tryz.prog.underlying s=some (.struct fs)/\fs[f]?=some fd/\fd.offset=o/\fd.type=t/\ ∃i:TypeInfo,Tryz.prog.info? t=some i/\i.size≠0:=by
 intro s f o t h
 simp only [Ej] at h
 split at h
 ·cases h;exact Et (by kernel_rfl) (by kernel_rfl) (by kernel_rfl)
 ·cases h;exact Et (by kernel_rfl) (by kernel_rfl) (by kernel_rfl)
 ·cases h;exact Et (by kernel_rfl) (by kernel_rfl) (by kernel_rfl)
 ·cases h;exact Et (by kernel_rfl) (by kernel_rfl) (by kernel_rfl)
 ·cases h;exact Et (by kernel_rfl) (by kernel_rfl) (by kernel_rfl)
 ·cases h;exact Et (by kernel_rfl) (by kernel_rfl) (by kernel_rfl)
 ·cases h;exact Et (by kernel_rfl) (by kernel_rfl) (by kernel_rfl)
 ·cases h;exact Et (by kernel_rfl) (by kernel_rfl) (by kernel_rfl)
 ·cases h;exact Et (by kernel_rfl) (by kernel_rfl) (by kernel_rfl)
 ·cases h;exact Et (by kernel_rfl) (by kernel_rfl) (by kernel_rfl)
 ·cases h;exact Et (by kernel_rfl) (by kernel_rfl) (by kernel_rfl)
 ·cases h;exact Et (by kernel_rfl) (by kernel_rfl) (by kernel_rfl)
 ·cases h;exact Et (by kernel_rfl) (by kernel_rfl) (by kernel_rfl)
 ·cases h;exact Et (by kernel_rfl) (by kernel_rfl) (by kernel_rfl)
 ·cases h;exact Et (by kernel_rfl) (by kernel_rfl) (by kernel_rfl)
 ·cases h;exact Et (by kernel_rfl) (by kernel_rfl) (by kernel_rfl)
 ·cases h;exact Et (by kernel_rfl) (by kernel_rfl) (by kernel_rfl)
 ·cases h;exact Et (by kernel_rfl) (by kernel_rfl) (by kernel_rfl)
 ·cases h;exact Et (by kernel_rfl) (by kernel_rfl) (by kernel_rfl)
 ·cases h;exact Et (by kernel_rfl) (by kernel_rfl) (by kernel_rfl)
 ·cases h;exact Et (by kernel_rfl) (by kernel_rfl) (by kernel_rfl)
 ·cases h;exact Et (by kernel_rfl) (by kernel_rfl) (by kernel_rfl)
 ·cases h;exact Et (by kernel_rfl) (by kernel_rfl) (by kernel_rfl)
 ·cases h;exact Et (by kernel_rfl) (by kernel_rfl) (by kernel_rfl)
 ·cases h;exact Et (by kernel_rfl) (by kernel_rfl) (by kernel_rfl)
 ·cases h;exact Et (by kernel_rfl) (by kernel_rfl) (by kernel_rfl)
 ·cases h;exact Et (by kernel_rfl) (by kernel_rfl) (by kernel_rfl)
 ·cases h;exact Et (by kernel_rfl) (by kernel_rfl) (by kernel_rfl)
 ·cases h;exact Et (by kernel_rfl) (by kernel_rfl) (by kernel_rfl)
 ·cases h;exact Et (by kernel_rfl) (by kernel_rfl) (by kernel_rfl)
 ·cases h;exact Et (by kernel_rfl) (by kernel_rfl) (by kernel_rfl)
 ·cases h;exact Et (by kernel_rfl) (by kernel_rfl) (by kernel_rfl)
 ·cases h;exact Et (by kernel_rfl) (by kernel_rfl) (by kernel_rfl)
 ·cases h;exact Et (by kernel_rfl) (by kernel_rfl) (by kernel_rfl)
 ·cases h;exact Et (by kernel_rfl) (by kernel_rfl) (by kernel_rfl)
 ·cases h;exact Et (by kernel_rfl) (by kernel_rfl) (by kernel_rfl)
 ·cases h;exact Et (by kernel_rfl) (by kernel_rfl) (by kernel_rfl)
 ·cases h;exact Et (by kernel_rfl) (by kernel_rfl) (by kernel_rfl)
 ·cases h;exact Et (by kernel_rfl) (by kernel_rfl) (by kernel_rfl)
 ·cases h;exact Et (by kernel_rfl) (by kernel_rfl) (by kernel_rfl)
 ·cases h;exact Et (by kernel_rfl) (by kernel_rfl) (by kernel_rfl)
 ·cases h;exact Et (by kernel_rfl) (by kernel_rfl) (by kernel_rfl)
 ·cases h;exact Et (by kernel_rfl) (by kernel_rfl) (by kernel_rfl)
 ·cases h;exact Et (by kernel_rfl) (by kernel_rfl) (by kernel_rfl)
 ·cases h
theorem Wd {P:Program} {t:TypeId} (hu:P.underlying t=some (.struct (fieldsOf P t))) (Ls:Array (Nat×Nat)) (hp: ∀w,(placesOf (fieldsOf P t)).run P w= .ok Ls w)
  (h: ∀f o u ρ,Ej.off t f=some (o,u)->Ej.ty u=some ρ->Ls[f]?=some (o,ρ.size)):
  ∃(fs:Array Field) (Ls:Array (Nat×Nat)),P.underlying t=some (.struct fs)/\(∀w,(placesOf fs).run P w= .ok Ls w)/\ ∀f o u ρ,Ej.off t f=some (o,u)->Ej.ty u=some ρ->Ls[f]?=some (o,ρ.size):=
 ⟨fieldsOf P t,Ls,hu,hp,h⟩
def Om (t:TypeId):Array (Nat×Nat):=match t with
 |54=> #[(0,1),(1,1),(2,1)]
 |58=> #[(0,1),(1,1),(2,1)]
 |24=> #[(0,1),(1,1),(2,1)]
 |30=> #[(0,1),(1,1),(2,1)]
 |99=> #[(0,1),(1,1),(2,1),(3,1)]
 |141=> #[(0,1),(1,1),(2,1)]
 |153=> #[(0,1),(1,1),(2,1)]
 |75=> #[(0,3),(3,1),(4,1),(5,1),(6,1),(7,1),(8,1)]
 |95=> #[(0,1),(1,1)]
 |78=> #[(0,1),(1,1),(2,1),(3,1),(4,1)]
 |84=> #[(0,3),(3,1),(4,1),(5,1),(6,1),(7,1),(8,1),(9,1)]
 |_=> #[]
theorem Ag2: ∀t τ,Ej.ty t=some τ->τ.Aq=true-> ∃(fs:Array Field) (Ls:Array (Nat×Nat)),Tryz.prog.underlying t=some (.struct fs)/\(∀w,(placesOf fs).run Tryz.prog w= .ok Ls w)/\
  ∀f o u ρ,Ej.off t f=some (o,u)->Ej.ty u=some ρ->Ls[f]?=some (o,ρ.size):=by
 intro t τ h hs
 have all: ∀t,∀f o u ρ,Ej.off t f=some (o,u)->Ej.ty u=some ρ->(Om t)[f]?=some (o,ρ.size):=by
  intro t f o u ρ ho hu
  simp only [Ej] at ho
  split at ho
  all_goals first
   |(cases ho;cases hu;rfl)
   |cases ho
 simp only [Ej] at h
 split at h
 ·cases h;simp [Ty.Aq] at hs
 ·cases h;simp [Ty.Aq] at hs
 ·cases h;simp [Ty.Aq] at hs
 ·cases h;simp [Ty.Aq] at hs
 ·cases h;simp [Ty.Aq] at hs
 ·cases h;simp [Ty.Aq] at hs
 ·cases h;simp [Ty.Aq] at hs
 ·cases h;simp [Ty.Aq] at hs
 ·cases h;simp [Ty.Aq] at hs
 ·cases h;simp [Ty.Aq] at hs
 ·cases h;simp [Ty.Aq] at hs
 ·cases h;simp [Ty.Aq] at hs
 ·cases h;simp [Ty.Aq] at hs
 ·cases h;simp [Ty.Aq] at hs
 ·cases h;simp [Ty.Aq] at hs
 ·exact Wd (by kernel_rfl) (Om 54) (λw=>by kernel_rfl) (all _)
 ·exact Wd (by kernel_rfl) (Om 58) (λw=>by kernel_rfl) (all _)
 ·exact Wd (by kernel_rfl) (Om 24) (λw=>by kernel_rfl) (all _)
 ·exact Wd (by kernel_rfl) (Om 30) (λw=>by kernel_rfl) (all _)
 ·exact Wd (by kernel_rfl) (Om 99) (λw=>by kernel_rfl) (all _)
 ·exact Wd (by kernel_rfl) (Om 141) (λw=>by kernel_rfl) (all _)
 ·exact Wd (by kernel_rfl) (Om 153) (λw=>by kernel_rfl) (all _)
 ·exact Wd (by kernel_rfl) (Om 75) (λw=>by kernel_rfl) (all _)
 ·cases h;simp [Ty.Aq] at hs
 ·exact Wd (by kernel_rfl) (Om 95) (λw=>by kernel_rfl) (all _)
 ·cases h;simp [Ty.Aq] at hs
 ·exact Wd (by kernel_rfl) (Om 78) (λw=>by kernel_rfl) (all _)
 ·exact Wd (by kernel_rfl) (Om 84) (λw=>by kernel_rfl) (all _)
 ·cases h;simp [Ty.Aq] at hs
 ·cases h
theorem Db:Eb Tryz.prog Ej:=⟨Ag2,Acy,Ag1,Ald,Alf⟩
def Va:Tab:= {Ej with u9:=true,DK:=true}
theorem Tm:Eb Tryz.prog Va:=Db.flags true true
def Acz:Tab:= {Va with marks:= [Ud]}
theorem Ad0:Eb Tryz.prog Acz:=Tm.kN [Ud]
def qv (l:List Nat):Tab:= {Va with marks:=l}
theorem qw (l:List Nat):Eb Tryz.prog (qv l):=Tm.kN l
theorem mixed:Tryz.prog.follows .mixedOrders=true:=by kernel_rfl
end Go.Proofs.YtfolipnappekaaaGreat
