/-
  Part 36 of the proof that the statement FnExactSolveIDAStar holds.
-/
import Derived.Test.YtfgfigkbgecfnaaGreatCSolveIDAStar34
import Derived.Test.YtfgfigkbgecfnaaGreatProg
import Derived.KernelRfl
namespace Go.Proofs.YtfgfigkbgecfnaaGreat
open Go.RowKit
abbrev tI:Ty:= .int .i64
abbrev tL:Ty:= .slice tI
abbrev dS:Ty:= .slice tL
abbrev Ld:Ty:= .pair tL (.pair dS (.pair tL .unit))
abbrev Ga:Ty:= .pair tI (.pair .str (.pair dS .unit))
abbrev ly:Ty:= .pair dS (.pair tL (.pair tL (.pair .bool .unit)))
abbrev FK:Ty:= .pair tI (.pair (.slice dS) (.pair (.slice dS) .unit))
abbrev Tl:Ty:= .pair (.slice Ld) (.pair (.slice (.smap tI)) .unit)
abbrev pO:Ty:= .pair tI (.pair tI (.pair tL (.pair .bool (.pair .bool .unit))))
abbrev Aks:Ty:= .pair Ga (.pair (.optr Tl) (.pair tI (.pair .bool (.pair tL (.pair tI (.pair tI (.pair .bool .unit)))))))
def En:Tab where
 ty:= λt=>match t with
  |2=>some tI
  |3=>some tI
  |4=>some .bool
  |5=>some (.int .u8)
  |9=>some .str
  |26=>some tL
  |22=>some dS
  |106=>some (.slice (.int .u8))
  |118=>some tL
  |97=>some (.slice dS)
  |25=>some (.slice Ld)
  |33=>some (.slice Ld)
  |85=>some (.slice (.smap tI))
  |88=>some (.smap tI)
  |134=>some (.smap .bool)
  |46=>some Ld
  |53=>some Ld
  |24=>some Ga
  |31=>some Ga
  |120=>some ly
  |99=>some FK
  |127=>some FK
  |87=>some Tl
  |55=>some (.optr Tl)
  |49=>some pO
  |63=>some Aks
  |59=>some (.optr Aks)
  |_=>none
 elem:= λt=>match t with
  |26=>some 2
  |22=>some 26
  |106=>some 5
  |118=>some 3
  |97=>some 22
  |25=>some 46
  |33=>some 53
  |85=>some 88
  |_=>none
 mapOf:= λt=>match t with
  |88=>some tI
  |134=>some .bool
  |_=>none
 off:= λs f=>match s,f with
  |46,0=>some (0,26)
  |46,1=>some (1,22)
  |46,2=>some (2,26)
  |53,0=>some (0,26)
  |53,1=>some (1,22)
  |53,2=>some (2,26)
  |24,0=>some (0,2)
  |24,1=>some (1,9)
  |24,2=>some (2,22)
  |31,0=>some (0,2)
  |31,1=>some (1,9)
  |31,2=>some (2,22)
  |120,0=>some (0,22)
  |120,1=>some (1,26)
  |120,2=>some (2,118)
  |120,3=>some (3,4)
  |99,0=>some (0,2)
  |99,1=>some (1,97)
  |99,2=>some (2,97)
  |127,0=>some (0,2)
  |127,1=>some (1,97)
  |127,2=>some (2,97)
  |87,0=>some (0,33)
  |87,1=>some (1,85)
  |49,0=>some (0,2)
  |49,1=>some (1,2)
  |49,2=>some (2,26)
  |49,3=>some (3,4)
  |49,4=>some (4,4)
  |63,0=>some (0,31)
  |63,1=>some (3,55)
  |63,2=>some (4,2)
  |63,3=>some (5,4)
  |63,4=>some (6,26)
  |63,5=>some (7,2)
  |63,6=>some (8,2)
  |63,7=>some (9,4)
  |_,_=>none
def fieldsOf (P:Program) (s:TypeId):Array Field:=match P.underlying s with|some (.struct fs)=>fs|_=> #[]
theorem Eu {P:Program} {t:TypeId} {τ:Ty} {b:Nat} (h:(P.info? t).map (λi=>(i.size,i.bytes,i.zero))=some (τ.size,b,some (Cf τ (By τ)))) (hb:b<=256):
  ∃i:TypeInfo,P.info? t=some i/\i.size=τ.size/\i.bytes<=256/\i.zero=some (Cf τ (By τ)):=by
 cases hi:P.info? t with
 |none=>rw [hi] at h;cases h
 |some i=>
  rw [hi] at h
  simp only [Am,Aa,Ae] at h
  exact ⟨i,rfl,h.1,by rw [h.2.1];exact hb,h.2.2⟩
theorem EO {P:Program} {t:TypeId} (h:((P.info? t).map λi=>i.size==0)=some false): ∃i:TypeInfo,P.info? t=some i/\i.size≠0:=by
 cases hi:P.info? t with
 |none=>rw [hi] at h;cases h
 |some i=>rw [hi] at h;simp only [Am,Aa] at h;exact ⟨i,rfl,by simpa using h⟩
theorem Afc: ∀t τ,En.ty t=some τ->q7 Tryz.prog En t τ:=by
 intro t τ h
 simp only [En] at h
 split at h
 ·cases h;exact ⟨Eu (b:=8) (by kernel_rfl) (by omega),(by kernel_rfl:Tryz.prog.underlying 2=some (.int .i64))⟩
 ·cases h;exact ⟨Eu (b:=8) (by kernel_rfl) (by omega),(by kernel_rfl:Tryz.prog.underlying 3=some (.int .i64))⟩
 ·cases h;exact ⟨Eu (b:=1) (by kernel_rfl) (by omega),(by kernel_rfl:Tryz.prog.underlying 4=some (.bool))⟩
 ·cases h;exact ⟨Eu (b:=1) (by kernel_rfl) (by omega),(by kernel_rfl:Tryz.prog.underlying 5=some (.int .u8))⟩
 ·cases h;exact ⟨Eu (b:=16) (by kernel_rfl) (by omega),(by kernel_rfl:Tryz.prog.underlying 9=some (.string))⟩
 ·cases h;exact ⟨Eu (b:=24) (by kernel_rfl) (by omega),⟨2,by kernel_rfl,rfl,rfl⟩⟩
 ·cases h;exact ⟨Eu (b:=24) (by kernel_rfl) (by omega),⟨26,by kernel_rfl,rfl,rfl⟩⟩
 ·cases h;exact ⟨Eu (b:=24) (by kernel_rfl) (by omega),⟨5,by kernel_rfl,rfl,rfl⟩⟩
 ·cases h;exact ⟨Eu (b:=24) (by kernel_rfl) (by omega),⟨3,by kernel_rfl,rfl,rfl⟩⟩
 ·cases h;exact ⟨Eu (b:=24) (by kernel_rfl) (by omega),⟨22,by kernel_rfl,rfl,rfl⟩⟩
 ·cases h;exact ⟨Eu (b:=24) (by kernel_rfl) (by omega),⟨46,by kernel_rfl,rfl,rfl⟩⟩
 ·cases h;exact ⟨Eu (b:=24) (by kernel_rfl) (by omega),⟨53,by kernel_rfl,rfl,rfl⟩⟩
 ·cases h;exact ⟨Eu (b:=24) (by kernel_rfl) (by omega),⟨88,by kernel_rfl,rfl,rfl⟩⟩
 ·cases h;exact ⟨Eu (b:=8) (by kernel_rfl) (by omega),⟨9,2,by kernel_rfl⟩⟩
 ·cases h;exact ⟨Eu (b:=8) (by kernel_rfl) (by omega),⟨9,4,by kernel_rfl⟩⟩
 ·cases h;exact ⟨Eu (b:=72) (by kernel_rfl) (by omega),⟨fieldsOf Tryz.prog 46,by kernel_rfl⟩⟩
 ·cases h;exact ⟨Eu (b:=72) (by kernel_rfl) (by omega),⟨fieldsOf Tryz.prog 53,by kernel_rfl⟩⟩
 ·cases h;exact ⟨Eu (b:=48) (by kernel_rfl) (by omega),⟨fieldsOf Tryz.prog 24,by kernel_rfl⟩⟩
 ·cases h;exact ⟨Eu (b:=48) (by kernel_rfl) (by omega),⟨fieldsOf Tryz.prog 31,by kernel_rfl⟩⟩
 ·cases h;exact ⟨Eu (b:=80) (by kernel_rfl) (by omega),⟨fieldsOf Tryz.prog 120,by kernel_rfl⟩⟩
 ·cases h;exact ⟨Eu (b:=56) (by kernel_rfl) (by omega),⟨fieldsOf Tryz.prog 99,by kernel_rfl⟩⟩
 ·cases h;exact ⟨Eu (b:=56) (by kernel_rfl) (by omega),⟨fieldsOf Tryz.prog 127,by kernel_rfl⟩⟩
 ·cases h;exact ⟨Eu (b:=48) (by kernel_rfl) (by omega),⟨fieldsOf Tryz.prog 87,by kernel_rfl⟩⟩
 ·cases h;exact ⟨Eu (b:=8) (by kernel_rfl) (by omega),⟨87,by kernel_rfl⟩⟩
 ·cases h;exact ⟨Eu (b:=48) (by kernel_rfl) (by omega),⟨fieldsOf Tryz.prog 49,by kernel_rfl⟩⟩
 ·cases h;exact ⟨Eu (b:=120) (by kernel_rfl) (by omega),⟨fieldsOf Tryz.prog 63,by kernel_rfl⟩⟩
 ·cases h;exact ⟨Eu (b:=8) (by kernel_rfl) (by omega),⟨63,by kernel_rfl⟩⟩
 ·cases h
theorem Ail: ∀t te,En.elem t=some te->Tryz.prog.underlying t=some (.slice te):=by
 intro t te h
 simp only [En] at h
 split at h
 ·cases h;kernel_rfl
 ·cases h;kernel_rfl
 ·cases h;kernel_rfl
 ·cases h;kernel_rfl
 ·cases h;kernel_rfl
 ·cases h;kernel_rfl
 ·cases h;kernel_rfl
 ·cases h;kernel_rfl
 ·cases h
theorem Ao1: ∀t v,En.mapOf t=some v-> ∃k e,Tryz.prog.underlying t=some (.map k e)/\Tryz.prog.underlying k=some .string/\En.ty e=some v/\v.flat=true/\v.Aq=false:=by
 intro t v h
 simp only [En] at h
 split at h
 ·cases h;exact ⟨9,2,by kernel_rfl,by kernel_rfl,rfl,rfl,rfl⟩
 ·cases h;exact ⟨9,4,by kernel_rfl,by kernel_rfl,rfl,rfl,rfl⟩
 ·cases h
theorem Gm {P:Program} {s:TypeId} {f o:Nat} {t:TypeId} (hu:P.underlying s=some (.struct (fieldsOf P s))) (hf:((fieldsOf P s)[f]?).map (λfd=>(fd.offset,fd.type))=some (o,t)) (hi:((P.info? t).map λi=>i.size==0)=some false):
  ∃(fs:Array Field) (fd:Field),P.underlying s=some (.struct fs)/\fs[f]?=some fd/\fd.offset=o/\fd.type=t/\ ∃i:TypeInfo,P.info? t=some i/\i.size≠0:=by
 cases h:(fieldsOf P s)[f]? with
 |none=>rw [h] at hf;cases hf
 |some fd=>
  rw [h] at hf
  simp only [Am,Aa,Ae] at hf
  exact ⟨fieldsOf P s,fd,hu,h,hf.1,hf.2,EO hi⟩
theorem Ao3: ∀s f o t,En.off s f=some (o,t)-> ∃(fs:Array Field) (fd:Field),Tryz.prog.underlying s=some (.struct fs)/\fs[f]?=some fd/\fd.offset=o/\fd.type=t/\ ∃i:TypeInfo,Tryz.prog.info? t=some i/\i.size≠0:=by
 intro s f o t h
 simp only [En] at h
 split at h
 ·cases h;exact Gm (by kernel_rfl) (by kernel_rfl) (by kernel_rfl)
 ·cases h;exact Gm (by kernel_rfl) (by kernel_rfl) (by kernel_rfl)
 ·cases h;exact Gm (by kernel_rfl) (by kernel_rfl) (by kernel_rfl)
 ·cases h;exact Gm (by kernel_rfl) (by kernel_rfl) (by kernel_rfl)
 ·cases h;exact Gm (by kernel_rfl) (by kernel_rfl) (by kernel_rfl)
 ·cases h;exact Gm (by kernel_rfl) (by kernel_rfl) (by kernel_rfl)
 ·cases h;exact Gm (by kernel_rfl) (by kernel_rfl) (by kernel_rfl)
 ·cases h;exact Gm (by kernel_rfl) (by kernel_rfl) (by kernel_rfl)
 ·cases h;exact Gm (by kernel_rfl) (by kernel_rfl) (by kernel_rfl)
 ·cases h;exact Gm (by kernel_rfl) (by kernel_rfl) (by kernel_rfl)
 ·cases h;exact Gm (by kernel_rfl) (by kernel_rfl) (by kernel_rfl)
 ·cases h;exact Gm (by kernel_rfl) (by kernel_rfl) (by kernel_rfl)
 ·cases h;exact Gm (by kernel_rfl) (by kernel_rfl) (by kernel_rfl)
 ·cases h;exact Gm (by kernel_rfl) (by kernel_rfl) (by kernel_rfl)
 ·cases h;exact Gm (by kernel_rfl) (by kernel_rfl) (by kernel_rfl)
 ·cases h;exact Gm (by kernel_rfl) (by kernel_rfl) (by kernel_rfl)
 ·cases h;exact Gm (by kernel_rfl) (by kernel_rfl) (by kernel_rfl)
 ·cases h;exact Gm (by kernel_rfl) (by kernel_rfl) (by kernel_rfl)
 ·cases h;exact Gm (by kernel_rfl) (by kernel_rfl) (by kernel_rfl)
 ·cases h;exact Gm (by kernel_rfl) (by kernel_rfl) (by kernel_rfl)
 ·cases h;exact Gm (by kernel_rfl) (by kernel_rfl) (by kernel_rfl)
 ·cases h;exact Gm (by kernel_rfl) (by kernel_rfl) (by kernel_rfl)
 ·cases h;exact Gm (by kernel_rfl) (by kernel_rfl) (by kernel_rfl)
 ·cases h;exact Gm (by kernel_rfl) (by kernel_rfl) (by kernel_rfl)
 ·cases h;exact Gm (by kernel_rfl) (by kernel_rfl) (by kernel_rfl)
 ·cases h;exact Gm (by kernel_rfl) (by kernel_rfl) (by kernel_rfl)
 ·cases h;exact Gm (by kernel_rfl) (by kernel_rfl) (by kernel_rfl)
 ·cases h;exact Gm (by kernel_rfl) (by kernel_rfl) (by kernel_rfl)
 ·cases h;exact Gm (by kernel_rfl) (by kernel_rfl) (by kernel_rfl)
 ·cases h;exact Gm (by kernel_rfl) (by kernel_rfl) (by kernel_rfl)
 ·cases h;exact Gm (by kernel_rfl) (by kernel_rfl) (by kernel_rfl)
 ·cases h;exact Gm (by kernel_rfl) (by kernel_rfl) (by kernel_rfl)
 ·cases h;exact Gm (by kernel_rfl) (by kernel_rfl) (by kernel_rfl)
 ·cases h;exact Gm (by kernel_rfl) (by kernel_rfl) (by kernel_rfl)
 ·cases h;exact Gm (by kernel_rfl) (by kernel_rfl) (by kernel_rfl)
 ·cases h;exact Gm (by kernel_rfl) (by kernel_rfl) (by kernel_rfl)
 ·cases h;exact Gm (by kernel_rfl) (by kernel_rfl) (by kernel_rfl)
 ·cases h
theorem a9 {P:Program} {t:TypeId} (hu:P.underlying t=some (.struct (fieldsOf P t))) (Md:Array (Nat×Nat)) (hp: ∀w,(placesOf (fieldsOf P t)).run P w= .ok Md w)
  (h: ∀f o u ρ,En.off t f=some (o,u)->En.ty u=some ρ->Md[f]?=some (o,ρ.size)):
  ∃(fs:Array Field) (Md:Array (Nat×Nat)),P.underlying t=some (.struct fs)/\(∀w,(placesOf fs).run P w= .ok Md w)/\ ∀f o u ρ,En.off t f=some (o,u)->En.ty u=some ρ->Md[f]?=some (o,ρ.size):=
 ⟨fieldsOf P t,Md,hu,hp,h⟩
def Ql (t:TypeId):Array (Nat×Nat):=match t with
 |46=> #[(0,1),(1,1),(2,1)]
 |53=> #[(0,1),(1,1),(2,1)]
 |24=> #[(0,1),(1,1),(2,1)]
 |31=> #[(0,1),(1,1),(2,1)]
 |120=> #[(0,1),(1,1),(2,1),(3,1)]
 |99=> #[(0,1),(1,1),(2,1)]
 |127=> #[(0,1),(1,1),(2,1)]
 |87=> #[(0,1),(1,1)]
 |49=> #[(0,1),(1,1),(2,1),(3,1),(4,1)]
 |63=> #[(0,3),(3,1),(4,1),(5,1),(6,1),(7,1),(8,1),(9,1)]
 |_=> #[]
theorem Aim: ∀t τ,En.ty t=some τ->τ.Aq=true-> ∃(fs:Array Field) (Md:Array (Nat×Nat)),Tryz.prog.underlying t=some (.struct fs)/\(∀w,(placesOf fs).run Tryz.prog w= .ok Md w)/\
  ∀f o u ρ,En.off t f=some (o,u)->En.ty u=some ρ->Md[f]?=some (o,ρ.size):=by
 intro t τ h hs
 have all: ∀t,∀f o u ρ,En.off t f=some (o,u)->En.ty u=some ρ->(Ql t)[f]?=some (o,ρ.size):=by
  intro t f o u ρ ho hu
  simp only [En] at ho
  split at ho
  all_goals first
   |(cases ho;cases hu;rfl)
   |cases ho
 simp only [En] at h
 split at h
 ·cases h;simp [Ty.Aq] at hs
 ·cases h;simp [Ty.Aq] at hs
 ·cases h;simp [Ty.Aq] at hs
 ·cases h;simp [Ty.Aq] at hs
 ·cases h;simp [Ty.Aq] at hs
 ·cases h;simp [Ty.Aq] at hs
 ·cases h;simp [Ty.Aq] at hs
 ·cases h;simp [Ty.Aq] at hs
 ·cases h;simp [Ty.Aq] at hs
 ·cases h;simp [Ty.Aq] at hs
 ·cases h;simp [Ty.Aq] at hs
 ·cases h;simp [Ty.Aq] at hs
 ·cases h;simp [Ty.Aq] at hs
 ·cases h;simp [Ty.Aq] at hs
 ·cases h;simp [Ty.Aq] at hs
 ·exact a9 (by kernel_rfl) (Ql 46) (λw=>by kernel_rfl) (all _)
 ·exact a9 (by kernel_rfl) (Ql 53) (λw=>by kernel_rfl) (all _)
 ·exact a9 (by kernel_rfl) (Ql 24) (λw=>by kernel_rfl) (all _)
 ·exact a9 (by kernel_rfl) (Ql 31) (λw=>by kernel_rfl) (all _)
 ·exact a9 (by kernel_rfl) (Ql 120) (λw=>by kernel_rfl) (all _)
 ·exact a9 (by kernel_rfl) (Ql 99) (λw=>by kernel_rfl) (all _)
 ·exact a9 (by kernel_rfl) (Ql 127) (λw=>by kernel_rfl) (all _)
 ·exact a9 (by kernel_rfl) (Ql 87) (λw=>by kernel_rfl) (all _)
 ·cases h;simp [Ty.Aq] at hs
 ·exact a9 (by kernel_rfl) (Ql 49) (λw=>by kernel_rfl) (all _)
 ·exact a9 (by kernel_rfl) (Ql 63) (λw=>by kernel_rfl) (all _)
 ·cases h;simp [Ty.Aq] at hs
 ·cases h
theorem De:Ed Tryz.prog En:=⟨Aim,Afc,Ail,Ao1,Ao3⟩
def Uf:Tab:= {En with vg:=true,FN:=true}
theorem Su:Ed Tryz.prog Uf:=De.flags true true
def Afd:Tab:= {Uf with marks:= [Uv]}
theorem Afe:Ed Tryz.prog Afd:=Su.lB [Uv]
def ry (l:List Nat):Tab:= {Uf with marks:=l}
theorem rz (l:List Nat):Ed Tryz.prog (ry l):=Su.lB l
theorem mixed:Tryz.prog.follows .mixedOrders=true:=by kernel_rfl
end Go.Proofs.YtfgfigkbgecfnaaGreat
