/-
  Part 36 of the proof that the statement FnExactBoundHistogram holds.
-/
import Derived.Test.YtjbdmibbbpdnnaaGreatCBoundHistogram34
import Derived.Test.YtjbdmibbbpdnnaaGreatProg
import Derived.KernelRfl
namespace Go.Proofs.YtjbdmibbbpdnnaaGreat
open Go.RowKit
abbrev tI:Ty:= .int .i64
abbrev tL:Ty:= .slice tI
abbrev Zp:Ty:= .slice tL
abbrev Gl:Ty:= .pair tL (.pair Zp (.pair tL .unit))
abbrev Dn:Ty:= .pair tI (.pair .str (.pair Zp .unit))
abbrev aS:Ty:= .pair Zp (.pair tL (.pair tL (.pair .bool .unit)))
abbrev MA:Ty:= .pair tI (.pair (.slice Zp) (.pair (.slice Zp) .unit))
abbrev xC:Ty:= .pair Dn (.pair Zp (.pair tL (.pair (.smap tI) (.pair tL (.pair tL (.pair Zp .unit))))))
abbrev iP:Ty:= .pair (.slice Gl) (.pair (.slice (.smap tI)) .unit)
def Cl:Tab where
 ty:= λt=>match t with
  |2=>some tI
  |3=>some tI
  |4=>some .bool
  |5=>some (.int .u8)
  |9=>some .str
  |28=>some tL
  |22=>some Zp
  |97=>some (.slice (.int .u8))
  |45=>some tL
  |104=>some (.slice Zp)
  |25=>some (.slice Gl)
  |32=>some (.slice Gl)
  |81=>some (.slice (.smap tI))
  |60=>some (.smap tI)
  |118=>some (.smap .bool)
  |44=>some Gl
  |53=>some Gl
  |24=>some Dn
  |30=>some Dn
  |47=>some aS
  |106=>some MA
  |62=>some xC
  |55=>some (.optr xC)
  |83=>some iP
  |58=>some (.optr iP)
  |_=>none
 elem:= λt=>match t with
  |28=>some 2
  |22=>some 28
  |97=>some 5
  |45=>some 3
  |104=>some 22
  |25=>some 44
  |32=>some 53
  |81=>some 60
  |_=>none
 mapOf:= λt=>match t with
  |60=>some tI
  |118=>some .bool
  |_=>none
 off:= λs f=>match s,f with
  |44,0=>some (0,28)
  |44,1=>some (1,22)
  |44,2=>some (2,28)
  |53,0=>some (0,28)
  |53,1=>some (1,22)
  |53,2=>some (2,28)
  |24,0=>some (0,2)
  |24,1=>some (1,9)
  |24,2=>some (2,22)
  |30,0=>some (0,2)
  |30,1=>some (1,9)
  |30,2=>some (2,22)
  |47,0=>some (0,22)
  |47,1=>some (1,28)
  |47,2=>some (2,45)
  |47,3=>some (3,4)
  |106,0=>some (0,2)
  |106,1=>some (1,104)
  |106,2=>some (2,104)
  |62,0=>some (0,30)
  |62,1=>some (3,22)
  |62,2=>some (4,28)
  |62,3=>some (5,60)
  |62,4=>some (6,28)
  |62,5=>some (7,28)
  |62,6=>some (8,22)
  |83,0=>some (0,32)
  |83,1=>some (1,81)
  |_,_=>none
def fieldsOf (P:Program) (s:TypeId):Array Field:=match P.underlying s with|some (.struct fs)=>fs|_=> #[]
theorem Dd {P:Program} {t:TypeId} {τ:Ty} {b:Nat} (h:(P.info? t).map (λi=>(i.size,i.bytes,i.zero))=some (τ.size,b,some (Ar τ (Aq τ)))) (hb:b<=256):
  ∃i:TypeInfo,P.info? t=some i/\i.size=τ.size/\i.bytes<=256/\i.zero=some (Ar τ (Aq τ)):=by
 cases hi:P.info? t with
 |none=>rw [hi] at h;cases h
 |some i=>
  rw [hi] at h
  simp only [Option.map_some,Option.some.injEq,Prod.mk.injEq] at h
  exact ⟨i,rfl,h.1,by rw [h.2.1];exact hb,h.2.2⟩
theorem tS {P:Program} {t:TypeId} (h:((P.info? t).map λi=>i.size==0)=some false): ∃i:TypeInfo,P.info? t=some i/\i.size≠0:=by
 cases hi:P.info? t with
 |none=>rw [hi] at h;cases h
 |some i=>rw [hi] at h;simp only [Option.map_some,Option.some.injEq] at h;exact ⟨i,rfl,by simpa using h⟩
theorem ME: ∀t τ,Cl.ty t=some τ->l7 Tryz.prog Cl t τ:=by
 intro t τ h
 simp only [Cl] at h
 split at h
 ·cases h;exact ⟨Dd (b:=8) (by kernel_rfl) (by omega),(by kernel_rfl:Tryz.prog.underlying 2=some (.int .i64))⟩
 ·cases h;exact ⟨Dd (b:=8) (by kernel_rfl) (by omega),(by kernel_rfl:Tryz.prog.underlying 3=some (.int .i64))⟩
 ·cases h;exact ⟨Dd (b:=1) (by kernel_rfl) (by omega),(by kernel_rfl:Tryz.prog.underlying 4=some (.bool))⟩
 ·cases h;exact ⟨Dd (b:=1) (by kernel_rfl) (by omega),(by kernel_rfl:Tryz.prog.underlying 5=some (.int .u8))⟩
 ·cases h;exact ⟨Dd (b:=16) (by kernel_rfl) (by omega),(by kernel_rfl:Tryz.prog.underlying 9=some (.string))⟩
 ·cases h;exact ⟨Dd (b:=24) (by kernel_rfl) (by omega),⟨2,by kernel_rfl,rfl,rfl⟩⟩
 ·cases h;exact ⟨Dd (b:=24) (by kernel_rfl) (by omega),⟨28,by kernel_rfl,rfl,rfl⟩⟩
 ·cases h;exact ⟨Dd (b:=24) (by kernel_rfl) (by omega),⟨5,by kernel_rfl,rfl,rfl⟩⟩
 ·cases h;exact ⟨Dd (b:=24) (by kernel_rfl) (by omega),⟨3,by kernel_rfl,rfl,rfl⟩⟩
 ·cases h;exact ⟨Dd (b:=24) (by kernel_rfl) (by omega),⟨22,by kernel_rfl,rfl,rfl⟩⟩
 ·cases h;exact ⟨Dd (b:=24) (by kernel_rfl) (by omega),⟨44,by kernel_rfl,rfl,rfl⟩⟩
 ·cases h;exact ⟨Dd (b:=24) (by kernel_rfl) (by omega),⟨53,by kernel_rfl,rfl,rfl⟩⟩
 ·cases h;exact ⟨Dd (b:=24) (by kernel_rfl) (by omega),⟨60,by kernel_rfl,rfl,rfl⟩⟩
 ·cases h;exact ⟨Dd (b:=8) (by kernel_rfl) (by omega),⟨9,2,by kernel_rfl⟩⟩
 ·cases h;exact ⟨Dd (b:=8) (by kernel_rfl) (by omega),⟨9,4,by kernel_rfl⟩⟩
 ·cases h;exact ⟨Dd (b:=72) (by kernel_rfl) (by omega),⟨fieldsOf Tryz.prog 44,by kernel_rfl⟩⟩
 ·cases h;exact ⟨Dd (b:=72) (by kernel_rfl) (by omega),⟨fieldsOf Tryz.prog 53,by kernel_rfl⟩⟩
 ·cases h;exact ⟨Dd (b:=48) (by kernel_rfl) (by omega),⟨fieldsOf Tryz.prog 24,by kernel_rfl⟩⟩
 ·cases h;exact ⟨Dd (b:=48) (by kernel_rfl) (by omega),⟨fieldsOf Tryz.prog 30,by kernel_rfl⟩⟩
 ·cases h;exact ⟨Dd (b:=80) (by kernel_rfl) (by omega),⟨fieldsOf Tryz.prog 47,by kernel_rfl⟩⟩
 ·cases h;exact ⟨Dd (b:=56) (by kernel_rfl) (by omega),⟨fieldsOf Tryz.prog 106,by kernel_rfl⟩⟩
 ·cases h;exact ⟨Dd (b:=176) (by kernel_rfl) (by omega),⟨fieldsOf Tryz.prog 62,by kernel_rfl⟩⟩
 ·cases h;exact ⟨Dd (b:=8) (by kernel_rfl) (by omega),⟨62,by kernel_rfl⟩⟩
 ·cases h;exact ⟨Dd (b:=48) (by kernel_rfl) (by omega),⟨fieldsOf Tryz.prog 83,by kernel_rfl⟩⟩
 ·cases h;exact ⟨Dd (b:=8) (by kernel_rfl) (by omega),⟨83,by kernel_rfl⟩⟩
 ·cases h
theorem QB: ∀t te,Cl.elem t=some te->Tryz.prog.underlying t=some (.slice te):=by
 intro t te h
 simp only [Cl] at h
 split at h
 ·cases h;kernel_rfl
 ·cases h;kernel_rfl
 ·cases h;kernel_rfl
 ·cases h;kernel_rfl
 ·cases h;kernel_rfl
 ·cases h;kernel_rfl
 ·cases h;kernel_rfl
 ·cases h;kernel_rfl
 ·cases h
theorem WL: ∀t v,Cl.mapOf t=some v-> ∃k e,Tryz.prog.underlying t=some (.map k e)/\Tryz.prog.underlying k=some .string/\Cl.ty e=some v/\v.flat=true/\v.Ac=false:=by
 intro t v h
 simp only [Cl] at h
 split at h
 ·cases h;exact ⟨9,2,by kernel_rfl,by kernel_rfl,rfl,rfl,rfl⟩
 ·cases h;exact ⟨9,4,by kernel_rfl,by kernel_rfl,rfl,rfl,rfl⟩
 ·cases h
theorem Ey {P:Program} {s:TypeId} {f o:Nat} {t:TypeId} (hu:P.underlying s=some (.struct (fieldsOf P s))) (hf:((fieldsOf P s)[f]?).map (λfd=>(fd.offset,fd.type))=some (o,t)) (hi:((P.info? t).map λi=>i.size==0)=some false):
  ∃(fs:Array Field) (fd:Field),P.underlying s=some (.struct fs)/\fs[f]?=some fd/\fd.offset=o/\fd.type=t/\ ∃i:TypeInfo,P.info? t=some i/\i.size≠0:=by
 cases h:(fieldsOf P s)[f]? with
 |none=>rw [h] at hf;cases hf
 |some fd=>
  rw [h] at hf
  simp only [Option.map_some,Option.some.injEq,Prod.mk.injEq] at hf
  exact ⟨fieldsOf P s,fd,hu,h,hf.1,hf.2,tS hi⟩
theorem WN: ∀s f o t,Cl.off s f=some (o,t)-> ∃(fs:Array Field) (fd:Field),Tryz.prog.underlying s=some (.struct fs)/\fs[f]?=some fd/\fd.offset=o/\fd.type=t/\ ∃i:TypeInfo,Tryz.prog.info? t=some i/\i.size≠0:=by
 intro s f o t h
 simp only [Cl] at h
 split at h
 ·cases h;exact Ey (by kernel_rfl) (by kernel_rfl) (by kernel_rfl)
 ·cases h;exact Ey (by kernel_rfl) (by kernel_rfl) (by kernel_rfl)
 ·cases h;exact Ey (by kernel_rfl) (by kernel_rfl) (by kernel_rfl)
 ·cases h;exact Ey (by kernel_rfl) (by kernel_rfl) (by kernel_rfl)
 ·cases h;exact Ey (by kernel_rfl) (by kernel_rfl) (by kernel_rfl)
 ·cases h;exact Ey (by kernel_rfl) (by kernel_rfl) (by kernel_rfl)
 ·cases h;exact Ey (by kernel_rfl) (by kernel_rfl) (by kernel_rfl)
 ·cases h;exact Ey (by kernel_rfl) (by kernel_rfl) (by kernel_rfl)
 ·cases h;exact Ey (by kernel_rfl) (by kernel_rfl) (by kernel_rfl)
 ·cases h;exact Ey (by kernel_rfl) (by kernel_rfl) (by kernel_rfl)
 ·cases h;exact Ey (by kernel_rfl) (by kernel_rfl) (by kernel_rfl)
 ·cases h;exact Ey (by kernel_rfl) (by kernel_rfl) (by kernel_rfl)
 ·cases h;exact Ey (by kernel_rfl) (by kernel_rfl) (by kernel_rfl)
 ·cases h;exact Ey (by kernel_rfl) (by kernel_rfl) (by kernel_rfl)
 ·cases h;exact Ey (by kernel_rfl) (by kernel_rfl) (by kernel_rfl)
 ·cases h;exact Ey (by kernel_rfl) (by kernel_rfl) (by kernel_rfl)
 ·cases h;exact Ey (by kernel_rfl) (by kernel_rfl) (by kernel_rfl)
 ·cases h;exact Ey (by kernel_rfl) (by kernel_rfl) (by kernel_rfl)
 ·cases h;exact Ey (by kernel_rfl) (by kernel_rfl) (by kernel_rfl)
 ·cases h;exact Ey (by kernel_rfl) (by kernel_rfl) (by kernel_rfl)
 ·cases h;exact Ey (by kernel_rfl) (by kernel_rfl) (by kernel_rfl)
 ·cases h;exact Ey (by kernel_rfl) (by kernel_rfl) (by kernel_rfl)
 ·cases h;exact Ey (by kernel_rfl) (by kernel_rfl) (by kernel_rfl)
 ·cases h;exact Ey (by kernel_rfl) (by kernel_rfl) (by kernel_rfl)
 ·cases h;exact Ey (by kernel_rfl) (by kernel_rfl) (by kernel_rfl)
 ·cases h;exact Ey (by kernel_rfl) (by kernel_rfl) (by kernel_rfl)
 ·cases h;exact Ey (by kernel_rfl) (by kernel_rfl) (by kernel_rfl)
 ·cases h;exact Ey (by kernel_rfl) (by kernel_rfl) (by kernel_rfl)
 ·cases h
theorem Wh {P:Program} {t:TypeId} (hu:P.underlying t=some (.struct (fieldsOf P t))) (Iu:Array (Nat×Nat)) (hp: ∀w,(placesOf (fieldsOf P t)).run P w= .ok Iu w)
  (h: ∀f o u ρ,Cl.off t f=some (o,u)->Cl.ty u=some ρ->Iu[f]?=some (o,ρ.size)):
  ∃(fs:Array Field) (Iu:Array (Nat×Nat)),P.underlying t=some (.struct fs)/\(∀w,(placesOf fs).run P w= .ok Iu w)/\ ∀f o u ρ,Cl.off t f=some (o,u)->Cl.ty u=some ρ->Iu[f]?=some (o,ρ.size):=
 ⟨fieldsOf P t,Iu,hu,hp,h⟩
def Pl (t:TypeId):Array (Nat×Nat):=match t with
 |44=> #[(0,1),(1,1),(2,1)]
 |53=> #[(0,1),(1,1),(2,1)]
 |24=> #[(0,1),(1,1),(2,1)]
 |30=> #[(0,1),(1,1),(2,1)]
 |47=> #[(0,1),(1,1),(2,1),(3,1)]
 |106=> #[(0,1),(1,1),(2,1)]
 |62=> #[(0,3),(3,1),(4,1),(5,1),(6,1),(7,1),(8,1)]
 |83=> #[(0,1),(1,1)]
 |_=> #[]
theorem QC: ∀t τ,Cl.ty t=some τ->τ.Ac=true-> ∃(fs:Array Field) (Iu:Array (Nat×Nat)),Tryz.prog.underlying t=some (.struct fs)/\(∀w,(placesOf fs).run Tryz.prog w= .ok Iu w)/\
  ∀f o u ρ,Cl.off t f=some (o,u)->Cl.ty u=some ρ->Iu[f]?=some (o,ρ.size):=by
 intro t τ h hs
 have all: ∀t,∀f o u ρ,Cl.off t f=some (o,u)->Cl.ty u=some ρ->(Pl t)[f]?=some (o,ρ.size):=by
  intro t f o u ρ ho hu
  simp only [Cl] at ho
  split at ho
  all_goals first
   |(cases ho;cases hu;rfl)
   |cases ho
 simp only [Cl] at h
 split at h
 ·cases h;simp [Ty.Ac] at hs
 ·cases h;simp [Ty.Ac] at hs
 ·cases h;simp [Ty.Ac] at hs
 ·cases h;simp [Ty.Ac] at hs
 ·cases h;simp [Ty.Ac] at hs
 ·cases h;simp [Ty.Ac] at hs
 ·cases h;simp [Ty.Ac] at hs
 ·cases h;simp [Ty.Ac] at hs
 ·cases h;simp [Ty.Ac] at hs
 ·cases h;simp [Ty.Ac] at hs
 ·cases h;simp [Ty.Ac] at hs
 ·cases h;simp [Ty.Ac] at hs
 ·cases h;simp [Ty.Ac] at hs
 ·cases h;simp [Ty.Ac] at hs
 ·cases h;simp [Ty.Ac] at hs
 ·exact Wh (by kernel_rfl) (Pl 44) (λw=>by kernel_rfl) (all _)
 ·exact Wh (by kernel_rfl) (Pl 53) (λw=>by kernel_rfl) (all _)
 ·exact Wh (by kernel_rfl) (Pl 24) (λw=>by kernel_rfl) (all _)
 ·exact Wh (by kernel_rfl) (Pl 30) (λw=>by kernel_rfl) (all _)
 ·exact Wh (by kernel_rfl) (Pl 47) (λw=>by kernel_rfl) (all _)
 ·exact Wh (by kernel_rfl) (Pl 106) (λw=>by kernel_rfl) (all _)
 ·exact Wh (by kernel_rfl) (Pl 62) (λw=>by kernel_rfl) (all _)
 ·cases h;simp [Ty.Ac] at hs
 ·exact Wh (by kernel_rfl) (Pl 83) (λw=>by kernel_rfl) (all _)
 ·cases h;simp [Ty.Ac] at hs
 ·cases h
theorem Bk:Cb Tryz.prog Cl:=⟨QC,ME,QB,WL,WN⟩
def Nu:Tab:= {Cl with oW:=true,uK:=true}
theorem Mo:Cb Tryz.prog Nu:=Bk.flags true true
def WO:Tab:= {Nu with marks:= [Sr]}
theorem WQ:Cb Tryz.prog WO:=Mo.jW [Sr]
def AL (l:List Nat):Tab:= {Nu with marks:=l}
theorem AM (l:List Nat):Cb Tryz.prog (AL l):=Mo.jW l
theorem mixed:Tryz.prog.follows .mixedOrders=true:=by kernel_rfl
end Go.Proofs.YtjbdmibbbpdnnaaGreat
