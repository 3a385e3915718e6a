/-
  Part 36 of the proof that the statement FnLowerBounds holds.
-/
import Derived.Test.YtkkdpknjohcekaaGreatCFLowerBounds34
import Derived.Test.YtkkdpknjohcekaaGreatProg
import Derived.KernelRfl
namespace Go.Proofs.YtkkdpknjohcekaaGreat
open Go.RowKit
abbrev tI:Ty:= .int .i64
abbrev tL:Ty:= .slice tI
abbrev mE:Ty:= .slice tL
abbrev cy:Ty:= .pair tL (.pair mE (.pair tL .unit))
abbrev Hk:Ty:= .pair tI (.pair .str (.pair mE .unit))
abbrev bj:Ty:= .pair mE (.pair tL (.pair tL (.pair .bool .unit)))
abbrev AN:Ty:= .pair tI (.pair (.slice mE) (.pair (.slice mE) .unit))
abbrev uN:Ty:= .pair Hk (.pair mE (.pair tL (.pair (.smap tI) (.pair tL (.pair tL (.pair mE .unit))))))
abbrev dk:Ty:= .pair (.slice cy) (.pair (.slice (.smap tI)) .unit)
abbrev Afq:Ty:= .pair Hk (.pair (.optr dk) (.pair tI (.pair .bool (.pair tL (.pair tI (.pair tI (.pair .bool .unit)))))))
abbrev Afp:Ty:= .pair (.slice (.int .u8)) (.pair tI (.pair (.int .u64) .unit))
def Fz:Tab where
 ty:= λt=>match t with
  |2=>some tI
  |3=>some tI
  |4=>some .bool
  |5=>some (.int .u8)
  |9=>some .str
  |33=>some tL
  |27=>some mE
  |22=>some (.slice (.int .u8))
  |70=>some tL
  |163=>some (.slice mE)
  |31=>some (.slice cy)
  |132=>some (.slice (.smap tI))
  |91=>some (.smap tI)
  |142=>some (.smap .bool)
  |47=>some cy
  |29=>some Hk
  |72=>some bj
  |165=>some AN
  |170=>some AN
  |93=>some uN
  |87=>some (.optr uN)
  |134=>some dk
  |76=>some (.optr dk)
  |84=>some Afq
  |80=>some (.optr Afq)
  |26=>some (.int .u64)
  |69=>some Afp
  |_=>none
 elem:= λt=>match t with
  |33=>some 2
  |27=>some 33
  |22=>some 5
  |70=>some 3
  |163=>some 27
  |31=>some 47
  |132=>some 91
  |_=>none
 mapOf:= λt=>match t with
  |91=>some tI
  |142=>some .bool
  |_=>none
 off:= λs f=>match s,f with
  |47,0=>some (0,33)
  |47,1=>some (1,27)
  |47,2=>some (2,33)
  |29,0=>some (0,2)
  |29,1=>some (1,9)
  |29,2=>some (2,27)
  |72,0=>some (0,27)
  |72,1=>some (1,33)
  |72,2=>some (2,70)
  |72,3=>some (3,4)
  |165,0=>some (0,2)
  |165,1=>some (1,163)
  |165,2=>some (2,163)
  |170,0=>some (0,2)
  |170,1=>some (1,163)
  |170,2=>some (2,163)
  |93,0=>some (0,29)
  |93,1=>some (3,27)
  |93,2=>some (4,33)
  |93,3=>some (5,91)
  |93,4=>some (6,33)
  |93,5=>some (7,33)
  |93,6=>some (8,27)
  |134,0=>some (0,31)
  |134,1=>some (1,132)
  |84,0=>some (0,29)
  |84,1=>some (3,76)
  |84,2=>some (4,2)
  |84,3=>some (5,4)
  |84,4=>some (6,33)
  |84,5=>some (7,2)
  |84,6=>some (8,2)
  |84,7=>some (9,4)
  |69,0=>some (0,22)
  |69,1=>some (1,3)
  |69,2=>some (2,26)
  |_,_=>none
def fieldsOf (P:Program) (s:TypeId):Array Field:=match P.underlying s with|some (.struct fs)=>fs|_=> #[]
theorem Gt {P:Program} {t:TypeId} {τ:Ty} {b:Nat} (h:(P.info? t).map (λi=>(i.size,i.bytes,i.zero))=some (τ.size,b,some (Ca τ (Bq τ)))) (hb:b<=256):
  ∃i:TypeInfo,P.info? t=some i/\i.size=τ.size/\i.bytes<=256/\i.zero=some (Ca τ (Bq τ)):=by
 cases hi:P.info? t with
 |none=>rw [hi] at h;cases h
 |some i=>
  rw [hi] at h
  simp only [Al,Aa,Ae] at h
  exact ⟨i,rfl,h.1,by rw [h.2.1];exact hb,h.2.2⟩
theorem zS {P:Program} {t:TypeId} (h:((P.info? t).map λi=>i.size==0)=some false): ∃i:TypeInfo,P.info? t=some i/\i.size≠0:=by
 cases hi:P.info? t with
 |none=>rw [hi] at h;cases h
 |some i=>rw [hi] at h;simp only [Al,Aa] at h;exact ⟨i,rfl,by simpa using h⟩
theorem Aan: ∀t τ,Fz.ty t=some τ->qT Tryz.prog Fz t τ:=by
 intro t τ h
 simp only [Fz] at h
 split at h
 ·cases h;exact ⟨Gt (b:=8) (by kernel_rfl) (by omega),(by kernel_rfl:Tryz.prog.underlying 2=some (.int .i64))⟩
 ·cases h;exact ⟨Gt (b:=8) (by kernel_rfl) (by omega),(by kernel_rfl:Tryz.prog.underlying 3=some (.int .i64))⟩
 ·cases h;exact ⟨Gt (b:=1) (by kernel_rfl) (by omega),(by kernel_rfl:Tryz.prog.underlying 4=some (.bool))⟩
 ·cases h;exact ⟨Gt (b:=1) (by kernel_rfl) (by omega),(by kernel_rfl:Tryz.prog.underlying 5=some (.int .u8))⟩
 ·cases h;exact ⟨Gt (b:=16) (by kernel_rfl) (by omega),(by kernel_rfl:Tryz.prog.underlying 9=some (.string))⟩
 ·cases h;exact ⟨Gt (b:=24) (by kernel_rfl) (by omega),⟨2,by kernel_rfl,rfl,rfl⟩⟩
 ·cases h;exact ⟨Gt (b:=24) (by kernel_rfl) (by omega),⟨33,by kernel_rfl,rfl,rfl⟩⟩
 ·cases h;exact ⟨Gt (b:=24) (by kernel_rfl) (by omega),⟨5,by kernel_rfl,rfl,rfl⟩⟩
 ·cases h;exact ⟨Gt (b:=24) (by kernel_rfl) (by omega),⟨3,by kernel_rfl,rfl,rfl⟩⟩
 ·cases h;exact ⟨Gt (b:=24) (by kernel_rfl) (by omega),⟨27,by kernel_rfl,rfl,rfl⟩⟩
 ·cases h;exact ⟨Gt (b:=24) (by kernel_rfl) (by omega),⟨47,by kernel_rfl,rfl,rfl⟩⟩
 ·cases h;exact ⟨Gt (b:=24) (by kernel_rfl) (by omega),⟨91,by kernel_rfl,rfl,rfl⟩⟩
 ·cases h;exact ⟨Gt (b:=8) (by kernel_rfl) (by omega),⟨9,2,by kernel_rfl⟩⟩
 ·cases h;exact ⟨Gt (b:=8) (by kernel_rfl) (by omega),⟨9,4,by kernel_rfl⟩⟩
 ·cases h;exact ⟨Gt (b:=72) (by kernel_rfl) (by omega),⟨fieldsOf Tryz.prog 47,by kernel_rfl⟩⟩
 ·cases h;exact ⟨Gt (b:=48) (by kernel_rfl) (by omega),⟨fieldsOf Tryz.prog 29,by kernel_rfl⟩⟩
 ·cases h;exact ⟨Gt (b:=80) (by kernel_rfl) (by omega),⟨fieldsOf Tryz.prog 72,by kernel_rfl⟩⟩
 ·cases h;exact ⟨Gt (b:=56) (by kernel_rfl) (by omega),⟨fieldsOf Tryz.prog 165,by kernel_rfl⟩⟩
 ·cases h;exact ⟨Gt (b:=56) (by kernel_rfl) (by omega),⟨fieldsOf Tryz.prog 170,by kernel_rfl⟩⟩
 ·cases h;exact ⟨Gt (b:=176) (by kernel_rfl) (by omega),⟨fieldsOf Tryz.prog 93,by kernel_rfl⟩⟩
 ·cases h;exact ⟨Gt (b:=8) (by kernel_rfl) (by omega),⟨93,by kernel_rfl⟩⟩
 ·cases h;exact ⟨Gt (b:=48) (by kernel_rfl) (by omega),⟨fieldsOf Tryz.prog 134,by kernel_rfl⟩⟩
 ·cases h;exact ⟨Gt (b:=8) (by kernel_rfl) (by omega),⟨134,by kernel_rfl⟩⟩
 ·cases h;exact ⟨Gt (b:=120) (by kernel_rfl) (by omega),⟨fieldsOf Tryz.prog 84,by kernel_rfl⟩⟩
 ·cases h;exact ⟨Gt (b:=8) (by kernel_rfl) (by omega),⟨84,by kernel_rfl⟩⟩
 ·cases h;exact ⟨Gt (b:=8) (by kernel_rfl) (by omega),(by kernel_rfl:Tryz.prog.underlying 26=some (.int .u64))⟩
 ·cases h;exact ⟨Gt (b:=40) (by kernel_rfl) (by omega),⟨fieldsOf Tryz.prog 69,by kernel_rfl⟩⟩
 ·cases h
theorem Adu: ∀t te,Fz.elem t=some te->Tryz.prog.underlying t=some (.slice te):=by
 intro t te h
 simp only [Fz] at h
 split at h
 ·cases h;kernel_rfl
 ·cases h;kernel_rfl
 ·cases h;kernel_rfl
 ·cases h;kernel_rfl
 ·cases h;kernel_rfl
 ·cases h;kernel_rfl
 ·cases h;kernel_rfl
 ·cases h
theorem Aij: ∀t v,Fz.mapOf t=some v-> ∃k e,Tryz.prog.underlying t=some (.map k e)/\Tryz.prog.underlying k=some .string/\Fz.ty e=some v/\v.flat=true/\v.Ao=false:=by
 intro t v h
 simp only [Fz] at h
 split at h
 ·cases h;exact ⟨9,2,by kernel_rfl,by kernel_rfl,rfl,rfl,rfl⟩
 ·cases h;exact ⟨9,4,by kernel_rfl,by kernel_rfl,rfl,rfl,rfl⟩
 ·cases h
theorem Hs {P:Program} {s:TypeId} {f o:Nat} {t:TypeId} (hu:P.underlying s=some (.struct (fieldsOf P s))) (hf:((fieldsOf P s)[f]?).map (λfd=>(fd.offset,fd.type))=some (o,t)) (hi:((P.info? t).map λi=>i.size==0)=some false):
  ∃(fs:Array Field) (fd:Field),P.underlying s=some (.struct fs)/\fs[f]?=some fd/\fd.offset=o/\fd.type=t/\ ∃i:TypeInfo,P.info? t=some i/\i.size≠0:=by
 cases h:(fieldsOf P s)[f]? with
 |none=>rw [h] at hf;cases hf
 |some fd=>
  rw [h] at hf
  simp only [Al,Aa,Ae] at hf
  exact ⟨fieldsOf P s,fd,hu,h,hf.1,hf.2,zS hi⟩
theorem Ail: ∀s f o t,Fz.off s f=some (o,t)-> ∃(fs:Array Field) (fd:Field),Tryz.prog.underlying s=some (.struct fs)/\fs[f]?=some fd/\fd.offset=o/\fd.type=t/\ ∃i:TypeInfo,Tryz.prog.info? t=some i/\i.size≠0:=by
 intro s f o t h
 simp only [Fz] at h
 split at h
 ·cases h;exact Hs (by kernel_rfl) (by kernel_rfl) (by kernel_rfl)
 ·cases h;exact Hs (by kernel_rfl) (by kernel_rfl) (by kernel_rfl)
 ·cases h;exact Hs (by kernel_rfl) (by kernel_rfl) (by kernel_rfl)
 ·cases h;exact Hs (by kernel_rfl) (by kernel_rfl) (by kernel_rfl)
 ·cases h;exact Hs (by kernel_rfl) (by kernel_rfl) (by kernel_rfl)
 ·cases h;exact Hs (by kernel_rfl) (by kernel_rfl) (by kernel_rfl)
 ·cases h;exact Hs (by kernel_rfl) (by kernel_rfl) (by kernel_rfl)
 ·cases h;exact Hs (by kernel_rfl) (by kernel_rfl) (by kernel_rfl)
 ·cases h;exact Hs (by kernel_rfl) (by kernel_rfl) (by kernel_rfl)
 ·cases h;exact Hs (by kernel_rfl) (by kernel_rfl) (by kernel_rfl)
 ·cases h;exact Hs (by kernel_rfl) (by kernel_rfl) (by kernel_rfl)
 ·cases h;exact Hs (by kernel_rfl) (by kernel_rfl) (by kernel_rfl)
 ·cases h;exact Hs (by kernel_rfl) (by kernel_rfl) (by kernel_rfl)
 ·cases h;exact Hs (by kernel_rfl) (by kernel_rfl) (by kernel_rfl)
 ·cases h;exact Hs (by kernel_rfl) (by kernel_rfl) (by kernel_rfl)
 ·cases h;exact Hs (by kernel_rfl) (by kernel_rfl) (by kernel_rfl)
 ·cases h;exact Hs (by kernel_rfl) (by kernel_rfl) (by kernel_rfl)
 ·cases h;exact Hs (by kernel_rfl) (by kernel_rfl) (by kernel_rfl)
 ·cases h;exact Hs (by kernel_rfl) (by kernel_rfl) (by kernel_rfl)
 ·cases h;exact Hs (by kernel_rfl) (by kernel_rfl) (by kernel_rfl)
 ·cases h;exact Hs (by kernel_rfl) (by kernel_rfl) (by kernel_rfl)
 ·cases h;exact Hs (by kernel_rfl) (by kernel_rfl) (by kernel_rfl)
 ·cases h;exact Hs (by kernel_rfl) (by kernel_rfl) (by kernel_rfl)
 ·cases h;exact Hs (by kernel_rfl) (by kernel_rfl) (by kernel_rfl)
 ·cases h;exact Hs (by kernel_rfl) (by kernel_rfl) (by kernel_rfl)
 ·cases h;exact Hs (by kernel_rfl) (by kernel_rfl) (by kernel_rfl)
 ·cases h;exact Hs (by kernel_rfl) (by kernel_rfl) (by kernel_rfl)
 ·cases h;exact Hs (by kernel_rfl) (by kernel_rfl) (by kernel_rfl)
 ·cases h;exact Hs (by kernel_rfl) (by kernel_rfl) (by kernel_rfl)
 ·cases h;exact Hs (by kernel_rfl) (by kernel_rfl) (by kernel_rfl)
 ·cases h;exact Hs (by kernel_rfl) (by kernel_rfl) (by kernel_rfl)
 ·cases h;exact Hs (by kernel_rfl) (by kernel_rfl) (by kernel_rfl)
 ·cases h;exact Hs (by kernel_rfl) (by kernel_rfl) (by kernel_rfl)
 ·cases h;exact Hs (by kernel_rfl) (by kernel_rfl) (by kernel_rfl)
 ·cases h;exact Hs (by kernel_rfl) (by kernel_rfl) (by kernel_rfl)
 ·cases h;exact Hs (by kernel_rfl) (by kernel_rfl) (by kernel_rfl)
 ·cases h
theorem aY {P:Program} {t:TypeId} (hu:P.underlying t=some (.struct (fieldsOf P t))) (Oy:Array (Nat×Nat)) (hp: ∀w,(placesOf (fieldsOf P t)).run P w= .ok Oy w)
  (h: ∀f o u ρ,Fz.off t f=some (o,u)->Fz.ty u=some ρ->Oy[f]?=some (o,ρ.size)):
  ∃(fs:Array Field) (Oy:Array (Nat×Nat)),P.underlying t=some (.struct fs)/\(∀w,(placesOf fs).run P w= .ok Oy w)/\ ∀f o u ρ,Fz.off t f=some (o,u)->Fz.ty u=some ρ->Oy[f]?=some (o,ρ.size):=
 ⟨fieldsOf P t,Oy,hu,hp,h⟩
def Vg (t:TypeId):Array (Nat×Nat):=match t with
 |47=> #[(0,1),(1,1),(2,1)]
 |29=> #[(0,1),(1,1),(2,1)]
 |72=> #[(0,1),(1,1),(2,1),(3,1)]
 |165=> #[(0,1),(1,1),(2,1)]
 |170=> #[(0,1),(1,1),(2,1)]
 |93=> #[(0,3),(3,1),(4,1),(5,1),(6,1),(7,1),(8,1)]
 |134=> #[(0,1),(1,1)]
 |84=> #[(0,3),(3,1),(4,1),(5,1),(6,1),(7,1),(8,1),(9,1)]
 |69=> #[(0,1),(1,1),(2,1)]
 |_=> #[]
theorem Adv: ∀t τ,Fz.ty t=some τ->τ.Ao=true-> ∃(fs:Array Field) (Oy:Array (Nat×Nat)),Tryz.prog.underlying t=some (.struct fs)/\(∀w,(placesOf fs).run Tryz.prog w= .ok Oy w)/\
  ∀f o u ρ,Fz.off t f=some (o,u)->Fz.ty u=some ρ->Oy[f]?=some (o,ρ.size):=by
 intro t τ h hs
 have all: ∀t,∀f o u ρ,Fz.off t f=some (o,u)->Fz.ty u=some ρ->(Vg t)[f]?=some (o,ρ.size):=by
  intro t f o u ρ ho hu
  simp only [Fz] at ho
  split at ho
  all_goals first
   |(cases ho;cases hu;rfl)
   |cases ho
 simp only [Fz] at h
 split at h
 ·cases h;simp [Ty.Ao] at hs
 ·cases h;simp [Ty.Ao] at hs
 ·cases h;simp [Ty.Ao] at hs
 ·cases h;simp [Ty.Ao] at hs
 ·cases h;simp [Ty.Ao] at hs
 ·cases h;simp [Ty.Ao] at hs
 ·cases h;simp [Ty.Ao] at hs
 ·cases h;simp [Ty.Ao] at hs
 ·cases h;simp [Ty.Ao] at hs
 ·cases h;simp [Ty.Ao] at hs
 ·cases h;simp [Ty.Ao] at hs
 ·cases h;simp [Ty.Ao] at hs
 ·cases h;simp [Ty.Ao] at hs
 ·cases h;simp [Ty.Ao] at hs
 ·exact aY (by kernel_rfl) (Vg 47) (λw=>by kernel_rfl) (all _)
 ·exact aY (by kernel_rfl) (Vg 29) (λw=>by kernel_rfl) (all _)
 ·exact aY (by kernel_rfl) (Vg 72) (λw=>by kernel_rfl) (all _)
 ·exact aY (by kernel_rfl) (Vg 165) (λw=>by kernel_rfl) (all _)
 ·exact aY (by kernel_rfl) (Vg 170) (λw=>by kernel_rfl) (all _)
 ·exact aY (by kernel_rfl) (Vg 93) (λw=>by kernel_rfl) (all _)
 ·cases h;simp [Ty.Ao] at hs
 ·exact aY (by kernel_rfl) (Vg 134) (λw=>by kernel_rfl) (all _)
 ·cases h;simp [Ty.Ao] at hs
 ·exact aY (by kernel_rfl) (Vg 84) (λw=>by kernel_rfl) (all _)
 ·cases h;simp [Ty.Ao] at hs
 ·cases h;simp [Ty.Ao] at hs
 ·exact aY (by kernel_rfl) (Vg 69) (λw=>by kernel_rfl) (all _)
 ·cases h
theorem Dq:Eg Tryz.prog Fz:=⟨Adv,Aan,Adu,Aij,Ail⟩
def Ul:Tab:= {Fz with vd:=true,BI:=true}
theorem Tf:Eg Tryz.prog Ul:=Dq.flags true true
def Aim:Tab:= {Ul with marks:= [Qa]}
theorem Ain:Eg Tryz.prog Aim:=Tf.pR [Qa]
def uO (l:List Nat):Tab:= {Ul with marks:=l}
theorem uP (l:List Nat):Eg Tryz.prog (uO l):=Tf.pR l
theorem mixed:Tryz.prog.follows .mixedOrders=true:=by kernel_rfl
end Go.Proofs.YtkkdpknjohcekaaGreat
