/-
  Part 36 of the proof that the statement FnMethods holds.
-/
import Derived.Test.YtkkdpknjohcekaaGreatCFMethods34
import Derived.Test.YtkkdpknjohcekaaGreatProg
import Derived.KernelRfl
namespace Go.Proofs.YtkkdpknjohcekaaGreat
open Go.RowKit
abbrev tI:Ty:= .int .i64
abbrev tL:Ty:= .slice tI
abbrev nf:Ty:= .slice tL
abbrev CV:Ty:= .pair tL (.pair nf (.pair tL .unit))
abbrev Iw:Ty:= .pair tI (.pair .str (.pair nf .unit))
abbrev bl:Ty:= .pair nf (.pair tL (.pair tL (.pair .bool .unit)))
abbrev CT:Ty:= .pair tI (.pair (.slice nf) (.pair (.slice nf) .unit))
abbrev ic:Ty:= .pair Iw (.pair nf (.pair tL (.pair (.smap tI) (.pair tL (.pair tL (.pair nf .unit))))))
abbrev CS:Ty:= .pair (.slice CV) (.pair (.slice (.smap tI)) .unit)
abbrev Aio:Ty:= .pair Iw (.pair (.optr CS) (.pair tI (.pair .bool (.pair tL (.pair tI (.pair tI (.pair .bool .unit)))))))
abbrev Ain:Ty:= .pair (.slice (.int .u8)) (.pair tI (.pair (.int .u64) .unit))
def Fl:Tab where
 ty:= λt=>match t with
  |2=>some tI
  |3=>some tI
  |4=>some .bool
  |5=>some (.int .u8)
  |9=>some .str
  |33=>some tL
  |27=>some nf
  |22=>some (.slice (.int .u8))
  |70=>some tL
  |163=>some (.slice nf)
  |31=>some (.slice CV)
  |132=>some (.slice (.smap tI))
  |91=>some (.smap tI)
  |142=>some (.smap .bool)
  |47=>some CV
  |29=>some Iw
  |72=>some bl
  |165=>some CT
  |170=>some CT
  |93=>some ic
  |87=>some (.optr ic)
  |134=>some CS
  |76=>some (.optr CS)
  |84=>some Aio
  |80=>some (.optr Aio)
  |26=>some (.int .u64)
  |69=>some Ain
  |_=>none
 elem:= λt=>match t with
  |33=>some 2
  |27=>some 33
  |22=>some 5
  |70=>some 3
  |163=>some 27
  |31=>some 47
  |132=>some 91
  |_=>none
 mapOf:= λt=>match t with
  |91=>some tI
  |142=>some .bool
  |_=>none
 off:= λs f=>match s,f with
  |47,0=>some (0,33)
  |47,1=>some (1,27)
  |47,2=>some (2,33)
  |29,0=>some (0,2)
  |29,1=>some (1,9)
  |29,2=>some (2,27)
  |72,0=>some (0,27)
  |72,1=>some (1,33)
  |72,2=>some (2,70)
  |72,3=>some (3,4)
  |165,0=>some (0,2)
  |165,1=>some (1,163)
  |165,2=>some (2,163)
  |170,0=>some (0,2)
  |170,1=>some (1,163)
  |170,2=>some (2,163)
  |93,0=>some (0,29)
  |93,1=>some (3,27)
  |93,2=>some (4,33)
  |93,3=>some (5,91)
  |93,4=>some (6,33)
  |93,5=>some (7,33)
  |93,6=>some (8,27)
  |134,0=>some (0,31)
  |134,1=>some (1,132)
  |84,0=>some (0,29)
  |84,1=>some (3,76)
  |84,2=>some (4,2)
  |84,3=>some (5,4)
  |84,4=>some (6,33)
  |84,5=>some (7,2)
  |84,6=>some (8,2)
  |84,7=>some (9,4)
  |69,0=>some (0,22)
  |69,1=>some (1,3)
  |69,2=>some (2,26)
  |_,_=>none
def fieldsOf (P:Program) (s:TypeId):Array Field:=match P.underlying s with|some (.struct fs)=>fs|_=> #[]
theorem Fk {P:Program} {t:TypeId} {τ:Ty} {b:Nat} (h:(P.info? t).map (λi=>(i.size,i.bytes,i.zero))=some (τ.size,b,some (Ce τ (Bw τ)))) (hb:b<=256):
  ∃i:TypeInfo,P.info? t=some i/\i.size=τ.size/\i.bytes<=256/\i.zero=some (Ce τ (Bw τ)):=by
 cases hi:P.info? t with
 |none=>rw [hi] at h;cases h
 |some i=>
  rw [hi] at h
  simp only [An,Aa,Af] at h
  exact ⟨i,rfl,h.1,by rw [h.2.1];exact hb,h.2.2⟩
theorem BW {P:Program} {t:TypeId} (h:((P.info? t).map λi=>i.size==0)=some false): ∃i:TypeInfo,P.info? t=some i/\i.size≠0:=by
 cases hi:P.info? t with
 |none=>rw [hi] at h;cases h
 |some i=>rw [hi] at h;simp only [An,Aa] at h;exact ⟨i,rfl,by simpa using h⟩
theorem Acu: ∀t τ,Fl.ty t=some τ->ph Tryz.prog Fl t τ:=by
 intro t τ h
 simp only [Fl] at h
 split at h
 ·cases h;exact ⟨Fk (b:=8) (by kernel_rfl) (by omega),(by kernel_rfl:Tryz.prog.underlying 2=some (.int .i64))⟩
 ·cases h;exact ⟨Fk (b:=8) (by kernel_rfl) (by omega),(by kernel_rfl:Tryz.prog.underlying 3=some (.int .i64))⟩
 ·cases h;exact ⟨Fk (b:=1) (by kernel_rfl) (by omega),(by kernel_rfl:Tryz.prog.underlying 4=some (.bool))⟩
 ·cases h;exact ⟨Fk (b:=1) (by kernel_rfl) (by omega),(by kernel_rfl:Tryz.prog.underlying 5=some (.int .u8))⟩
 ·cases h;exact ⟨Fk (b:=16) (by kernel_rfl) (by omega),(by kernel_rfl:Tryz.prog.underlying 9=some (.string))⟩
 ·cases h;exact ⟨Fk (b:=24) (by kernel_rfl) (by omega),⟨2,by kernel_rfl,rfl,rfl⟩⟩
 ·cases h;exact ⟨Fk (b:=24) (by kernel_rfl) (by omega),⟨33,by kernel_rfl,rfl,rfl⟩⟩
 ·cases h;exact ⟨Fk (b:=24) (by kernel_rfl) (by omega),⟨5,by kernel_rfl,rfl,rfl⟩⟩
 ·cases h;exact ⟨Fk (b:=24) (by kernel_rfl) (by omega),⟨3,by kernel_rfl,rfl,rfl⟩⟩
 ·cases h;exact ⟨Fk (b:=24) (by kernel_rfl) (by omega),⟨27,by kernel_rfl,rfl,rfl⟩⟩
 ·cases h;exact ⟨Fk (b:=24) (by kernel_rfl) (by omega),⟨47,by kernel_rfl,rfl,rfl⟩⟩
 ·cases h;exact ⟨Fk (b:=24) (by kernel_rfl) (by omega),⟨91,by kernel_rfl,rfl,rfl⟩⟩
 ·cases h;exact ⟨Fk (b:=8) (by kernel_rfl) (by omega),⟨9,2,by kernel_rfl⟩⟩
 ·cases h;exact ⟨Fk (b:=8) (by kernel_rfl) (by omega),⟨9,4,by kernel_rfl⟩⟩
 ·cases h;exact ⟨Fk (b:=72) (by kernel_rfl) (by omega),⟨fieldsOf Tryz.prog 47,by kernel_rfl⟩⟩
 ·cases h;exact ⟨Fk (b:=48) (by kernel_rfl) (by omega),⟨fieldsOf Tryz.prog 29,by kernel_rfl⟩⟩
 ·cases h;exact ⟨Fk (b:=80) (by kernel_rfl) (by omega),⟨fieldsOf Tryz.prog 72,by kernel_rfl⟩⟩
 ·cases h;exact ⟨Fk (b:=56) (by kernel_rfl) (by omega),⟨fieldsOf Tryz.prog 165,by kernel_rfl⟩⟩
 ·cases h;exact ⟨Fk (b:=56) (by kernel_rfl) (by omega),⟨fieldsOf Tryz.prog 170,by kernel_rfl⟩⟩
 ·cases h;exact ⟨Fk (b:=176) (by kernel_rfl) (by omega),⟨fieldsOf Tryz.prog 93,by kernel_rfl⟩⟩
 ·cases h;exact ⟨Fk (b:=8) (by kernel_rfl) (by omega),⟨93,by kernel_rfl⟩⟩
 ·cases h;exact ⟨Fk (b:=48) (by kernel_rfl) (by omega),⟨fieldsOf Tryz.prog 134,by kernel_rfl⟩⟩
 ·cases h;exact ⟨Fk (b:=8) (by kernel_rfl) (by omega),⟨134,by kernel_rfl⟩⟩
 ·cases h;exact ⟨Fk (b:=120) (by kernel_rfl) (by omega),⟨fieldsOf Tryz.prog 84,by kernel_rfl⟩⟩
 ·cases h;exact ⟨Fk (b:=8) (by kernel_rfl) (by omega),⟨84,by kernel_rfl⟩⟩
 ·cases h;exact ⟨Fk (b:=8) (by kernel_rfl) (by omega),(by kernel_rfl:Tryz.prog.underlying 26=some (.int .u64))⟩
 ·cases h;exact ⟨Fk (b:=40) (by kernel_rfl) (by omega),⟨fieldsOf Tryz.prog 69,by kernel_rfl⟩⟩
 ·cases h
theorem Agn: ∀t te,Fl.elem t=some te->Tryz.prog.underlying t=some (.slice te):=by
 intro t te h
 simp only [Fl] at h
 split at h
 ·cases h;kernel_rfl
 ·cases h;kernel_rfl
 ·cases h;kernel_rfl
 ·cases h;kernel_rfl
 ·cases h;kernel_rfl
 ·cases h;kernel_rfl
 ·cases h;kernel_rfl
 ·cases h
theorem Alh: ∀t v,Fl.mapOf t=some v-> ∃k e,Tryz.prog.underlying t=some (.map k e)/\Tryz.prog.underlying k=some .string/\Fl.ty e=some v/\v.flat=true/\v.Ar=false:=by
 intro t v h
 simp only [Fl] at h
 split at h
 ·cases h;exact ⟨9,2,by kernel_rfl,by kernel_rfl,rfl,rfl,rfl⟩
 ·cases h;exact ⟨9,4,by kernel_rfl,by kernel_rfl,rfl,rfl,rfl⟩
 ·cases h
theorem Hz {P:Program} {s:TypeId} {f o:Nat} {t:TypeId} (hu:P.underlying s=some (.struct (fieldsOf P s))) (hf:((fieldsOf P s)[f]?).map (λfd=>(fd.offset,fd.type))=some (o,t)) (hi:((P.info? t).map λi=>i.size==0)=some false):
  ∃(fs:Array Field) (fd:Field),P.underlying s=some (.struct fs)/\fs[f]?=some fd/\fd.offset=o/\fd.type=t/\ ∃i:TypeInfo,P.info? t=some i/\i.size≠0:=by
 cases h:(fieldsOf P s)[f]? with
 |none=>rw [h] at hf;cases hf
 |some fd=>
  rw [h] at hf
  simp only [An,Aa,Af] at hf
  exact ⟨fieldsOf P s,fd,hu,h,hf.1,hf.2,BW hi⟩
theorem Alj: ∀s f o t,Fl.off s f=some (o,t)-> ∃(fs:Array Field) (fd:Field),Tryz.prog.underlying s=some (.struct fs)/\fs[f]?=some fd/\fd.offset=o/\fd.type=t/\ ∃i:TypeInfo,Tryz.prog.info? t=some i/\i.size≠0:=by
 intro s f o t h
 simp only [Fl] at h
 split at h
 ·cases h;exact Hz (by kernel_rfl) (by kernel_rfl) (by kernel_rfl)
 ·cases h;exact Hz (by kernel_rfl) (by kernel_rfl) (by kernel_rfl)
 ·cases h;exact Hz (by kernel_rfl) (by kernel_rfl) (by kernel_rfl)
 ·cases h;exact Hz (by kernel_rfl) (by kernel_rfl) (by kernel_rfl)
 ·cases h;exact Hz (by kernel_rfl) (by kernel_rfl) (by kernel_rfl)
 ·cases h;exact Hz (by kernel_rfl) (by kernel_rfl) (by kernel_rfl)
 ·cases h;exact Hz (by kernel_rfl) (by kernel_rfl) (by kernel_rfl)
 ·cases h;exact Hz (by kernel_rfl) (by kernel_rfl) (by kernel_rfl)
 ·cases h;exact Hz (by kernel_rfl) (by kernel_rfl) (by kernel_rfl)
 ·cases h;exact Hz (by kernel_rfl) (by kernel_rfl) (by kernel_rfl)
 ·cases h;exact Hz (by kernel_rfl) (by kernel_rfl) (by kernel_rfl)
 ·cases h;exact Hz (by kernel_rfl) (by kernel_rfl) (by kernel_rfl)
 ·cases h;exact Hz (by kernel_rfl) (by kernel_rfl) (by kernel_rfl)
 ·cases h;exact Hz (by kernel_rfl) (by kernel_rfl) (by kernel_rfl)
 ·cases h;exact Hz (by kernel_rfl) (by kernel_rfl) (by kernel_rfl)
 ·cases h;exact Hz (by kernel_rfl) (by kernel_rfl) (by kernel_rfl)
 ·cases h;exact Hz (by kernel_rfl) (by kernel_rfl) (by kernel_rfl)
 ·cases h;exact Hz (by kernel_rfl) (by kernel_rfl) (by kernel_rfl)
 ·cases h;exact Hz (by kernel_rfl) (by kernel_rfl) (by kernel_rfl)
 ·cases h;exact Hz (by kernel_rfl) (by kernel_rfl) (by kernel_rfl)
 ·cases h;exact Hz (by kernel_rfl) (by kernel_rfl) (by kernel_rfl)
 ·cases h;exact Hz (by kernel_rfl) (by kernel_rfl) (by kernel_rfl)
 ·cases h;exact Hz (by kernel_rfl) (by kernel_rfl) (by kernel_rfl)
 ·cases h;exact Hz (by kernel_rfl) (by kernel_rfl) (by kernel_rfl)
 ·cases h;exact Hz (by kernel_rfl) (by kernel_rfl) (by kernel_rfl)
 ·cases h;exact Hz (by kernel_rfl) (by kernel_rfl) (by kernel_rfl)
 ·cases h;exact Hz (by kernel_rfl) (by kernel_rfl) (by kernel_rfl)
 ·cases h;exact Hz (by kernel_rfl) (by kernel_rfl) (by kernel_rfl)
 ·cases h;exact Hz (by kernel_rfl) (by kernel_rfl) (by kernel_rfl)
 ·cases h;exact Hz (by kernel_rfl) (by kernel_rfl) (by kernel_rfl)
 ·cases h;exact Hz (by kernel_rfl) (by kernel_rfl) (by kernel_rfl)
 ·cases h;exact Hz (by kernel_rfl) (by kernel_rfl) (by kernel_rfl)
 ·cases h;exact Hz (by kernel_rfl) (by kernel_rfl) (by kernel_rfl)
 ·cases h;exact Hz (by kernel_rfl) (by kernel_rfl) (by kernel_rfl)
 ·cases h;exact Hz (by kernel_rfl) (by kernel_rfl) (by kernel_rfl)
 ·cases h;exact Hz (by kernel_rfl) (by kernel_rfl) (by kernel_rfl)
 ·cases h
theorem ba {P:Program} {t:TypeId} (hu:P.underlying t=some (.struct (fieldsOf P t))) (My:Array (Nat×Nat)) (hp: ∀w,(placesOf (fieldsOf P t)).run P w= .ok My w)
  (h: ∀f o u ρ,Fl.off t f=some (o,u)->Fl.ty u=some ρ->My[f]?=some (o,ρ.size)):
  ∃(fs:Array Field) (My:Array (Nat×Nat)),P.underlying t=some (.struct fs)/\(∀w,(placesOf fs).run P w= .ok My w)/\ ∀f o u ρ,Fl.off t f=some (o,u)->Fl.ty u=some ρ->My[f]?=some (o,ρ.size):=
 ⟨fieldsOf P t,My,hu,hp,h⟩
def Uy (t:TypeId):Array (Nat×Nat):=match t with
 |47=> #[(0,1),(1,1),(2,1)]
 |29=> #[(0,1),(1,1),(2,1)]
 |72=> #[(0,1),(1,1),(2,1),(3,1)]
 |165=> #[(0,1),(1,1),(2,1)]
 |170=> #[(0,1),(1,1),(2,1)]
 |93=> #[(0,3),(3,1),(4,1),(5,1),(6,1),(7,1),(8,1)]
 |134=> #[(0,1),(1,1)]
 |84=> #[(0,3),(3,1),(4,1),(5,1),(6,1),(7,1),(8,1),(9,1)]
 |69=> #[(0,1),(1,1),(2,1)]
 |_=> #[]
theorem Ago: ∀t τ,Fl.ty t=some τ->τ.Ar=true-> ∃(fs:Array Field) (My:Array (Nat×Nat)),Tryz.prog.underlying t=some (.struct fs)/\(∀w,(placesOf fs).run Tryz.prog w= .ok My w)/\
  ∀f o u ρ,Fl.off t f=some (o,u)->Fl.ty u=some ρ->My[f]?=some (o,ρ.size):=by
 intro t τ h hs
 have all: ∀t,∀f o u ρ,Fl.off t f=some (o,u)->Fl.ty u=some ρ->(Uy t)[f]?=some (o,ρ.size):=by
  intro t f o u ρ ho hu
  simp only [Fl] at ho
  split at ho
  all_goals first
   |(cases ho;cases hu;rfl)
   |cases ho
 simp only [Fl] at h
 split at h
 ·cases h;simp [Ty.Ar] at hs
 ·cases h;simp [Ty.Ar] at hs
 ·cases h;simp [Ty.Ar] at hs
 ·cases h;simp [Ty.Ar] at hs
 ·cases h;simp [Ty.Ar] at hs
 ·cases h;simp [Ty.Ar] at hs
 ·cases h;simp [Ty.Ar] at hs
 ·cases h;simp [Ty.Ar] at hs
 ·cases h;simp [Ty.Ar] at hs
 ·cases h;simp [Ty.Ar] at hs
 ·cases h;simp [Ty.Ar] at hs
 ·cases h;simp [Ty.Ar] at hs
 ·cases h;simp [Ty.Ar] at hs
 ·cases h;simp [Ty.Ar] at hs
 ·exact ba (by kernel_rfl) (Uy 47) (λw=>by kernel_rfl) (all _)
 ·exact ba (by kernel_rfl) (Uy 29) (λw=>by kernel_rfl) (all _)
 ·exact ba (by kernel_rfl) (Uy 72) (λw=>by kernel_rfl) (all _)
 ·exact ba (by kernel_rfl) (Uy 165) (λw=>by kernel_rfl) (all _)
 ·exact ba (by kernel_rfl) (Uy 170) (λw=>by kernel_rfl) (all _)
 ·exact ba (by kernel_rfl) (Uy 93) (λw=>by kernel_rfl) (all _)
 ·cases h;simp [Ty.Ar] at hs
 ·exact ba (by kernel_rfl) (Uy 134) (λw=>by kernel_rfl) (all _)
 ·cases h;simp [Ty.Ar] at hs
 ·exact ba (by kernel_rfl) (Uy 84) (λw=>by kernel_rfl) (all _)
 ·cases h;simp [Ty.Ar] at hs
 ·cases h;simp [Ty.Ar] at hs
 ·exact ba (by kernel_rfl) (Uy 69) (λw=>by kernel_rfl) (all _)
 ·cases h
theorem Dl:Ep Tryz.prog Fl:=⟨Ago,Acu,Agn,Alh,Alj⟩
def aJ:Tab:= {Fl with tq:=true,CY:=true}
theorem Zh:Ep Tryz.prog aJ:=Dl.flags true true
def All:Tab:= {aJ with marks:= [Ur]}
theorem Alm:Ep Tryz.prog All:=Zh.qx [Ur]
def PQ (l:List Nat):Tab:= {aJ with marks:=l}
theorem PR (l:List Nat):Ep Tryz.prog (PQ l):=Zh.qx l
theorem mixed:Tryz.prog.follows .mixedOrders=true:=by kernel_rfl
end Go.Proofs.YtkkdpknjohcekaaGreat
