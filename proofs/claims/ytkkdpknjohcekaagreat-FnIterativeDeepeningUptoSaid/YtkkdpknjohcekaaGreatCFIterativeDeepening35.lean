/-
  Part 36 of the proof that the statement FnIterativeDeepening holds.
-/
import Derived.Test.YtkkdpknjohcekaaGreatCFIterativeDeepening34
import Derived.Test.YtkkdpknjohcekaaGreatProg
import Derived.KernelRfl
namespace Go.Proofs.YtkkdpknjohcekaaGreat
open Go.RowKit
abbrev tI:Ty:= .int .i64
abbrev tL:Ty:= .slice tI
abbrev kB:Ty:= .slice tL
abbrev cg:Ty:= .pair tL (.pair kB (.pair tL .unit))
abbrev Jc:Ty:= .pair tI (.pair .str (.pair kB .unit))
abbrev bb:Ty:= .pair kB (.pair tL (.pair tL (.pair .bool .unit)))
abbrev AO:Ty:= .pair tI (.pair (.slice kB) (.pair (.slice kB) .unit))
abbrev Agf:Ty:= .pair Jc (.pair kB (.pair tL (.pair (.smap tI) (.pair tL (.pair tL (.pair kB .unit))))))
abbrev Xa:Ty:= .pair (.slice cg) (.pair (.slice (.smap tI)) .unit)
abbrev QT:Ty:= .pair Jc (.pair (.optr Xa) (.pair tI (.pair .bool (.pair tL (.pair tI (.pair tI (.pair .bool .unit)))))))
abbrev Age:Ty:= .pair (.slice (.int .u8)) (.pair tI (.pair (.int .u64) .unit))
def Gr:Tab where
 ty:= λt=>match t with
  |2=>some tI
  |3=>some tI
  |4=>some .bool
  |5=>some (.int .u8)
  |9=>some .str
  |33=>some tL
  |27=>some kB
  |22=>some (.slice (.int .u8))
  |70=>some tL
  |163=>some (.slice kB)
  |31=>some (.slice cg)
  |132=>some (.slice (.smap tI))
  |91=>some (.smap tI)
  |142=>some (.smap .bool)
  |47=>some cg
  |29=>some Jc
  |72=>some bb
  |165=>some AO
  |170=>some AO
  |93=>some Agf
  |87=>some (.optr Agf)
  |134=>some Xa
  |76=>some (.optr Xa)
  |84=>some QT
  |80=>some (.optr QT)
  |26=>some (.int .u64)
  |69=>some Age
  |_=>none
 elem:= λt=>match t with
  |33=>some 2
  |27=>some 33
  |22=>some 5
  |70=>some 3
  |163=>some 27
  |31=>some 47
  |132=>some 91
  |_=>none
 mapOf:= λt=>match t with
  |91=>some tI
  |142=>some .bool
  |_=>none
 off:= λs f=>match s,f with
  |47,0=>some (0,33)
  |47,1=>some (1,27)
  |47,2=>some (2,33)
  |29,0=>some (0,2)
  |29,1=>some (1,9)
  |29,2=>some (2,27)
  |72,0=>some (0,27)
  |72,1=>some (1,33)
  |72,2=>some (2,70)
  |72,3=>some (3,4)
  |165,0=>some (0,2)
  |165,1=>some (1,163)
  |165,2=>some (2,163)
  |170,0=>some (0,2)
  |170,1=>some (1,163)
  |170,2=>some (2,163)
  |93,0=>some (0,29)
  |93,1=>some (3,27)
  |93,2=>some (4,33)
  |93,3=>some (5,91)
  |93,4=>some (6,33)
  |93,5=>some (7,33)
  |93,6=>some (8,27)
  |134,0=>some (0,31)
  |134,1=>some (1,132)
  |84,0=>some (0,29)
  |84,1=>some (3,76)
  |84,2=>some (4,2)
  |84,3=>some (5,4)
  |84,4=>some (6,33)
  |84,5=>some (7,2)
  |84,6=>some (8,2)
  |84,7=>some (9,4)
  |69,0=>some (0,22)
  |69,1=>some (1,3)
  |69,2=>some (2,26)
  |_,_=>none
def fieldsOf (P:Program) (s:TypeId):Array Field:=match P.underlying s with|some (.struct fs)=>fs|_=> #[]
theorem Gm {P:Program} {t:TypeId} {τ:Ty} {b:Nat} (h:(P.info? t).map (λi=>(i.size,i.bytes,i.zero))=some (τ.size,b,some (By τ (Bp τ)))) (hb:b<=256):
  ∃i:TypeInfo,P.info? t=some i/\i.size=τ.size/\i.bytes<=256/\i.zero=some (By τ (Bp τ)):=by
 cases hi:P.info? t with
 |none=>rw [hi] at h;cases h
 |some i=>
  rw [hi] at h
  simp only [Ak,Aa,Ae] at h
  exact ⟨i,rfl,h.1,by rw [h.2.1];exact hb,h.2.2⟩
theorem zR {P:Program} {t:TypeId} (h:((P.info? t).map λi=>i.size==0)=some false): ∃i:TypeInfo,P.info? t=some i/\i.size≠0:=by
 cases hi:P.info? t with
 |none=>rw [hi] at h;cases h
 |some i=>rw [hi] at h;simp only [Ak,Aa] at h;exact ⟨i,rfl,by simpa using h⟩
theorem Aba: ∀t τ,Gr.ty t=some τ->qV Tryz.prog Gr t τ:=by
 intro t τ h
 simp only [Gr] at h
 split at h
 ·cases h;exact ⟨Gm (b:=8) (by kernel_rfl) (by omega),(by kernel_rfl:Tryz.prog.underlying 2=some (.int .i64))⟩
 ·cases h;exact ⟨Gm (b:=8) (by kernel_rfl) (by omega),(by kernel_rfl:Tryz.prog.underlying 3=some (.int .i64))⟩
 ·cases h;exact ⟨Gm (b:=1) (by kernel_rfl) (by omega),(by kernel_rfl:Tryz.prog.underlying 4=some (.bool))⟩
 ·cases h;exact ⟨Gm (b:=1) (by kernel_rfl) (by omega),(by kernel_rfl:Tryz.prog.underlying 5=some (.int .u8))⟩
 ·cases h;exact ⟨Gm (b:=16) (by kernel_rfl) (by omega),(by kernel_rfl:Tryz.prog.underlying 9=some (.string))⟩
 ·cases h;exact ⟨Gm (b:=24) (by kernel_rfl) (by omega),⟨2,by kernel_rfl,rfl,rfl⟩⟩
 ·cases h;exact ⟨Gm (b:=24) (by kernel_rfl) (by omega),⟨33,by kernel_rfl,rfl,rfl⟩⟩
 ·cases h;exact ⟨Gm (b:=24) (by kernel_rfl) (by omega),⟨5,by kernel_rfl,rfl,rfl⟩⟩
 ·cases h;exact ⟨Gm (b:=24) (by kernel_rfl) (by omega),⟨3,by kernel_rfl,rfl,rfl⟩⟩
 ·cases h;exact ⟨Gm (b:=24) (by kernel_rfl) (by omega),⟨27,by kernel_rfl,rfl,rfl⟩⟩
 ·cases h;exact ⟨Gm (b:=24) (by kernel_rfl) (by omega),⟨47,by kernel_rfl,rfl,rfl⟩⟩
 ·cases h;exact ⟨Gm (b:=24) (by kernel_rfl) (by omega),⟨91,by kernel_rfl,rfl,rfl⟩⟩
 ·cases h;exact ⟨Gm (b:=8) (by kernel_rfl) (by omega),⟨9,2,by kernel_rfl⟩⟩
 ·cases h;exact ⟨Gm (b:=8) (by kernel_rfl) (by omega),⟨9,4,by kernel_rfl⟩⟩
 ·cases h;exact ⟨Gm (b:=72) (by kernel_rfl) (by omega),⟨fieldsOf Tryz.prog 47,by kernel_rfl⟩⟩
 ·cases h;exact ⟨Gm (b:=48) (by kernel_rfl) (by omega),⟨fieldsOf Tryz.prog 29,by kernel_rfl⟩⟩
 ·cases h;exact ⟨Gm (b:=80) (by kernel_rfl) (by omega),⟨fieldsOf Tryz.prog 72,by kernel_rfl⟩⟩
 ·cases h;exact ⟨Gm (b:=56) (by kernel_rfl) (by omega),⟨fieldsOf Tryz.prog 165,by kernel_rfl⟩⟩
 ·cases h;exact ⟨Gm (b:=56) (by kernel_rfl) (by omega),⟨fieldsOf Tryz.prog 170,by kernel_rfl⟩⟩
 ·cases h;exact ⟨Gm (b:=176) (by kernel_rfl) (by omega),⟨fieldsOf Tryz.prog 93,by kernel_rfl⟩⟩
 ·cases h;exact ⟨Gm (b:=8) (by kernel_rfl) (by omega),⟨93,by kernel_rfl⟩⟩
 ·cases h;exact ⟨Gm (b:=48) (by kernel_rfl) (by omega),⟨fieldsOf Tryz.prog 134,by kernel_rfl⟩⟩
 ·cases h;exact ⟨Gm (b:=8) (by kernel_rfl) (by omega),⟨134,by kernel_rfl⟩⟩
 ·cases h;exact ⟨Gm (b:=120) (by kernel_rfl) (by omega),⟨fieldsOf Tryz.prog 84,by kernel_rfl⟩⟩
 ·cases h;exact ⟨Gm (b:=8) (by kernel_rfl) (by omega),⟨84,by kernel_rfl⟩⟩
 ·cases h;exact ⟨Gm (b:=8) (by kernel_rfl) (by omega),(by kernel_rfl:Tryz.prog.underlying 26=some (.int .u64))⟩
 ·cases h;exact ⟨Gm (b:=40) (by kernel_rfl) (by omega),⟨fieldsOf Tryz.prog 69,by kernel_rfl⟩⟩
 ·cases h
theorem Aeh: ∀t te,Gr.elem t=some te->Tryz.prog.underlying t=some (.slice te):=by
 intro t te h
 simp only [Gr] at h
 split at h
 ·cases h;kernel_rfl
 ·cases h;kernel_rfl
 ·cases h;kernel_rfl
 ·cases h;kernel_rfl
 ·cases h;kernel_rfl
 ·cases h;kernel_rfl
 ·cases h;kernel_rfl
 ·cases h
theorem Aj9: ∀t v,Gr.mapOf t=some v-> ∃k e,Tryz.prog.underlying t=some (.map k e)/\Tryz.prog.underlying k=some .string/\Gr.ty e=some v/\v.flat=true/\v.Aq=false:=by
 intro t v h
 simp only [Gr] at h
 split at h
 ·cases h;exact ⟨9,2,by kernel_rfl,by kernel_rfl,rfl,rfl,rfl⟩
 ·cases h;exact ⟨9,4,by kernel_rfl,by kernel_rfl,rfl,rfl,rfl⟩
 ·cases h
theorem Hq {P:Program} {s:TypeId} {f o:Nat} {t:TypeId} (hu:P.underlying s=some (.struct (fieldsOf P s))) (hf:((fieldsOf P s)[f]?).map (λfd=>(fd.offset,fd.type))=some (o,t)) (hi:((P.info? t).map λi=>i.size==0)=some false):
  ∃(fs:Array Field) (fd:Field),P.underlying s=some (.struct fs)/\fs[f]?=some fd/\fd.offset=o/\fd.type=t/\ ∃i:TypeInfo,P.info? t=some i/\i.size≠0:=by
 cases h:(fieldsOf P s)[f]? with
 |none=>rw [h] at hf;cases hf
 |some fd=>
  rw [h] at hf
  simp only [Ak,Aa,Ae] at hf
  exact ⟨fieldsOf P s,fd,hu,h,hf.1,hf.2,zR hi⟩
theorem Ajb: ∀s f o t,Gr.off s f=some (o,t)-> ∃(fs:Array Field) (fd:Field),Tryz.prog.underlying s=some (.struct fs)/\fs[f]?=some fd/\fd.offset=o/\fd.type=t/\ ∃i:TypeInfo,Tryz.prog.info? t=some i/\i.size≠0:=by
 intro s f o t h
 simp only [Gr] at h
 split at h
 ·cases h;exact Hq (by kernel_rfl) (by kernel_rfl) (by kernel_rfl)
 ·cases h;exact Hq (by kernel_rfl) (by kernel_rfl) (by kernel_rfl)
 ·cases h;exact Hq (by kernel_rfl) (by kernel_rfl) (by kernel_rfl)
 ·cases h;exact Hq (by kernel_rfl) (by kernel_rfl) (by kernel_rfl)
 ·cases h;exact Hq (by kernel_rfl) (by kernel_rfl) (by kernel_rfl)
 ·cases h;exact Hq (by kernel_rfl) (by kernel_rfl) (by kernel_rfl)
 ·cases h;exact Hq (by kernel_rfl) (by kernel_rfl) (by kernel_rfl)
 ·cases h;exact Hq (by kernel_rfl) (by kernel_rfl) (by kernel_rfl)
 ·cases h;exact Hq (by kernel_rfl) (by kernel_rfl) (by kernel_rfl)
 ·cases h;exact Hq (by kernel_rfl) (by kernel_rfl) (by kernel_rfl)
 ·cases h;exact Hq (by kernel_rfl) (by kernel_rfl) (by kernel_rfl)
 ·cases h;exact Hq (by kernel_rfl) (by kernel_rfl) (by kernel_rfl)
 ·cases h;exact Hq (by kernel_rfl) (by kernel_rfl) (by kernel_rfl)
 ·cases h;exact Hq (by kernel_rfl) (by kernel_rfl) (by kernel_rfl)
 ·cases h;exact Hq (by kernel_rfl) (by kernel_rfl) (by kernel_rfl)
 ·cases h;exact Hq (by kernel_rfl) (by kernel_rfl) (by kernel_rfl)
 ·cases h;exact Hq (by kernel_rfl) (by kernel_rfl) (by kernel_rfl)
 ·cases h;exact Hq (by kernel_rfl) (by kernel_rfl) (by kernel_rfl)
 ·cases h;exact Hq (by kernel_rfl) (by kernel_rfl) (by kernel_rfl)
 ·cases h;exact Hq (by kernel_rfl) (by kernel_rfl) (by kernel_rfl)
 ·cases h;exact Hq (by kernel_rfl) (by kernel_rfl) (by kernel_rfl)
 ·cases h;exact Hq (by kernel_rfl) (by kernel_rfl) (by kernel_rfl)
 ·cases h;exact Hq (by kernel_rfl) (by kernel_rfl) (by kernel_rfl)
 ·cases h;exact Hq (by kernel_rfl) (by kernel_rfl) (by kernel_rfl)
 ·cases h;exact Hq (by kernel_rfl) (by kernel_rfl) (by kernel_rfl)
 ·cases h;exact Hq (by kernel_rfl) (by kernel_rfl) (by kernel_rfl)
 ·cases h;exact Hq (by kernel_rfl) (by kernel_rfl) (by kernel_rfl)
 ·cases h;exact Hq (by kernel_rfl) (by kernel_rfl) (by kernel_rfl)
 ·cases h;exact Hq (by kernel_rfl) (by kernel_rfl) (by kernel_rfl)
 ·cases h;exact Hq (by kernel_rfl) (by kernel_rfl) (by kernel_rfl)
 ·cases h;exact Hq (by kernel_rfl) (by kernel_rfl) (by kernel_rfl)
 ·cases h;exact Hq (by kernel_rfl) (by kernel_rfl) (by kernel_rfl)
 ·cases h;exact Hq (by kernel_rfl) (by kernel_rfl) (by kernel_rfl)
 ·cases h;exact Hq (by kernel_rfl) (by kernel_rfl) (by kernel_rfl)
 ·cases h;exact Hq (by kernel_rfl) (by kernel_rfl) (by kernel_rfl)
 ·cases h;exact Hq (by kernel_rfl) (by kernel_rfl) (by kernel_rfl)
 ·cases h
theorem aR {P:Program} {t:TypeId} (hu:P.underlying t=some (.struct (fieldsOf P t))) (Oq:Array (Nat×Nat)) (hp: ∀w,(placesOf (fieldsOf P t)).run P w= .ok Oq w)
  (h: ∀f o u ρ,Gr.off t f=some (o,u)->Gr.ty u=some ρ->Oq[f]?=some (o,ρ.size)):
  ∃(fs:Array Field) (Oq:Array (Nat×Nat)),P.underlying t=some (.struct fs)/\(∀w,(placesOf fs).run P w= .ok Oq w)/\ ∀f o u ρ,Gr.off t f=some (o,u)->Gr.ty u=some ρ->Oq[f]?=some (o,ρ.size):=
 ⟨fieldsOf P t,Oq,hu,hp,h⟩
def Ur (t:TypeId):Array (Nat×Nat):=match t with
 |47=> #[(0,1),(1,1),(2,1)]
 |29=> #[(0,1),(1,1),(2,1)]
 |72=> #[(0,1),(1,1),(2,1),(3,1)]
 |165=> #[(0,1),(1,1),(2,1)]
 |170=> #[(0,1),(1,1),(2,1)]
 |93=> #[(0,3),(3,1),(4,1),(5,1),(6,1),(7,1),(8,1)]
 |134=> #[(0,1),(1,1)]
 |84=> #[(0,3),(3,1),(4,1),(5,1),(6,1),(7,1),(8,1),(9,1)]
 |69=> #[(0,1),(1,1),(2,1)]
 |_=> #[]
theorem Aei: ∀t τ,Gr.ty t=some τ->τ.Aq=true-> ∃(fs:Array Field) (Oq:Array (Nat×Nat)),Tryz.prog.underlying t=some (.struct fs)/\(∀w,(placesOf fs).run Tryz.prog w= .ok Oq w)/\
  ∀f o u ρ,Gr.off t f=some (o,u)->Gr.ty u=some ρ->Oq[f]?=some (o,ρ.size):=by
 intro t τ h hs
 have all: ∀t,∀f o u ρ,Gr.off t f=some (o,u)->Gr.ty u=some ρ->(Ur t)[f]?=some (o,ρ.size):=by
  intro t f o u ρ ho hu
  simp only [Gr] at ho
  split at ho
  all_goals first
   |(cases ho;cases hu;rfl)
   |cases ho
 simp only [Gr] at h
 split at h
 ·cases h;simp [Ty.Aq] at hs
 ·cases h;simp [Ty.Aq] at hs
 ·cases h;simp [Ty.Aq] at hs
 ·cases h;simp [Ty.Aq] at hs
 ·cases h;simp [Ty.Aq] at hs
 ·cases h;simp [Ty.Aq] at hs
 ·cases h;simp [Ty.Aq] at hs
 ·cases h;simp [Ty.Aq] at hs
 ·cases h;simp [Ty.Aq] at hs
 ·cases h;simp [Ty.Aq] at hs
 ·cases h;simp [Ty.Aq] at hs
 ·cases h;simp [Ty.Aq] at hs
 ·cases h;simp [Ty.Aq] at hs
 ·cases h;simp [Ty.Aq] at hs
 ·exact aR (by kernel_rfl) (Ur 47) (λw=>by kernel_rfl) (all _)
 ·exact aR (by kernel_rfl) (Ur 29) (λw=>by kernel_rfl) (all _)
 ·exact aR (by kernel_rfl) (Ur 72) (λw=>by kernel_rfl) (all _)
 ·exact aR (by kernel_rfl) (Ur 165) (λw=>by kernel_rfl) (all _)
 ·exact aR (by kernel_rfl) (Ur 170) (λw=>by kernel_rfl) (all _)
 ·exact aR (by kernel_rfl) (Ur 93) (λw=>by kernel_rfl) (all _)
 ·cases h;simp [Ty.Aq] at hs
 ·exact aR (by kernel_rfl) (Ur 134) (λw=>by kernel_rfl) (all _)
 ·cases h;simp [Ty.Aq] at hs
 ·exact aR (by kernel_rfl) (Ur 84) (λw=>by kernel_rfl) (all _)
 ·cases h;simp [Ty.Aq] at hs
 ·cases h;simp [Ty.Aq] at hs
 ·exact aR (by kernel_rfl) (Ur 69) (λw=>by kernel_rfl) (all _)
 ·cases h
theorem Ee:Eb Tryz.prog Gr:=⟨Aei,Aba,Aeh,Aj9,Ajb⟩
def Rk:Tab:= {Gr with vn:=true,BK:=true}
theorem Qm:Eb Tryz.prog Rk:=Ee.flags true true
def Ajc:Tab:= {Rk with marks:= [Ps]}
theorem Ajd:Eb Tryz.prog Ajc:=Qm.pO [Ps]
def mB (l:List Nat):Tab:= {Rk with marks:=l}
theorem mC (l:List Nat):Eb Tryz.prog (mB l):=Qm.pO l
theorem mixed:Tryz.prog.follows .mixedOrders=true:=by kernel_rfl
end Go.Proofs.YtkkdpknjohcekaaGreat
