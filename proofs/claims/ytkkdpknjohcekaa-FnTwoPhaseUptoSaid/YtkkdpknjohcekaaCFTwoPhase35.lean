/-
  Part 36 of the proof that the statement FnTwoPhase holds.
-/
import Derived.Test.YtkkdpknjohcekaaCFTwoPhase34
import Derived.Test.YtkkdpknjohcekaaProg
import Derived.KernelRfl
namespace Go.Proofs.Ytkkdpknjohcekaa
open Go.RowKit
abbrev tI:Ty:= .int .i64
abbrev tL:Ty:= .slice tI
abbrev yz:Ty:= .slice tL
abbrev CA:Ty:= .pair tL (.pair yz (.pair tL .unit))
abbrev Iw:Ty:= .pair tI (.pair .str (.pair yz .unit))
abbrev Xf:Ty:= .pair yz (.pair tL (.pair tL (.pair .bool .unit)))
abbrev BY:Ty:= .pair tI (.pair (.slice yz) (.pair (.slice yz) .unit))
abbrev gW:Ty:= .pair Iw (.pair yz (.pair tL (.pair (.smap tI) (.pair tL (.pair tL (.pair yz .unit))))))
abbrev di:Ty:= .pair (.optr gW) (.pair tL (.pair (.optr gW) .unit))
abbrev SO:Ty:= .pair (.slice CA) (.pair (.slice (.smap tI)) .unit)
abbrev vr:Ty:= .pair tI (.pair tI (.pair tI .unit))
abbrev Ai0:Ty:= .pair (.slice (.int .u8)) (.pair tI (.pair (.int .u64) .unit))
abbrev OX:Ty:= .pair tL (.pair tL .unit)
def Gz:Tab where
 ty:= λt=>match t with
  |2=>some tI
  |3=>some tI
  |4=>some .bool
  |5=>some (.int .u8)
  |9=>some .str
  |31=>some tL
  |27=>some yz
  |22=>some (.slice (.int .u8))
  |173=>some (.slice .bool)
  |82=>some tL
  |187=>some (.slice yz)
  |67=>some (.slice CA)
  |169=>some (.slice (.smap tI))
  |111=>some (.smap tI)
  |100=>some (.smap tI)
  |130=>some (.smap .bool)
  |48=>some CA
  |29=>some Iw
  |84=>some Xf
  |198=>some BY
  |189=>some BY
  |102=>some gW
  |97=>some (.optr gW)
  |123=>some di
  |114=>some (.optr di)
  |171=>some SO
  |135=>some (.optr SO)
  |141=>some vr
  |142=>some (.slice vr)
  |143=>some (.slice (.slice vr))
  |26=>some (.int .u64)
  |75=>some Ai0
  |64=>some OX
  |61=>some (.slice OX)
  |_=>none
 elem:= λt=>match t with
  |31=>some 2
  |27=>some 31
  |22=>some 5
  |173=>some 4
  |82=>some 3
  |187=>some 27
  |67=>some 48
  |169=>some 100
  |142=>some 141
  |143=>some 142
  |61=>some 64
  |_=>none
 mapOf:= λt=>match t with
  |111=>some tI
  |100=>some tI
  |130=>some .bool
  |_=>none
 off:= λs f=>match s,f with
  |48,0=>some (0,31)
  |48,1=>some (1,27)
  |48,2=>some (2,31)
  |29,0=>some (0,2)
  |29,1=>some (1,9)
  |29,2=>some (2,27)
  |84,0=>some (0,27)
  |84,1=>some (1,31)
  |84,2=>some (2,82)
  |84,3=>some (3,4)
  |198,0=>some (0,2)
  |198,1=>some (1,187)
  |198,2=>some (2,187)
  |189,0=>some (0,2)
  |189,1=>some (1,187)
  |189,2=>some (2,187)
  |102,0=>some (0,29)
  |102,1=>some (3,27)
  |102,2=>some (4,31)
  |102,3=>some (5,100)
  |102,4=>some (6,31)
  |102,5=>some (7,31)
  |102,6=>some (8,27)
  |123,0=>some (0,97)
  |123,1=>some (1,31)
  |123,2=>some (2,97)
  |171,0=>some (0,67)
  |171,1=>some (1,169)
  |141,0=>some (0,2)
  |141,1=>some (1,3)
  |141,2=>some (2,2)
  |75,0=>some (0,22)
  |75,1=>some (1,3)
  |75,2=>some (2,26)
  |64,0=>some (0,31)
  |64,1=>some (1,31)
  |_,_=>none
def fieldsOf (P:Program) (s:TypeId):Array Field:=match P.underlying s with|some (.struct fs)=>fs|_=> #[]
theorem Ek {P:Program} {t:TypeId} {τ:Ty} {b:Nat} (h:(P.info? t).map (λi=>(i.size,i.bytes,i.zero))=some (τ.size,b,some (Ci τ (Bx τ)))) (hb:b<=256):
  ∃i:TypeInfo,P.info? t=some i/\i.size=τ.size/\i.bytes<=256/\i.zero=some (Ci τ (Bx τ)):=by
 cases hi:P.info? t with
 |none=>rw [hi] at h;cases h
 |some i=>
  rw [hi] at h
  simp only [An,Aa,Ag] at h
  exact ⟨i,rfl,h.1,by rw [h.2.1];exact hb,h.2.2⟩
theorem AY {P:Program} {t:TypeId} (h:((P.info? t).map λi=>i.size==0)=some false): ∃i:TypeInfo,P.info? t=some i/\i.size≠0:=by
 cases hi:P.info? t with
 |none=>rw [hi] at h;cases h
 |some i=>rw [hi] at h;simp only [An,Aa] at h;exact ⟨i,rfl,by simpa using h⟩
theorem Acb: ∀t τ,Gz.ty t=some τ->oR Try.prog Gz t τ:=by
 intro t τ h
 simp only [Gz] at h
 split at h
 ·cases h;exact ⟨Ek (b:=8) (by kernel_rfl) (by omega),(by kernel_rfl:Try.prog.underlying 2=some (.int .i64))⟩
 ·cases h;exact ⟨Ek (b:=8) (by kernel_rfl) (by omega),(by kernel_rfl:Try.prog.underlying 3=some (.int .i64))⟩
 ·cases h;exact ⟨Ek (b:=1) (by kernel_rfl) (by omega),(by kernel_rfl:Try.prog.underlying 4=some (.bool))⟩
 ·cases h;exact ⟨Ek (b:=1) (by kernel_rfl) (by omega),(by kernel_rfl:Try.prog.underlying 5=some (.int .u8))⟩
 ·cases h;exact ⟨Ek (b:=16) (by kernel_rfl) (by omega),(by kernel_rfl:Try.prog.underlying 9=some (.string))⟩
 ·cases h;exact ⟨Ek (b:=24) (by kernel_rfl) (by omega),⟨2,by kernel_rfl,rfl,rfl⟩⟩
 ·cases h;exact ⟨Ek (b:=24) (by kernel_rfl) (by omega),⟨31,by kernel_rfl,rfl,rfl⟩⟩
 ·cases h;exact ⟨Ek (b:=24) (by kernel_rfl) (by omega),⟨5,by kernel_rfl,rfl,rfl⟩⟩
 ·cases h;exact ⟨Ek (b:=24) (by kernel_rfl) (by omega),⟨4,by kernel_rfl,rfl,rfl⟩⟩
 ·cases h;exact ⟨Ek (b:=24) (by kernel_rfl) (by omega),⟨3,by kernel_rfl,rfl,rfl⟩⟩
 ·cases h;exact ⟨Ek (b:=24) (by kernel_rfl) (by omega),⟨27,by kernel_rfl,rfl,rfl⟩⟩
 ·cases h;exact ⟨Ek (b:=24) (by kernel_rfl) (by omega),⟨48,by kernel_rfl,rfl,rfl⟩⟩
 ·cases h;exact ⟨Ek (b:=24) (by kernel_rfl) (by omega),⟨100,by kernel_rfl,rfl,rfl⟩⟩
 ·cases h;exact ⟨Ek (b:=8) (by kernel_rfl) (by omega),⟨9,3,by kernel_rfl⟩⟩
 ·cases h;exact ⟨Ek (b:=8) (by kernel_rfl) (by omega),⟨9,2,by kernel_rfl⟩⟩
 ·cases h;exact ⟨Ek (b:=8) (by kernel_rfl) (by omega),⟨9,4,by kernel_rfl⟩⟩
 ·cases h;exact ⟨Ek (b:=72) (by kernel_rfl) (by omega),⟨fieldsOf Try.prog 48,by kernel_rfl⟩⟩
 ·cases h;exact ⟨Ek (b:=48) (by kernel_rfl) (by omega),⟨fieldsOf Try.prog 29,by kernel_rfl⟩⟩
 ·cases h;exact ⟨Ek (b:=80) (by kernel_rfl) (by omega),⟨fieldsOf Try.prog 84,by kernel_rfl⟩⟩
 ·cases h;exact ⟨Ek (b:=56) (by kernel_rfl) (by omega),⟨fieldsOf Try.prog 198,by kernel_rfl⟩⟩
 ·cases h;exact ⟨Ek (b:=56) (by kernel_rfl) (by omega),⟨fieldsOf Try.prog 189,by kernel_rfl⟩⟩
 ·cases h;exact ⟨Ek (b:=176) (by kernel_rfl) (by omega),⟨fieldsOf Try.prog 102,by kernel_rfl⟩⟩
 ·cases h;exact ⟨Ek (b:=8) (by kernel_rfl) (by omega),⟨102,by kernel_rfl⟩⟩
 ·cases h;exact ⟨Ek (b:=40) (by kernel_rfl) (by omega),⟨fieldsOf Try.prog 123,by kernel_rfl⟩⟩
 ·cases h;exact ⟨Ek (b:=8) (by kernel_rfl) (by omega),⟨123,by kernel_rfl⟩⟩
 ·cases h;exact ⟨Ek (b:=48) (by kernel_rfl) (by omega),⟨fieldsOf Try.prog 171,by kernel_rfl⟩⟩
 ·cases h;exact ⟨Ek (b:=8) (by kernel_rfl) (by omega),⟨171,by kernel_rfl⟩⟩
 ·cases h;exact ⟨Ek (b:=24) (by kernel_rfl) (by omega),⟨fieldsOf Try.prog 141,by kernel_rfl⟩⟩
 ·cases h;exact ⟨Ek (b:=24) (by kernel_rfl) (by omega),⟨141,by kernel_rfl,rfl,rfl⟩⟩
 ·cases h;exact ⟨Ek (b:=24) (by kernel_rfl) (by omega),⟨142,by kernel_rfl,rfl,rfl⟩⟩
 ·cases h;exact ⟨Ek (b:=8) (by kernel_rfl) (by omega),(by kernel_rfl:Try.prog.underlying 26=some (.int .u64))⟩
 ·cases h;exact ⟨Ek (b:=40) (by kernel_rfl) (by omega),⟨fieldsOf Try.prog 75,by kernel_rfl⟩⟩
 ·cases h;exact ⟨Ek (b:=48) (by kernel_rfl) (by omega),⟨fieldsOf Try.prog 64,by kernel_rfl⟩⟩
 ·cases h;exact ⟨Ek (b:=24) (by kernel_rfl) (by omega),⟨64,by kernel_rfl,rfl,rfl⟩⟩
 ·cases h
theorem Afw: ∀t te,Gz.elem t=some te->Try.prog.underlying t=some (.slice te):=by
 intro t te h
 simp only [Gz] at h
 split at h
 ·cases h;kernel_rfl
 ·cases h;kernel_rfl
 ·cases h;kernel_rfl
 ·cases h;kernel_rfl
 ·cases h;kernel_rfl
 ·cases h;kernel_rfl
 ·cases h;kernel_rfl
 ·cases h;kernel_rfl
 ·cases h;kernel_rfl
 ·cases h;kernel_rfl
 ·cases h;kernel_rfl
 ·cases h
theorem Akw: ∀t v,Gz.mapOf t=some v-> ∃k e,Try.prog.underlying t=some (.map k e)/\Try.prog.underlying k=some .string/\Gz.ty e=some v/\v.flat=true/\v.Ar=false:=by
 intro t v h
 simp only [Gz] at h
 split at h
 ·cases h;exact ⟨9,3,by kernel_rfl,by kernel_rfl,rfl,rfl,rfl⟩
 ·cases h;exact ⟨9,2,by kernel_rfl,by kernel_rfl,rfl,rfl,rfl⟩
 ·cases h;exact ⟨9,4,by kernel_rfl,by kernel_rfl,rfl,rfl,rfl⟩
 ·cases h
theorem Hk {P:Program} {s:TypeId} {f o:Nat} {t:TypeId} (hu:P.underlying s=some (.struct (fieldsOf P s))) (hf:((fieldsOf P s)[f]?).map (λfd=>(fd.offset,fd.type))=some (o,t)) (hi:((P.info? t).map λi=>i.size==0)=some false):
  ∃(fs:Array Field) (fd:Field),P.underlying s=some (.struct fs)/\fs[f]?=some fd/\fd.offset=o/\fd.type=t/\ ∃i:TypeInfo,P.info? t=some i/\i.size≠0:=by
 cases h:(fieldsOf P s)[f]? with
 |none=>rw [h] at hf;cases hf
 |some fd=>
  rw [h] at hf
  simp only [An,Aa,Ag] at hf
  exact ⟨fieldsOf P s,fd,hu,h,hf.1,hf.2,AY hi⟩
theorem Aky: ∀s f o t,Gz.off s f=some (o,t)-> ∃(fs:Array Field) (fd:Field),Try.prog.underlying s=some (.struct fs)/\fs[f]?=some fd/\fd.offset=o/\fd.type=t/\ ∃i:TypeInfo,Try.prog.info? t=some i/\i.size≠0:=by
 intro s f o t h
 simp only [Gz] at h
 split at h
 ·cases h;exact Hk (by kernel_rfl) (by kernel_rfl) (by kernel_rfl)
 ·cases h;exact Hk (by kernel_rfl) (by kernel_rfl) (by kernel_rfl)
 ·cases h;exact Hk (by kernel_rfl) (by kernel_rfl) (by kernel_rfl)
 ·cases h;exact Hk (by kernel_rfl) (by kernel_rfl) (by kernel_rfl)
 ·cases h;exact Hk (by kernel_rfl) (by kernel_rfl) (by kernel_rfl)
 ·cases h;exact Hk (by kernel_rfl) (by kernel_rfl) (by kernel_rfl)
 ·cases h;exact Hk (by kernel_rfl) (by kernel_rfl) (by kernel_rfl)
 ·cases h;exact Hk (by kernel_rfl) (by kernel_rfl) (by kernel_rfl)
 ·cases h;exact Hk (by kernel_rfl) (by kernel_rfl) (by kernel_rfl)
 ·cases h;exact Hk (by kernel_rfl) (by kernel_rfl) (by kernel_rfl)
 ·cases h;exact Hk (by kernel_rfl) (by kernel_rfl) (by kernel_rfl)
 ·cases h;exact Hk (by kernel_rfl) (by kernel_rfl) (by kernel_rfl)
 ·cases h;exact Hk (by kernel_rfl) (by kernel_rfl) (by kernel_rfl)
 ·cases h;exact Hk (by kernel_rfl) (by kernel_rfl) (by kernel_rfl)
 ·cases h;exact Hk (by kernel_rfl) (by kernel_rfl) (by kernel_rfl)
 ·cases h;exact Hk (by kernel_rfl) (by kernel_rfl) (by kernel_rfl)
 ·cases h;exact Hk (by kernel_rfl) (by kernel_rfl) (by kernel_rfl)
 ·cases h;exact Hk (by kernel_rfl) (by kernel_rfl) (by kernel_rfl)
 ·cases h;exact Hk (by kernel_rfl) (by kernel_rfl) (by kernel_rfl)
 ·cases h;exact Hk (by kernel_rfl) (by kernel_rfl) (by kernel_rfl)
 ·cases h;exact Hk (by kernel_rfl) (by kernel_rfl) (by kernel_rfl)
 ·cases h;exact Hk (by kernel_rfl) (by kernel_rfl) (by kernel_rfl)
 ·cases h;exact Hk (by kernel_rfl) (by kernel_rfl) (by kernel_rfl)
 ·cases h;exact Hk (by kernel_rfl) (by kernel_rfl) (by kernel_rfl)
 ·cases h;exact Hk (by kernel_rfl) (by kernel_rfl) (by kernel_rfl)
 ·cases h;exact Hk (by kernel_rfl) (by kernel_rfl) (by kernel_rfl)
 ·cases h;exact Hk (by kernel_rfl) (by kernel_rfl) (by kernel_rfl)
 ·cases h;exact Hk (by kernel_rfl) (by kernel_rfl) (by kernel_rfl)
 ·cases h;exact Hk (by kernel_rfl) (by kernel_rfl) (by kernel_rfl)
 ·cases h;exact Hk (by kernel_rfl) (by kernel_rfl) (by kernel_rfl)
 ·cases h;exact Hk (by kernel_rfl) (by kernel_rfl) (by kernel_rfl)
 ·cases h;exact Hk (by kernel_rfl) (by kernel_rfl) (by kernel_rfl)
 ·cases h;exact Hk (by kernel_rfl) (by kernel_rfl) (by kernel_rfl)
 ·cases h;exact Hk (by kernel_rfl) (by kernel_rfl) (by kernel_rfl)
 ·cases h;exact Hk (by kernel_rfl) (by kernel_rfl) (by kernel_rfl)
 ·cases h;exact Hk (by kernel_rfl) (by kernel_rfl) (by kernel_rfl)
 ·cases h
theorem Wk {P:Program} {t:TypeId} (hu:P.underlying t=some (.struct (fieldsOf P t))) (Mk:Array (Nat×Nat)) (hp: ∀w,(placesOf (fieldsOf P t)).run P w= .ok Mk w)
  (h: ∀f o u ρ,Gz.off t f=some (o,u)->Gz.ty u=some ρ->Mk[f]?=some (o,ρ.size)):
  ∃(fs:Array Field) (Mk:Array (Nat×Nat)),P.underlying t=some (.struct fs)/\(∀w,(placesOf fs).run P w= .ok Mk w)/\ ∀f o u ρ,Gz.off t f=some (o,u)->Gz.ty u=some ρ->Mk[f]?=some (o,ρ.size):=
 ⟨fieldsOf P t,Mk,hu,hp,h⟩
def Rk (t:TypeId):Array (Nat×Nat):=match t with
 |48=> #[(0,1),(1,1),(2,1)]
 |29=> #[(0,1),(1,1),(2,1)]
 |84=> #[(0,1),(1,1),(2,1),(3,1)]
 |198=> #[(0,1),(1,1),(2,1)]
 |189=> #[(0,1),(1,1),(2,1)]
 |102=> #[(0,3),(3,1),(4,1),(5,1),(6,1),(7,1),(8,1)]
 |123=> #[(0,1),(1,1),(2,1)]
 |171=> #[(0,1),(1,1)]
 |141=> #[(0,1),(1,1),(2,1)]
 |75=> #[(0,1),(1,1),(2,1)]
 |64=> #[(0,1),(1,1)]
 |_=> #[]
theorem Afx: ∀t τ,Gz.ty t=some τ->τ.Ar=true-> ∃(fs:Array Field) (Mk:Array (Nat×Nat)),Try.prog.underlying t=some (.struct fs)/\(∀w,(placesOf fs).run Try.prog w= .ok Mk w)/\
  ∀f o u ρ,Gz.off t f=some (o,u)->Gz.ty u=some ρ->Mk[f]?=some (o,ρ.size):=by
 intro t τ h hs
 have all: ∀t,∀f o u ρ,Gz.off t f=some (o,u)->Gz.ty u=some ρ->(Rk t)[f]?=some (o,ρ.size):=by
  intro t f o u ρ ho hu
  simp only [Gz] at ho
  split at ho
  all_goals first
   |(cases ho;cases hu;rfl)
   |cases ho
 simp only [Gz] at h
 split at h
 ·cases h;simp [Ty.Ar] at hs
 ·cases h;simp [Ty.Ar] at hs
 ·cases h;simp [Ty.Ar] at hs
 ·cases h;simp [Ty.Ar] at hs
 ·cases h;simp [Ty.Ar] at hs
 ·cases h;simp [Ty.Ar] at hs
 ·cases h;simp [Ty.Ar] at hs
 ·cases h;simp [Ty.Ar] at hs
 ·cases h;simp [Ty.Ar] at hs
 ·cases h;simp [Ty.Ar] at hs
 ·cases h;simp [Ty.Ar] at hs
 ·cases h;simp [Ty.Ar] at hs
 ·cases h;simp [Ty.Ar] at hs
 ·cases h;simp [Ty.Ar] at hs
 ·cases h;simp [Ty.Ar] at hs
 ·cases h;simp [Ty.Ar] at hs
 ·exact Wk (by kernel_rfl) (Rk 48) (λw=>by kernel_rfl) (all _)
 ·exact Wk (by kernel_rfl) (Rk 29) (λw=>by kernel_rfl) (all _)
 ·exact Wk (by kernel_rfl) (Rk 84) (λw=>by kernel_rfl) (all _)
 ·exact Wk (by kernel_rfl) (Rk 198) (λw=>by kernel_rfl) (all _)
 ·exact Wk (by kernel_rfl) (Rk 189) (λw=>by kernel_rfl) (all _)
 ·exact Wk (by kernel_rfl) (Rk 102) (λw=>by kernel_rfl) (all _)
 ·cases h;simp [Ty.Ar] at hs
 ·exact Wk (by kernel_rfl) (Rk 123) (λw=>by kernel_rfl) (all _)
 ·cases h;simp [Ty.Ar] at hs
 ·exact Wk (by kernel_rfl) (Rk 171) (λw=>by kernel_rfl) (all _)
 ·cases h;simp [Ty.Ar] at hs
 ·exact Wk (by kernel_rfl) (Rk 141) (λw=>by kernel_rfl) (all _)
 ·cases h;simp [Ty.Ar] at hs
 ·cases h;simp [Ty.Ar] at hs
 ·cases h;simp [Ty.Ar] at hs
 ·exact Wk (by kernel_rfl) (Rk 75) (λw=>by kernel_rfl) (all _)
 ·exact Wk (by kernel_rfl) (Rk 64) (λw=>by kernel_rfl) (all _)
 ·cases h;simp [Ty.Ar] at hs
 ·cases h
theorem Ff:Eh Try.prog Gz:=⟨Afx,Acb,Afw,Akw,Aky⟩
def Uk:Tab:= {Gz with tb:=true,CG:=true}
theorem Sn:Eh Try.prog Uk:=Ff.flags true true
def Akz:Tab:= {Uk with parts:= [1000000000]}
def Al2:Tab:= {Uk with marks:= [Um]}
theorem Al3:Eh Try.prog Al2:=Sn.qa [Um]
def CB (l:List Nat):Tab:= {Uk with marks:=l}
theorem CC (l:List Nat):Eh Try.prog (CB l):=Sn.qa l
theorem Al0:Eh Try.prog Akz:=Sn.XB [1000000000]
theorem mixed:Try.prog.follows .mixedOrders=true:=by kernel_rfl
end Go.Proofs.Ytkkdpknjohcekaa
