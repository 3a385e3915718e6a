/-
  Part 36 of the proof that the statement FnExactSearchDepth holds.
-/
import Derived.Test.YtfolipnappekaaaGreatCSearchDepth34
import Derived.Test.YtfolipnappekaaaGreatProg
import Derived.KernelRfl
namespace Go.Proofs.YtfolipnappekaaaGreat
open Go.RowKit
abbrev tI:Ty:= .int .i64
abbrev tL:Ty:= .slice tI
abbrev da:Ty:= .slice tL
abbrev Kt:Ty:= .pair tL (.pair da (.pair tL .unit))
abbrev Fl:Ty:= .pair tI (.pair .str (.pair da .unit))
abbrev kv:Ty:= .pair da (.pair tL (.pair tL (.pair .bool .unit)))
abbrev CI:Ty:= .pair tI (.pair (.slice da) (.pair (.slice da) .unit))
abbrev Ahi:Ty:= .pair Fl (.pair da (.pair tL (.pair (.smap tI) (.pair tL (.pair tL (.pair da .unit))))))
abbrev Wt:Ty:= .pair (.slice Kt) (.pair (.slice (.smap tI)) .unit)
abbrev rq:Ty:= .pair tI (.pair tI (.pair tL (.pair .bool (.pair .bool .unit))))
abbrev Ahj:Ty:= .pair Fl (.pair (.optr Wt) (.pair tI (.pair .bool (.pair tL (.pair tI (.pair tI (.pair .bool .unit)))))))
def Ei:Tab where
 ty:= λt=>match t with
  |2=>some tI
  |3=>some tI
  |4=>some .bool
  |5=>some (.int .u8)
  |9=>some .str
  |26=>some tL
  |22=>some da
  |118=>some (.slice (.int .u8))
  |97=>some tL
  |139=>some (.slice da)
  |25=>some (.slice Kt)
  |32=>some (.slice Kt)
  |93=>some (.slice (.smap tI))
  |73=>some (.smap tI)
  |162=>some (.smap .bool)
  |54=>some Kt
  |58=>some Kt
  |24=>some Fl
  |30=>some Fl
  |99=>some kv
  |141=>some CI
  |153=>some CI
  |75=>some Ahi
  |69=>some (.optr Ahi)
  |95=>some Wt
  |60=>some (.optr Wt)
  |78=>some rq
  |84=>some Ahj
  |81=>some (.optr Ahj)
  |_=>none
 elem:= λt=>match t with
  |26=>some 2
  |22=>some 26
  |118=>some 5
  |97=>some 3
  |139=>some 22
  |25=>some 54
  |32=>some 58
  |93=>some 73
  |_=>none
 mapOf:= λt=>match t with
  |73=>some tI
  |162=>some .bool
  |_=>none
 off:= λs f=>match s,f with
  |54,0=>some (0,26)
  |54,1=>some (1,22)
  |54,2=>some (2,26)
  |58,0=>some (0,26)
  |58,1=>some (1,22)
  |58,2=>some (2,26)
  |24,0=>some (0,2)
  |24,1=>some (1,9)
  |24,2=>some (2,22)
  |30,0=>some (0,2)
  |30,1=>some (1,9)
  |30,2=>some (2,22)
  |99,0=>some (0,22)
  |99,1=>some (1,26)
  |99,2=>some (2,97)
  |99,3=>some (3,4)
  |141,0=>some (0,2)
  |141,1=>some (1,139)
  |141,2=>some (2,139)
  |153,0=>some (0,2)
  |153,1=>some (1,139)
  |153,2=>some (2,139)
  |75,0=>some (0,30)
  |75,1=>some (3,22)
  |75,2=>some (4,26)
  |75,3=>some (5,73)
  |75,4=>some (6,26)
  |75,5=>some (7,26)
  |75,6=>some (8,22)
  |95,0=>some (0,32)
  |95,1=>some (1,93)
  |78,0=>some (0,2)
  |78,1=>some (1,2)
  |78,2=>some (2,26)
  |78,3=>some (3,4)
  |78,4=>some (4,4)
  |84,0=>some (0,30)
  |84,1=>some (3,60)
  |84,2=>some (4,2)
  |84,3=>some (5,4)
  |84,4=>some (6,26)
  |84,5=>some (7,2)
  |84,6=>some (8,2)
  |84,7=>some (9,4)
  |_,_=>none
def fieldsOf (P:Program) (s:TypeId):Array Field:=match P.underlying s with|some (.struct fs)=>fs|_=> #[]
theorem Eg {P:Program} {t:TypeId} {τ:Ty} {b:Nat} (h:(P.info? t).map (λi=>(i.size,i.bytes,i.zero))=some (τ.size,b,some (Ci τ (Cd τ)))) (hb:b<=256):
  ∃i:TypeInfo,P.info? t=some i/\i.size=τ.size/\i.bytes<=256/\i.zero=some (Ci τ (Cd τ)):=by
 cases hi:P.info? t with
 |none=>rw [hi] at h;cases h
 |some i=>
  rw [hi] at h
  simp only [Am,Aa,Ad] at h
  exact ⟨i,rfl,h.1,by rw [h.2.1];exact hb,h.2.2⟩
theorem BM {P:Program} {t:TypeId} (h:((P.info? t).map λi=>i.size==0)=some false): ∃i:TypeInfo,P.info? t=some i/\i.size≠0:=by
 cases hi:P.info? t with
 |none=>rw [hi] at h;cases h
 |some i=>rw [hi] at h;simp only [Am,Aa] at h;exact ⟨i,rfl,by simpa using h⟩
theorem Ac3: ∀t τ,Ei.ty t=some τ->oT Tryz.prog Ei t τ:=by
 intro t τ h
 simp only [Ei] at h
 split at h
 ·cases h;exact ⟨Eg (b:=8) (by kernel_rfl) (by omega),(by kernel_rfl:Tryz.prog.underlying 2=some (.int .i64))⟩
 ·cases h;exact ⟨Eg (b:=8) (by kernel_rfl) (by omega),(by kernel_rfl:Tryz.prog.underlying 3=some (.int .i64))⟩
 ·cases h;exact ⟨Eg (b:=1) (by kernel_rfl) (by omega),(by kernel_rfl:Tryz.prog.underlying 4=some (.bool))⟩
 ·cases h;exact ⟨Eg (b:=1) (by kernel_rfl) (by omega),(by kernel_rfl:Tryz.prog.underlying 5=some (.int .u8))⟩
 ·cases h;exact ⟨Eg (b:=16) (by kernel_rfl) (by omega),(by kernel_rfl:Tryz.prog.underlying 9=some (.string))⟩
 ·cases h;exact ⟨Eg (b:=24) (by kernel_rfl) (by omega),⟨2,by kernel_rfl,rfl,rfl⟩⟩
 ·cases h;exact ⟨Eg (b:=24) (by kernel_rfl) (by omega),⟨26,by kernel_rfl,rfl,rfl⟩⟩
 ·cases h;exact ⟨Eg (b:=24) (by kernel_rfl) (by omega),⟨5,by kernel_rfl,rfl,rfl⟩⟩
 ·cases h;exact ⟨Eg (b:=24) (by kernel_rfl) (by omega),⟨3,by kernel_rfl,rfl,rfl⟩⟩
 ·cases h;exact ⟨Eg (b:=24) (by kernel_rfl) (by omega),⟨22,by kernel_rfl,rfl,rfl⟩⟩
 ·cases h;exact ⟨Eg (b:=24) (by kernel_rfl) (by omega),⟨54,by kernel_rfl,rfl,rfl⟩⟩
 ·cases h;exact ⟨Eg (b:=24) (by kernel_rfl) (by omega),⟨58,by kernel_rfl,rfl,rfl⟩⟩
 ·cases h;exact ⟨Eg (b:=24) (by kernel_rfl) (by omega),⟨73,by kernel_rfl,rfl,rfl⟩⟩
 ·cases h;exact ⟨Eg (b:=8) (by kernel_rfl) (by omega),⟨9,2,by kernel_rfl⟩⟩
 ·cases h;exact ⟨Eg (b:=8) (by kernel_rfl) (by omega),⟨9,4,by kernel_rfl⟩⟩
 ·cases h;exact ⟨Eg (b:=72) (by kernel_rfl) (by omega),⟨fieldsOf Tryz.prog 54,by kernel_rfl⟩⟩
 ·cases h;exact ⟨Eg (b:=72) (by kernel_rfl) (by omega),⟨fieldsOf Tryz.prog 58,by kernel_rfl⟩⟩
 ·cases h;exact ⟨Eg (b:=48) (by kernel_rfl) (by omega),⟨fieldsOf Tryz.prog 24,by kernel_rfl⟩⟩
 ·cases h;exact ⟨Eg (b:=48) (by kernel_rfl) (by omega),⟨fieldsOf Tryz.prog 30,by kernel_rfl⟩⟩
 ·cases h;exact ⟨Eg (b:=80) (by kernel_rfl) (by omega),⟨fieldsOf Tryz.prog 99,by kernel_rfl⟩⟩
 ·cases h;exact ⟨Eg (b:=56) (by kernel_rfl) (by omega),⟨fieldsOf Tryz.prog 141,by kernel_rfl⟩⟩
 ·cases h;exact ⟨Eg (b:=56) (by kernel_rfl) (by omega),⟨fieldsOf Tryz.prog 153,by kernel_rfl⟩⟩
 ·cases h;exact ⟨Eg (b:=176) (by kernel_rfl) (by omega),⟨fieldsOf Tryz.prog 75,by kernel_rfl⟩⟩
 ·cases h;exact ⟨Eg (b:=8) (by kernel_rfl) (by omega),⟨75,by kernel_rfl⟩⟩
 ·cases h;exact ⟨Eg (b:=48) (by kernel_rfl) (by omega),⟨fieldsOf Tryz.prog 95,by kernel_rfl⟩⟩
 ·cases h;exact ⟨Eg (b:=8) (by kernel_rfl) (by omega),⟨95,by kernel_rfl⟩⟩
 ·cases h;exact ⟨Eg (b:=48) (by kernel_rfl) (by omega),⟨fieldsOf Tryz.prog 78,by kernel_rfl⟩⟩
 ·cases h;exact ⟨Eg (b:=120) (by kernel_rfl) (by omega),⟨fieldsOf Tryz.prog 84,by kernel_rfl⟩⟩
 ·cases h;exact ⟨Eg (b:=8) (by kernel_rfl) (by omega),⟨84,by kernel_rfl⟩⟩
 ·cases h
theorem Afa: ∀t te,Ei.elem t=some te->Tryz.prog.underlying t=some (.slice te):=by
 intro t te h
 simp only [Ei] at h
 split at h
 ·cases h;kernel_rfl
 ·cases h;kernel_rfl
 ·cases h;kernel_rfl
 ·cases h;kernel_rfl
 ·cases h;kernel_rfl
 ·cases h;kernel_rfl
 ·cases h;kernel_rfl
 ·cases h;kernel_rfl
 ·cases h
theorem Akn: ∀t v,Ei.mapOf t=some v-> ∃k e,Tryz.prog.underlying t=some (.map k e)/\Tryz.prog.underlying k=some .string/\Ei.ty e=some v/\v.flat=true/\v.Aq=false:=by
 intro t v h
 simp only [Ei] at h
 split at h
 ·cases h;exact ⟨9,2,by kernel_rfl,by kernel_rfl,rfl,rfl,rfl⟩
 ·cases h;exact ⟨9,4,by kernel_rfl,by kernel_rfl,rfl,rfl,rfl⟩
 ·cases h
theorem Er {P:Program} {s:TypeId} {f o:Nat} {t:TypeId} (hu:P.underlying s=some (.struct (fieldsOf P s))) (hf:((fieldsOf P s)[f]?).map (λfd=>(fd.offset,fd.type))=some (o,t)) (hi:((P.info? t).map λi=>i.size==0)=some false):
  ∃(fs:Array Field) (fd:Field),P.underlying s=some (.struct fs)/\fs[f]?=some fd/\fd.offset=o/\fd.type=t/\ ∃i:TypeInfo,P.info? t=some i/\i.size≠0:=by
 cases h:(fieldsOf P s)[f]? with
 |none=>rw [h] at hf;cases hf
 |some fd=>
  rw [h] at hf
  simp only [Am,Aa,Ad] at hf
  exact ⟨fieldsOf P s,fd,hu,h,hf.1,hf.2,BM hi⟩
theorem Akp: ∀s f o t,Ei.off s f=some (o,t)-> ∃(fs:Array Field) (fd:Field),Tryz.prog.underlying s=some (.struct fs)/\fs[f]?=some fd/\fd.offset=o/\fd.type=t/\ ∃i:TypeInfo,Tryz.prog.info? t=some i/\i.size≠0:=by
 intro s f o t h
 simp only [Ei] at h
 split at h
 ·cases h;exact Er (by kernel_rfl) (by kernel_rfl) (by kernel_rfl)
 ·cases h;exact Er (by kernel_rfl) (by kernel_rfl) (by kernel_rfl)
 ·cases h;exact Er (by kernel_rfl) (by kernel_rfl) (by kernel_rfl)
 ·cases h;exact Er (by kernel_rfl) (by kernel_rfl) (by kernel_rfl)
 ·cases h;exact Er (by kernel_rfl) (by kernel_rfl) (by kernel_rfl)
 ·cases h;exact Er (by kernel_rfl) (by kernel_rfl) (by kernel_rfl)
 ·cases h;exact Er (by kernel_rfl) (by kernel_rfl) (by kernel_rfl)
 ·cases h;exact Er (by kernel_rfl) (by kernel_rfl) (by kernel_rfl)
 ·cases h;exact Er (by kernel_rfl) (by kernel_rfl) (by kernel_rfl)
 ·cases h;exact Er (by kernel_rfl) (by kernel_rfl) (by kernel_rfl)
 ·cases h;exact Er (by kernel_rfl) (by kernel_rfl) (by kernel_rfl)
 ·cases h;exact Er (by kernel_rfl) (by kernel_rfl) (by kernel_rfl)
 ·cases h;exact Er (by kernel_rfl) (by kernel_rfl) (by kernel_rfl)
 ·cases h;exact Er (by kernel_rfl) (by kernel_rfl) (by kernel_rfl)
 ·cases h;exact Er (by kernel_rfl) (by kernel_rfl) (by kernel_rfl)
 ·cases h;exact Er (by kernel_rfl) (by kernel_rfl) (by kernel_rfl)
 ·cases h;exact Er (by kernel_rfl) (by kernel_rfl) (by kernel_rfl)
 ·cases h;exact Er (by kernel_rfl) (by kernel_rfl) (by kernel_rfl)
 ·cases h;exact Er (by kernel_rfl) (by kernel_rfl) (by kernel_rfl)
 ·cases h;exact Er (by kernel_rfl) (by kernel_rfl) (by kernel_rfl)
 ·cases h;exact Er (by kernel_rfl) (by kernel_rfl) (by kernel_rfl)
 ·cases h;exact Er (by kernel_rfl) (by kernel_rfl) (by kernel_rfl)
 ·cases h;exact Er (by kernel_rfl) (by kernel_rfl) (by kernel_rfl)
 ·cases h;exact Er (by kernel_rfl) (by kernel_rfl) (by kernel_rfl)
 ·cases h;exact Er (by kernel_rfl) (by kernel_rfl) (by kernel_rfl)
 ·cases h;exact Er (by kernel_rfl) (by kernel_rfl) (by kernel_rfl)
 ·cases h;exact Er (by kernel_rfl) (by kernel_rfl) (by kernel_rfl)
 ·cases h;exact Er (by kernel_rfl) (by kernel_rfl) (by kernel_rfl)
 ·cases h;exact Er (by kernel_rfl) (by kernel_rfl) (by kernel_rfl)
 ·cases h;exact Er (by kernel_rfl) (by kernel_rfl) (by kernel_rfl)
 ·cases h;exact Er (by kernel_rfl) (by kernel_rfl) (by kernel_rfl)
 ·cases h;exact Er (by kernel_rfl) (by kernel_rfl) (by kernel_rfl)
 ·cases h;exact Er (by kernel_rfl) (by kernel_rfl) (by kernel_rfl)
 ·cases h;exact Er (by kernel_rfl) (by kernel_rfl) (by kernel_rfl)
 ·cases h;exact Er (by kernel_rfl) (by kernel_rfl) (by kernel_rfl)
 ·cases h;exact Er (by kernel_rfl) (by kernel_rfl) (by kernel_rfl)
 ·cases h;exact Er (by kernel_rfl) (by kernel_rfl) (by kernel_rfl)
 ·cases h;exact Er (by kernel_rfl) (by kernel_rfl) (by kernel_rfl)
 ·cases h;exact Er (by kernel_rfl) (by kernel_rfl) (by kernel_rfl)
 ·cases h;exact Er (by kernel_rfl) (by kernel_rfl) (by kernel_rfl)
 ·cases h;exact Er (by kernel_rfl) (by kernel_rfl) (by kernel_rfl)
 ·cases h;exact Er (by kernel_rfl) (by kernel_rfl) (by kernel_rfl)
 ·cases h;exact Er (by kernel_rfl) (by kernel_rfl) (by kernel_rfl)
 ·cases h;exact Er (by kernel_rfl) (by kernel_rfl) (by kernel_rfl)
 ·cases h
theorem Vz {P:Program} {t:TypeId} (hu:P.underlying t=some (.struct (fieldsOf P t))) (Ln:Array (Nat×Nat)) (hp: ∀w,(placesOf (fieldsOf P t)).run P w= .ok Ln w)
  (h: ∀f o u ρ,Ei.off t f=some (o,u)->Ei.ty u=some ρ->Ln[f]?=some (o,ρ.size)):
  ∃(fs:Array Field) (Ln:Array (Nat×Nat)),P.underlying t=some (.struct fs)/\(∀w,(placesOf fs).run P w= .ok Ln w)/\ ∀f o u ρ,Ei.off t f=some (o,u)->Ei.ty u=some ρ->Ln[f]?=some (o,ρ.size):=
 ⟨fieldsOf P t,Ln,hu,hp,h⟩
def Oj (t:TypeId):Array (Nat×Nat):=match t with
 |54=> #[(0,1),(1,1),(2,1)]
 |58=> #[(0,1),(1,1),(2,1)]
 |24=> #[(0,1),(1,1),(2,1)]
 |30=> #[(0,1),(1,1),(2,1)]
 |99=> #[(0,1),(1,1),(2,1),(3,1)]
 |141=> #[(0,1),(1,1),(2,1)]
 |153=> #[(0,1),(1,1),(2,1)]
 |75=> #[(0,3),(3,1),(4,1),(5,1),(6,1),(7,1),(8,1)]
 |95=> #[(0,1),(1,1)]
 |78=> #[(0,1),(1,1),(2,1),(3,1),(4,1)]
 |84=> #[(0,3),(3,1),(4,1),(5,1),(6,1),(7,1),(8,1),(9,1)]
 |_=> #[]
theorem Afb: ∀t τ,Ei.ty t=some τ->τ.Aq=true-> ∃(fs:Array Field) (Ln:Array (Nat×Nat)),Tryz.prog.underlying t=some (.struct fs)/\(∀w,(placesOf fs).run Tryz.prog w= .ok Ln w)/\
  ∀f o u ρ,Ei.off t f=some (o,u)->Ei.ty u=some ρ->Ln[f]?=some (o,ρ.size):=by
 intro t τ h hs
 have all: ∀t,∀f o u ρ,Ei.off t f=some (o,u)->Ei.ty u=some ρ->(Oj t)[f]?=some (o,ρ.size):=by
  intro t f o u ρ ho hu
  simp only [Ei] at ho
  split at ho
  all_goals first
   |(cases ho;cases hu;rfl)
   |cases ho
 simp only [Ei] at h
 split at h
 ·cases h;simp [Ty.Aq] at hs
 ·cases h;simp [Ty.Aq] at hs
 ·cases h;simp [Ty.Aq] at hs
 ·cases h;simp [Ty.Aq] at hs
 ·cases h;simp [Ty.Aq] at hs
 ·cases h;simp [Ty.Aq] at hs
 ·cases h;simp [Ty.Aq] at hs
 ·cases h;simp [Ty.Aq] at hs
 ·cases h;simp [Ty.Aq] at hs
 ·cases h;simp [Ty.Aq] at hs
 ·cases h;simp [Ty.Aq] at hs
 ·cases h;simp [Ty.Aq] at hs
 ·cases h;simp [Ty.Aq] at hs
 ·cases h;simp [Ty.Aq] at hs
 ·cases h;simp [Ty.Aq] at hs
 ·exact Vz (by kernel_rfl) (Oj 54) (λw=>by kernel_rfl) (all _)
 ·exact Vz (by kernel_rfl) (Oj 58) (λw=>by kernel_rfl) (all _)
 ·exact Vz (by kernel_rfl) (Oj 24) (λw=>by kernel_rfl) (all _)
 ·exact Vz (by kernel_rfl) (Oj 30) (λw=>by kernel_rfl) (all _)
 ·exact Vz (by kernel_rfl) (Oj 99) (λw=>by kernel_rfl) (all _)
 ·exact Vz (by kernel_rfl) (Oj 141) (λw=>by kernel_rfl) (all _)
 ·exact Vz (by kernel_rfl) (Oj 153) (λw=>by kernel_rfl) (all _)
 ·exact Vz (by kernel_rfl) (Oj 75) (λw=>by kernel_rfl) (all _)
 ·cases h;simp [Ty.Aq] at hs
 ·exact Vz (by kernel_rfl) (Oj 95) (λw=>by kernel_rfl) (all _)
 ·cases h;simp [Ty.Aq] at hs
 ·exact Vz (by kernel_rfl) (Oj 78) (λw=>by kernel_rfl) (all _)
 ·exact Vz (by kernel_rfl) (Oj 84) (λw=>by kernel_rfl) (all _)
 ·cases h;simp [Ty.Aq] at hs
 ·cases h
theorem Db:Dz Tryz.prog Ei:=⟨Afb,Ac3,Afa,Akn,Akp⟩
def Tk:Tab:= {Ei with tH:=true,CO:=true}
theorem Rx:Dz Tryz.prog Tk:=Db.flags true true
def Ac4:Tab:= {Tk with marks:= [Ub]}
theorem Ac5:Dz Tryz.prog Ac4:=Rx.kz [Ub]
def CJ (l:List Nat):Tab:= {Tk with marks:=l}
theorem CL (l:List Nat):Dz Tryz.prog (CJ l):=Rx.kz l
theorem mixed:Tryz.prog.follows .mixedOrders=true:=by kernel_rfl
end Go.Proofs.YtfolipnappekaaaGreat
