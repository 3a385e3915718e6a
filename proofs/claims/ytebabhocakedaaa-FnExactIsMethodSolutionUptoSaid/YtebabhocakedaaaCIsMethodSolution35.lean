/-
  Part 36 of the proof that the statement FnExactIsMethodSolution holds.
-/
import Derived.Test.YtebabhocakedaaaCIsMethodSolution34
import Derived.Test.YtebabhocakedaaaProg
import Derived.KernelRfl
namespace Go.Proofs.Ytebabhocakedaaa
open Go.RowKit
abbrev tI:Ty:= .int .i64
abbrev tL:Ty:= .slice tI
abbrev tLL:Ty:= .slice tL
abbrev Ct:Ty:= .pair tI (.pair .str (.pair tLL .unit))
abbrev Wq:Ty:= .pair tLL (.pair tL (.pair tL (.pair .bool .unit)))
abbrev Bcj:Ty:= .pair tI (.pair (.slice tLL) (.pair (.slice tLL) .unit))
abbrev Aeu:Ty:= .pair Ct (.pair tLL (.pair tL (.pair (.smap tI) (.pair tL (.pair tL (.pair tLL .unit))))))
abbrev Ayf:Ty:= .pair (.optr Aeu) (.pair tL (.pair (.optr Aeu) .unit))
def tab:Tab where
 ty:=fun t=>match t with
  |2=>some tI
  |3=>some tI
  |4=>some .bool
  |5=>some (.int .u8)
  |9=>some .str
  |25=>some tL
  |22=>some tLL
  |129=>some (.slice (.int .u8))
  |59=>some tL
  |141=>some (.slice tLL)
  |67=>some (.smap tI)
  |24=>some Ct
  |28=>some Ct
  |61=>some Wq
  |143=>some Bcj
  |69=>some Aeu
  |55=>some (.optr Aeu)
  |77=>some Ayf
  |72=>some (.optr Ayf)
  |_=>none
 elem:=fun t=>match t with
  |25=>some 2
  |22=>some 25
  |129=>some 5
  |59=>some 3
  |141=>some 22
  |_=>none
 mapOf:=fun t=>match t with
  |67=>some tI
  |_=>none
 off:=fun s f=>match s,f with
  |24,0=>some (0,2)
  |24,1=>some (1,9)
  |24,2=>some (2,22)
  |28,0=>some (0,2)
  |28,1=>some (1,9)
  |28,2=>some (2,22)
  |61,0=>some (0,22)
  |61,1=>some (1,25)
  |61,2=>some (2,59)
  |61,3=>some (3,4)
  |143,0=>some (0,2)
  |143,1=>some (1,141)
  |143,2=>some (2,141)
  |69,0=>some (0,28)
  |69,1=>some (3,22)
  |69,2=>some (4,25)
  |69,3=>some (5,67)
  |69,4=>some (6,25)
  |69,5=>some (7,25)
  |69,6=>some (8,22)
  |77,0=>some (0,55)
  |77,1=>some (1,25)
  |77,2=>some (2,55)
  |_,_=>none
def fieldsOf (P:Program) (s:TypeId):Array Field:=match P.underlying s with|some (.struct fs)=>fs|_=> #[]
theorem Dq {P:Program} {t:TypeId} {τ:Ty} {b:Nat} (h:(P.info? t).map (fun i=>(i.size,i.bytes,i.zero))=some (τ.size,b,some (Ap τ (Ak τ)))) (hb:b≤256):
  ∃i:TypeInfo,P.info? t=some i∧i.size=τ.size∧i.bytes≤256∧i.zero=some (Ap τ (Ak τ)):=by
 cases hi:P.info? t with
 |none=>rw [hi] at h;cases h
 |some i=>
  rw [hi] at h
  simp only [Option.map_some,Option.some.injEq,Prod.mk.injEq] at h
  exact ⟨i,rfl,h.1,by rw [h.2.1];exact hb,h.2.2⟩
theorem Aqc {P:Program} {t:TypeId} (h:((P.info? t).map fun i=>i.size==0)=some false): ∃i:TypeInfo,P.info? t=some i∧i.size≠0:=by
 cases hi:P.info? t with
 |none=>rw [hi] at h;cases h
 |some i=>rw [hi] at h;simp only [Option.map_some,Option.some.injEq] at h;exact ⟨i,rfl,by simpa using h⟩
theorem Bco: ∀t τ,tab.ty t=some τ→Ahh Try.prog tab t τ:=by
 intro t τ h
 simp only [tab] at h
 split at h
 ·cases h;exact ⟨Dq (b:=8) (by kernel_rfl) (by omega),(by kernel_rfl:Try.prog.underlying 2=some (.int .i64))⟩
 ·cases h;exact ⟨Dq (b:=8) (by kernel_rfl) (by omega),(by kernel_rfl:Try.prog.underlying 3=some (.int .i64))⟩
 ·cases h;exact ⟨Dq (b:=1) (by kernel_rfl) (by omega),(by kernel_rfl:Try.prog.underlying 4=some (.bool))⟩
 ·cases h;exact ⟨Dq (b:=1) (by kernel_rfl) (by omega),(by kernel_rfl:Try.prog.underlying 5=some (.int .u8))⟩
 ·cases h;exact ⟨Dq (b:=16) (by kernel_rfl) (by omega),(by kernel_rfl:Try.prog.underlying 9=some (.string))⟩
 ·cases h;exact ⟨Dq (b:=24) (by kernel_rfl) (by omega),⟨2,by kernel_rfl,rfl,rfl⟩⟩
 ·cases h;exact ⟨Dq (b:=24) (by kernel_rfl) (by omega),⟨25,by kernel_rfl,rfl,rfl⟩⟩
 ·cases h;exact ⟨Dq (b:=24) (by kernel_rfl) (by omega),⟨5,by kernel_rfl,rfl,rfl⟩⟩
 ·cases h;exact ⟨Dq (b:=24) (by kernel_rfl) (by omega),⟨3,by kernel_rfl,rfl,rfl⟩⟩
 ·cases h;exact ⟨Dq (b:=24) (by kernel_rfl) (by omega),⟨22,by kernel_rfl,rfl,rfl⟩⟩
 ·cases h;exact ⟨Dq (b:=8) (by kernel_rfl) (by omega),⟨9,2,by kernel_rfl⟩⟩
 ·cases h;exact ⟨Dq (b:=48) (by kernel_rfl) (by omega),⟨fieldsOf Try.prog 24,by kernel_rfl⟩⟩
 ·cases h;exact ⟨Dq (b:=48) (by kernel_rfl) (by omega),⟨fieldsOf Try.prog 28,by kernel_rfl⟩⟩
 ·cases h;exact ⟨Dq (b:=80) (by kernel_rfl) (by omega),⟨fieldsOf Try.prog 61,by kernel_rfl⟩⟩
 ·cases h;exact ⟨Dq (b:=56) (by kernel_rfl) (by omega),⟨fieldsOf Try.prog 143,by kernel_rfl⟩⟩
 ·cases h;exact ⟨Dq (b:=176) (by kernel_rfl) (by omega),⟨fieldsOf Try.prog 69,by kernel_rfl⟩⟩
 ·cases h;exact ⟨Dq (b:=8) (by kernel_rfl) (by omega),⟨69,by kernel_rfl⟩⟩
 ·cases h;exact ⟨Dq (b:=40) (by kernel_rfl) (by omega),⟨fieldsOf Try.prog 77,by kernel_rfl⟩⟩
 ·cases h;exact ⟨Dq (b:=8) (by kernel_rfl) (by omega),⟨77,by kernel_rfl⟩⟩
 ·cases h
theorem Bdy: ∀t te,tab.elem t=some te→Try.prog.underlying t=some (.slice te):=by
 intro t te h
 simp only [tab] at h
 split at h
 ·cases h;kernel_rfl
 ·cases h;kernel_rfl
 ·cases h;kernel_rfl
 ·cases h;kernel_rfl
 ·cases h;kernel_rfl
 ·cases h
theorem Bfb: ∀t v,tab.mapOf t=some v→ ∃k e,Try.prog.underlying t=some (.map k e)∧Try.prog.underlying k=some .string∧tab.ty e=some v∧v.flat=true∧v.Ab=false:=by
 intro t v h
 simp only [tab] at h
 split at h
 ·cases h;exact ⟨9,2,by kernel_rfl,by kernel_rfl,rfl,rfl,rfl⟩
 ·cases h
theorem Ff {P:Program} {s:TypeId} {f o:Nat} {t:TypeId} (hu:P.underlying s=some (.struct (fieldsOf P s))) (hf:((fieldsOf P s)[f]?).map (fun fd=>(fd.offset,fd.type))=some (o,t)) (hi:((P.info? t).map fun i=>i.size==0)=some false):
  ∃(fs:Array Field) (fd:Field),P.underlying s=some (.struct fs)∧fs[f]?=some fd∧fd.offset=o∧fd.type=t∧ ∃i:TypeInfo,P.info? t=some i∧i.size≠0:=by
 cases h:(fieldsOf P s)[f]? with
 |none=>rw [h] at hf;cases hf
 |some fd=>
  rw [h] at hf
  simp only [Option.map_some,Option.some.injEq,Prod.mk.injEq] at hf
  exact ⟨fieldsOf P s,fd,hu,h,hf.1,hf.2,Aqc hi⟩
theorem Bfd: ∀s f o t,tab.off s f=some (o,t)→ ∃(fs:Array Field) (fd:Field),Try.prog.underlying s=some (.struct fs)∧fs[f]?=some fd∧fd.offset=o∧fd.type=t∧ ∃i:TypeInfo,Try.prog.info? t=some i∧i.size≠0:=by
 intro s f o t h
 simp only [tab] at h
 split at h
 ·cases h;exact Ff (by kernel_rfl) (by kernel_rfl) (by kernel_rfl)
 ·cases h;exact Ff (by kernel_rfl) (by kernel_rfl) (by kernel_rfl)
 ·cases h;exact Ff (by kernel_rfl) (by kernel_rfl) (by kernel_rfl)
 ·cases h;exact Ff (by kernel_rfl) (by kernel_rfl) (by kernel_rfl)
 ·cases h;exact Ff (by kernel_rfl) (by kernel_rfl) (by kernel_rfl)
 ·cases h;exact Ff (by kernel_rfl) (by kernel_rfl) (by kernel_rfl)
 ·cases h;exact Ff (by kernel_rfl) (by kernel_rfl) (by kernel_rfl)
 ·cases h;exact Ff (by kernel_rfl) (by kernel_rfl) (by kernel_rfl)
 ·cases h;exact Ff (by kernel_rfl) (by kernel_rfl) (by kernel_rfl)
 ·cases h;exact Ff (by kernel_rfl) (by kernel_rfl) (by kernel_rfl)
 ·cases h;exact Ff (by kernel_rfl) (by kernel_rfl) (by kernel_rfl)
 ·cases h;exact Ff (by kernel_rfl) (by kernel_rfl) (by kernel_rfl)
 ·cases h;exact Ff (by kernel_rfl) (by kernel_rfl) (by kernel_rfl)
 ·cases h;exact Ff (by kernel_rfl) (by kernel_rfl) (by kernel_rfl)
 ·cases h;exact Ff (by kernel_rfl) (by kernel_rfl) (by kernel_rfl)
 ·cases h;exact Ff (by kernel_rfl) (by kernel_rfl) (by kernel_rfl)
 ·cases h;exact Ff (by kernel_rfl) (by kernel_rfl) (by kernel_rfl)
 ·cases h;exact Ff (by kernel_rfl) (by kernel_rfl) (by kernel_rfl)
 ·cases h;exact Ff (by kernel_rfl) (by kernel_rfl) (by kernel_rfl)
 ·cases h;exact Ff (by kernel_rfl) (by kernel_rfl) (by kernel_rfl)
 ·cases h;exact Ff (by kernel_rfl) (by kernel_rfl) (by kernel_rfl)
 ·cases h;exact Ff (by kernel_rfl) (by kernel_rfl) (by kernel_rfl)
 ·cases h;exact Ff (by kernel_rfl) (by kernel_rfl) (by kernel_rfl)
 ·cases h
theorem Aad {P:Program} {t:TypeId} (hu:P.underlying t=some (.struct (fieldsOf P t))) (places:Array (Nat×Nat)) (hp: ∀w,(placesOf (fieldsOf P t)).run P w= .ok places w)
  (h: ∀f o u ρ,tab.off t f=some (o,u)→tab.ty u=some ρ→places[f]?=some (o,ρ.size)):
  ∃(fs:Array Field) (places:Array (Nat×Nat)),P.underlying t=some (.struct fs)∧(∀w,(placesOf fs).run P w= .ok places w)∧ ∀f o u ρ,tab.off t f=some (o,u)→tab.ty u=some ρ→places[f]?=some (o,ρ.size):=
 ⟨fieldsOf P t,places,hu,hp,h⟩
def Qc (t:TypeId):Array (Nat×Nat):=match t with
 |24=> #[(0,1),(1,1),(2,1)]
 |28=> #[(0,1),(1,1),(2,1)]
 |61=> #[(0,1),(1,1),(2,1),(3,1)]
 |143=> #[(0,1),(1,1),(2,1)]
 |69=> #[(0,3),(3,1),(4,1),(5,1),(6,1),(7,1),(8,1)]
 |77=> #[(0,1),(1,1),(2,1)]
 |_=> #[]
theorem Bdz: ∀t τ,tab.ty t=some τ→τ.Ab=true→ ∃(fs:Array Field) (places:Array (Nat×Nat)),Try.prog.underlying t=some (.struct fs)∧(∀w,(placesOf fs).run Try.prog w= .ok places w)∧
  ∀f o u ρ,tab.off t f=some (o,u)→tab.ty u=some ρ→places[f]?=some (o,ρ.size):=by
 intro t τ h hs
 have all: ∀t,∀f o u ρ,tab.off t f=some (o,u)→tab.ty u=some ρ→(Qc t)[f]?=some (o,ρ.size):=by
  intro t f o u ρ ho hu
  simp only [tab] at ho
  split at ho
  all_goals first
   |(cases ho;cases hu;rfl)
   |cases ho
 simp only [tab] at h
 split at h
 ·cases h;simp [Ty.Ab] at hs
 ·cases h;simp [Ty.Ab] at hs
 ·cases h;simp [Ty.Ab] at hs
 ·cases h;simp [Ty.Ab] at hs
 ·cases h;simp [Ty.Ab] at hs
 ·cases h;simp [Ty.Ab] at hs
 ·cases h;simp [Ty.Ab] at hs
 ·cases h;simp [Ty.Ab] at hs
 ·cases h;simp [Ty.Ab] at hs
 ·cases h;simp [Ty.Ab] at hs
 ·cases h;simp [Ty.Ab] at hs
 ·exact Aad (by kernel_rfl) (Qc 24) (fun w=>by kernel_rfl) (all _)
 ·exact Aad (by kernel_rfl) (Qc 28) (fun w=>by kernel_rfl) (all _)
 ·exact Aad (by kernel_rfl) (Qc 61) (fun w=>by kernel_rfl) (all _)
 ·exact Aad (by kernel_rfl) (Qc 143) (fun w=>by kernel_rfl) (all _)
 ·exact Aad (by kernel_rfl) (Qc 69) (fun w=>by kernel_rfl) (all _)
 ·cases h;simp [Ty.Ab] at hs
 ·exact Aad (by kernel_rfl) (Qc 77) (fun w=>by kernel_rfl) (all _)
 ·cases h;simp [Ty.Ab] at hs
 ·cases h
theorem Bi:Bt Try.prog tab:=⟨Bdz,Bco,Bdy,Bfb,Bfd⟩
def Be2:Tab:= {tab with fr0:=true,tr0:=true}
theorem Bcn:Bt Try.prog Be2:=Bi.flags true true
def Bfe:Tab:= {Be2 with marks:= [Oy]}
theorem Bff:Bt Try.prog Bfe:=Bcn.Aoc [Oy]
theorem mixed:Try.prog.follows .mixedOrders=true:=by kernel_rfl
end Go.Proofs.Ytebabhocakedaaa
