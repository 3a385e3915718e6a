/-
  Part 2 of the proof that the statement FnExactSolveIDAStar holds.
-/
import Derived.Test.YtfgfigkbgecfnaaGreatCSolveIDAStar00
namespace Go.Proofs.YtfgfigkbgecfnaaGreat
open Go.RowKit
inductive AC where
 |undef
 |skip
 |Lm
 |Vo
 |data (fr:Bool) (τ:Ty) (x:τ.den)
 |own (l off len:Nat)
 |Gy (l i:Nat)
 |Kh (l i:Nat)
 |clo (f:Nat) (Eg:List (Nat×Nat))
 |Kr (l:Nat)
 |sub (l i c:Nat)
 |Kd (l i j:Nat)
inductive AV where
 |at (a:AC)
 |agg (cs:List AC)
 |cf (fr:Bool) (τ:Ty) (x:τ.den)
 |Mn (l:List (Bool×List AC))
@[reducible] def AV.undef:AV:= .at .undef
inductive OB where
 |arr (fr tr:Bool) (e:Ty) (tid:TypeId) (xs:List e.den)
 |Gz (e:Ty) (tid:TypeId) (xs:List e.den)
 |var (tid:TypeId) (vs:List AC)
 |Bp (e:Ty) (te:TypeId) (rows:List (List e.den)) (out:Option Nat) (kp:Option (Nat×Nat))
 |Wo (v:Ty) (m:ByteArray->Option v.den)
structure St where
 tmps:List AV
 heap:List (Nat×OB)
def Au:List (Nat×OB)->Nat->Option OB
 | [],_=>none
 |(k,b)::r,l=>if k=l then some b else Au r l
def St.get (st:St) (t:Nat):AV:=st.tmps.getD t .undef
def St.at (st:St) (l:Nat):Option OB:=Au st.heap l
def Tj {α:Type} :List α->Nat->α->List α
 | [],_,_=> []
 |_::r,0,y=>y::r
 |x::r,n+1,y=>x::Tj r n y
def St.put (st:St) (dst:Option Tmp) (v:AV):St:=
 match dst with
 |some d=> {st with tmps:=Tj st.tmps d v}
 |none=>st
def AV.map (f:AC->AC):AV->AV
 | .at a=> .at (f a)
 | .agg cs=> .agg (cs.map f)
 | .cf fr τ x=> .cf fr τ x
 | .Mn l=> .Mn (l.map λp=>(p.1,p.2.map f))
def OB.map (f:AC->AC):OB->OB
 | .arr fr tr e t xs=> .arr fr tr e t xs
 | .Gz e t xs=> .Gz e t xs
 | .var t vs=> .var t (vs.map f)
 | .Bp e te rows out kp=> .Bp e te rows out kp
 | .Wo v m=> .Wo v m
def bl:List (Nat×OB)->Nat->List (Nat×OB)
 | [],_=> []
 |(k,b)::r,l=>if k=l then bl r l else (k,b)::bl r l
def St.Lb (st:St) (f:AC->AC):St:= {tmps:=st.tmps.map (·.map f),heap:=st.heap.map λp=>(p.1,p.2.map f)}
def Cs (l:Nat):AC->AC
 | .own k off len=>if k=l then .undef else .own k off len
 | .Gy k i=>if k=l then .undef else .Gy k i
 | .Kh k i=>if k=l then .undef else .Kh k i
 | .clo f Eg=>if (Eg.map (·.1)).contains l then .undef else .clo f Eg
 | .Kr k=>if k=l then .undef else .Kr k
 | .sub k i c=>if k=l then .undef else .sub k i c
 | .Kd k i c=>if k=l then .undef else .Kd k i c
 |a=>a
def St.forget (st:St) (l:Nat):St:=let s:=st.Lb (Cs l); {s with heap:=bl s.heap l}
def Dc (l:Nat) (fr:Bool) (e:Ty) (xs:List e.den):AC->AC
 | .own k off len=>if k=l then .data fr (.slice e) ((xs.drop off).take len) else .own k off len
 | .Kh k i=>if k=l then .undef else .Kh k i
 | .Gy k i=>if k=l then .undef else .Gy k i
 | .clo f Eg=>if (Eg.map (·.1)).contains l then .undef else .clo f Eg
 | .Kr k=>if k=l then .undef else .Kr k
 | .sub k i c=>if k=l then .undef else .sub k i c
 | .Kd k i c=>if k=l then .undef else .Kd k i c
 |a=>a
def St.freeze (st:St) (l:Nat) (fr:Bool) (e:Ty) (xs:List e.den):St:=let s:=st.Lb (Dc l fr e xs); {s with heap:=bl s.heap l}
def Hi (l:Nat) (v:Ty) (m:ByteArray->Option v.den):AC->AC
 | .Kr k=>if k=l then .data false (.smap v) m else .Kr k
 | .own k off len=>if k=l then .undef else .own k off len
 | .Kh k i=>if k=l then .undef else .Kh k i
 | .Gy k i=>if k=l then .undef else .Gy k i
 | .clo f Eg=>if (Eg.map (·.1)).contains l then .undef else .clo f Eg
 | .sub k i c=>if k=l then .undef else .sub k i c
 | .Kd k i c=>if k=l then .undef else .Kd k i c
 |a=>a
def St.Ix (st:St) (l:Nat) (v:Ty) (m:ByteArray->Option v.den):St:=let s:=st.Lb (Hi l v m); {s with heap:=bl s.heap l}
def Ou:List (Nat×OB)->Nat->OB->List (Nat×OB)
 | [],l,b=> [(l,b)]
 |(k,c)::r,l,b=>if l<k then (l,b)::(k,c)::r else (k,c)::Ou r l b
def St.new (st:St) (l:Nat) (b:OB):St:=let s:=st.forget l; {s with heap:=Ou s.heap l b}
def aY:List (Nat×OB)->Nat->OB->List (Nat×OB)
 | [],_,_=> []
 |(k,b)::r,l,b'=>if k=l then (k,b')::r else (k,b)::aY r l b'
def St.Kc (st:St) (l:Nat) (b:OB):St:= {st with heap:=aY st.heap l b}
structure Tab where
 ty:TypeId->Option Ty
 elem:TypeId->Option TypeId
 mapOf:TypeId->Option Ty
 off:TypeId->Nat->Option (Nat×TypeId)
 vg:Bool:=true
 FN:Bool:=false
 marks:List Nat:= []
 parts:List Nat:= []
 Ac7:List TypeId:= []
def Ty.zero:(τ:Ty)->τ.den
 | .int _=>(0:Int)
 | .bool=>false
 | .str=>(ByteArray.empty)
 | .slice _=> []
 | .oslice _=>none
 | .ptr a=>a.zero
 | .optr _=>none
 | .smap _=> λ_=>none
 | .clo _ c=>c.zero
 | .unit=>()
 | .pair a r=>(a.zero,r.zero)
def Tc (fr:Bool):(τ:Ty)->τ.den->List AC
 | .unit,_=> []
 | .pair a r,x=>Tc fr a x.1++Tc fr r x.2
 |τ,x=> [.data fr τ x]
def jk (fr:Bool):(τ Oq:Ty)->Oq.den->Option (Bool×τ.den)
 | .slice e, .oslice e',x=>if h:e'=e then some (fr,((h▸x:Option (List e.den)).getD [])) else none
 | .optr a, .ptr a',x=>if h:a'=a then some (fr,some (h▸x:a.den)) else none
 |_,_,_=>none
def Dv (st:St):(τ:Ty)->AC->Option (Bool×τ.den)
 |τ, .data fr Oq x=>if h:Oq=τ then some (fr||τ.flat,h▸x) else jk fr τ Oq x
 | .slice _, .Lm=>some (true,[])
 | .oslice _, .Lm=>some (true,none)
 | .optr _, .Vo=>some (true,none)
 | .slice e, .own l off len=>match st.at l with
  |some (.arr fr _ e' _ xs)=>if h:e'=e then some (fr,((h▸xs:List e.den).drop off).take len) else none
  |some (.Gz e' _ xs)=>if h:e'=e then some (true,((h▸xs:List e.den).drop off).take len) else none
  |some (.Bp e' _ rows none _)=>if h: .slice e'=e then some (false,((h▸(rows:List (Ty.slice e').den):List e.den).drop off).take len) else none
  |_=>none
 | .slice e, .sub l i _=>match st.at l with
  |some (.Bp e' _ rows none _)=>if h:e'=e then some (false,(h▸(rows.getD i []:List e'.den):List e.den)) else none
  |_=>none
 | .smap v, .Kr l=>match st.at l with
  |some (.Wo v' m)=>if h:v'=v then some (true,h▸m) else none
  |_=>none
 |_,_=>none
def Ff (st:St):(τ:Ty)->List AC->Option (Bool×τ.den)
 | .unit,[]=>some (true,())
 | .unit,_::_=>none
 | .pair a r,cs=>
  match Ff st a (cs.take a.size),Ff st r (cs.drop a.size) with
  |some (f1,x),some (f2,y)=>some (f1&&f2,(x,y))
  |_,_=>none
 |τ,[c]=>Dv st τ c
 |_,_=>none
def Vh (st:St) (a:Ty) (l i:Nat):Option (Bool×a.den):=
 match st.at l with
 |some (.var _ vs)=>Ff st a ((vs.drop i).take a.size)
 |_=>none
def Le (st:St):(τ:Ty)->List (Nat×Nat)->Option (Bool×τ.den)
 | .unit,[]=>some (true,())
 | .pair (.ptr a) r,(l,i)::cs=>
  match Vh st a l i,Le st r cs with
  |some (f1,x),some (f2,y)=>some (f1&&f2,(x,y))
  |_,_=>none
 |_,_=>none
def Jz (st:St):(τ:Ty)->AC->Option (Bool×τ.den)
 | .ptr a, .Gy l i=>Vh st a l i
 | .optr a, .Gy l i=>(Vh st a l i).map λp=>(p.1,some p.2)
 | .clo f τ, .clo g Eg=>if g=f/\f<1000000000 then Le st τ Eg else none
 |τ,c=>Dv st τ c
def Gc (st:St) (τ:Ty):AV->Option (Bool×τ.den)
 | .at (.data fr Oq x)=>if h:Oq=τ then some (fr||τ.flat,h▸x) else if τ.Aq then none else Jz st τ (.data fr Oq x)
 | .at a=>if τ.Aq then none else Jz st τ a
 | .agg cs=>if τ.Aq then Ff st τ cs else none
 |_=>none
def Eb (st:St):(τ:Ty)->List AV->Option (Bool×τ.den)
 | .unit,[]=>some (true,())
 | .pair a r,v::vs=>
  match Gc st a v,Eb st r vs with
  |some (f1,x),some (f2,y)=>some (f1&&f2,(x,y))
  |_,_=>none
 |_,_=>none
def AC.settled:AC->Bool
 | .data _ _ _| .Lm| .Vo=>true
 |_=>false
def AV.settled:AV->Bool
 | .at a=>a.settled
 | .agg cs=>cs.all (·.settled)
 | .cf _ _ _=>true
 | .Mn _=>false
inductive CK where
 |Em (τ:Ty)
 |row (e:Ty) (te:TypeId)
 |Hp (e:Ty) (te:TypeId)
 |part (e:Ty) (te:TypeId)
 |Bp (e:Ty) (te:TypeId) (kp:Bool)
@[reducible] def CK.den:CK->Type
 | .Em τ=>τ.den
 | .row e _=>List e.den
 | .Hp e _=>List e.den
 | .part e _=>List e.den×Nat×Nat
 | .Bp e _ _=>List (List e.den)
def CK.flat:CK->Bool
 | .Em τ=>τ.flat
 | .row e _=>e.flat
 | .Hp _ _=>true
 | .part e _=>e.flat
 | .Bp _ _ _=>false
def CK.isX:CK->Bool
 | .Hp _ _=>true
 |_=>false
@[reducible] def CKs.den:List CK->Type
 | []=>Unit
 |c::r=>c.den×CKs.den r
@[reducible] def IOs.den:List (Bool×CK)->Type
 | []=>Unit
 |(true, .Em _)::r=>IOs.den r
 |(true, .row e _)::r=>List e.den×IOs.den r
 |(true, .Hp e _)::r=>List e.den×IOs.den r
 |(true, .part e _)::r=>List e.den×IOs.den r
 |(true, .Bp _ _ _)::r=>IOs.den r
 |(false,_)::r=>IOs.den r
@[reducible] def Ins.den:List (Bool×CK)->Type
 | []=>Unit
 |p::r=>p.2.den×Ins.den r
structure MSpec where
 ptr:Option (TypeId×Nat):=none
 Ja:List (Option Nat)
 ins:List (Bool×CK)
 Hb:Bool
 Fu:List (Option Nat)
 outs:List CK
 fn:Ins.den ins->Option (CKs.den outs×IOs.den ins)
 keeps:List (Nat×Nat):= []
 Fg:Ins.den ins->Nat:= λ_=>0
 rp:Option TypeId:=none
 rx:Option Nat:=none
def MSpec.hd {α:Type} (s:MSpec) (l:List α):List α:=match s.rx with|none=>l|some n=>l.take n
def MSpec.tl {α:Type} (s:MSpec) (l:List α):List α:=match s.rx with|none=> []|some n=>l.drop n
structure Spec where
 arg:Ty
 res:Ty
 Hb:Bool
 fresh:Bool
 fn:arg.den->Option res.den
inductive Pp where
 |q (s:Spec)
 |m (s:MSpec)
 |b (s:Spec) (m:MSpec)
def MSpec.flat (s:MSpec):Bool:=s.outs.all (·.flat)&&s.ins.all λp=>!p.1||p.2.flat
def MSpec.Adx (s:MSpec):Bool:=s.flat||s.outs.all λc=>!c.isX
abbrev Env:=FuncId->Option Pp
def o4:Value->AV
 | .int k n=> .at (.data true (.int k) n)
 | .bool b=> .at (.data true .bool b)
 | .string s=> .at (.data true .str s)
 | .slice none 0 0=> .at .Lm
 | .pointer none=> .at .Vo
 |_=> .undef
def St.ev (st:St):Operand->AV
 | .tmp t=>st.get t
 | .const v=>o4 v
 | .func f=> .at (.clo f [])
 |_=> .undef
def idx {α:Type} (xs:List α) (i:Int):Option α:=if 0<=i then xs[i.toNat]? else none
def inb (n:Int) (len:Nat):Bool:=decide (0<=n)&&decide (n<len)
theorem Uz {n:Int} {len:Nat} :inb n len=true↔0<=n/\n<len:=by simp [inb]
def bt (k:IntKind) (n:Int):Option AV:=some (.at (.data true (.int k) n))
def Pr (b:Bool):Option AV:=some (.at (.data true .bool b))
def vL (op:BinOp) (k:IntKind) (a b:Int):Option AV:=
 match op with
 | .add=>bt k (k.wrap (a+b))
 | .sub=>bt k (k.wrap (a-b))
 | .mul=>bt k (k.wrap (a*b))
 | .quo=>if b=0 then none else bt k (k.wrap (a.tdiv b))
 | .rem=>if b=0 then none else bt k (a.tmod b)
 | .and=>bt k (k.wrap (BitVec.ofInt k.bits a&&&BitVec.ofInt k.bits b).toNat)
 | .or=>bt k (k.wrap (BitVec.ofInt k.bits a|||BitVec.ofInt k.bits b).toNat)
 | .eql=>Pr (a==b)
 | .neq=>Pr (a !=b)
 | .lss=>Pr (decide (a<b))
 | .leq=>Pr (decide (a<=b))
 | .gtr=>Pr (decide (a>b))
 | .geq=>Pr (decide (a>=b))
 |_=>none
def evalBin (op:BinOp) (x y:AV):Option AV:=
 match x,y with
 | .at (.data _ (.int k) a), .at (.data _ (.int k') b)=>
  match op with
  | .shl=>if b<0 then none else bt k (k.wrap (a*2^(min b.toNat k.bits)))
  | .shr=>if b<0 then none else bt k (a.fdiv (2^(min b.toNat k.bits)))
  |_=>if k=k' then vL op k a b else none
 | .at (.data _ .str a), .at (.data _ .str b)=>
  match op with
  | .eql=>Pr (a.toList==b.toList)
  | .neq=>Pr (!(a.toList==b.toList))
  | .add=>if a.size+b.size<=4294967296 then some (.at (.data true .str (a++b))) else none
  |_=>none
 |_,_=>none
def BY (op:UnOp) (x:AV):Option AV:=
 match op,x with
 | .not, .at (.data _ .bool b)=>Pr (!b)
 | .neg, .at (.data _ (.int k) n)=>bt k (k.wrap (0-n))
 |_,_=>none
def eR (c x y:AV):Option AV:=
 match c with
 | .at (.data _ .bool b)=>some (if b then x else y)
 |_=>none
def JI:AV->Option Int
 | .at .Lm=>some 0
 | .at (.data _ (.slice _) xs)=>some xs.length
 | .at (.data _ .str s)=>some s.size
 | .at (.own _ _ len)=>some (len:Int)
 |_=>none
def Adp:AV->Option Int
 | .at .Lm=>some 0
 | .at (.data _ (.slice _) xs)=>some xs.length
 | .at (.own _ _ len)=>some (len:Int)
 |_=>none
def JK (st:St):AV->Option Int
 | .at (.sub l i _)=>match st.at l with
  |some (.Bp _ _ rows none _)=>some (rows.getD i []).length
  |_=>none
 |v=>Adp v
def VR:AV->Option Int
 | .at (.data _ .str s)=>some s.size
 |_=>none
def Lg:(τ:Ty)->τ.den->Nat->(ρ:Ty)->Option ρ.den
 | .pair a r,x,o,ρ=>if o=0 then (if h:a=ρ then some (h▸x.1) else none) else if o<a.size then none else Lg r x.2 (o-a.size) ρ
 |_,_,_,_=>none
def gR (l i:Nat):(c:Nat)->(τ:Ty)->τ.den->List AC
 |_, .unit,_=> []
 |c, .pair a r,x=>gR l i c a x.1++gR l i (c+a.size) r x.2
 |c,τ,x=> [if τ.flat then .data true τ x else .sub l i c]
variable (T:Tab)
def Qu (st:St) (t:TypeId) (p:AV):Option AV:=
 match T.ty t,p with
 |some τ, .at (.data fr (.ptr Oq) x)=>if Oq=τ then some (.at (.data (fr||Oq.flat) Oq x)) else none
 |some τ, .at (.data fr (.optr Oq) (some x))=>if Oq=τ then some (.at (.data (fr||Oq.flat) Oq x)) else none
 |some τ, .at (.Gy l i)=>match st.at l with
  |some (.var _ vs)=>if τ.Aq then (if i+τ.size<=vs.length then some (.agg ((vs.drop i).take τ.size)) else none) else vs[i]?.map .at
  |_=>none
 |some τ, .at (.Kh l i)=>match st.at l with
  |some (.arr fr _ e _ xs)=>if e=τ then xs[i]?.map λx=> .at (.data (fr||e.flat) e x) else none
  |some (.Gz e _ xs)=>if e=τ then xs[i]?.map λx=>if e.Aq then .agg (gR l i 0 e x) else .at ((gR l i 0 e x).headD .undef) else none
  |some (.Bp _ _ _ none _)=>if τ.Aq then none else some (.at (.sub l i 0))
  |_=>none
 |some τ, .at (.Kd l i j)=>match st.at l with
  |some (.Bp e _ rows none _)=>if e=τ then some (.at (.data e.flat e ((rows.getD i []).getD j e.zero))) else none
  |_=>none
 |_,_=>none
def Kx (st:St) (t:TypeId) (x i:AV):Option AV:=
 match x,i with
 | .at (.data fr (.slice e) xs), .at (.data _ (.int _) n)=>if (T.elem t).bind T.ty=some e then (idx xs n).map λx=> .at (.data fr (.ptr e) x) else none
 | .at (.own l off len), .at (.data _ (.int _) n)=>match st.at l with
  |some (.arr _ _ e tid _)=>if T.elem t=some tid/\T.ty tid=some e/\inb n len=true then some (.at (.Kh l (off+n.toNat))) else none
  |some (.Gz e tid _)=>if T.elem t=some tid/\T.ty tid=some e/\inb n len=true then some (.at (.Kh l (off+n.toNat))) else none
  |some (.Bp _ te _ _ _)=>if T.elem t=some te/\(T.ty te).map Ty.size=some 1/\inb n len=true then some (.at (.Kh l (off+n.toNat))) else none
  |_=>none
 | .at (.sub l i _), .at (.data _ (.int _) n)=>match st.at l with
  |some (.Bp e _ rows none _)=>if ((T.elem t).bind T.ty).map Ty.size=some e.size/\inb n (rows.getD i []).length=true then some (.at (.Kd l i n.toNat)) else none
  |_=>none
 |_,_=>none
def Oh (s:TypeId) (x:AV) (f:Nat):Option AV:=
 match T.off s f,x with
 |some (o,_), .at (.Gy l i)=>some (.at (.Gy l (i+o)))
 |some (o,t), .at (.data fr (.ptr τ) x)=>if T.ty s=some τ then (T.ty t).bind λρ=>(Lg τ x o ρ).map λy=> .at (.data fr (.ptr ρ) y) else none
 |some (o,t), .at (.data fr (.optr τ) (some x))=>if T.ty s=some τ then (T.ty t).bind λρ=>(Lg τ x o ρ).map λy=> .at (.data fr (.ptr ρ) y) else none
 |_,_=>none
def qi (s:TypeId) (x:AV) (f:Nat):Option AV:=
 match T.off s f,x with
 |some (o,t), .agg cs=>(T.ty t).bind λρ=>if ρ.Aq then none else cs[o]?.map .at
 |some (o,t), .at (.data fr τ x)=>if T.ty s=some τ then (T.ty t).bind λρ=>(Lg τ x o ρ).map λy=> .at (.data fr ρ y) else none
 |_,_=>none
def bnd (v:Option AV) (d:Int):Option Int:=
 match v with
 |none=>some d
 |some (.at (.data _ (.int _) n))=>some n
 |_=>none
def eS (st:St) (t:TypeId) (x:AV) (lo hi:Option AV):Option AV:=
 match JI x with
 |none=>none
 |some n=>
  match bnd lo 0,bnd hi n with
  |some l,some h=>
   if 0<=l/\l<=h/\h<=n then
    match x with
    | .at (.data fr (.slice e) xs)=>if (T.elem t).bind T.ty=some e then some (.at (.data fr (.slice e) ((xs.take h.toNat).drop l.toNat))) else none
    | .at (.own k off _)=>match st.at k with
     |some (.arr _ _ e tid _)=>if T.elem t=some tid/\T.ty tid=some e then some (.at (.own k (off+l.toNat) (h.toNat-l.toNat))) else none
     |_=>none
    | .at (.data _ .str s)=>if T.ty t=some .str then some (.at (.data true .str (s.extract l.toNat h.toNat))) else none
    |_=>none
   else none
  |_,_=>none
def kU (t:TypeId) (x i:AV):Option AV:=
 match x,i with
 | .at (.data _ .str s), .at (.data _ (.int _) n)=>if T.ty t=some .str then (if 0<=n then s[n.toNat]?.map λb=> .at (.data true (.int .u8) b.toNat) else none) else none
 |_,_=>none
def Pf (Γ:Env) (st:St) (f:FuncId) (args:List AV):Option AV:=
 match Γ f with
 |some (.q s)=>
  if s.fresh||s.res.flat||args.all (·.settled) then
   match Eb st s.arg args with
   |none=>none
   |some (_,x)=>(s.fn x).map λy=>if s.Hb then .cf (s.fresh||s.res.flat) s.res y else .at (.data (s.fresh||s.res.flat) s.res y)
  else none
 |_=>none
def Ty.chain:Ty->Bool
 | .unit=>true
 | .pair a r=>!a.Aq&&r.chain
 |_=>false
def cr (fr:Bool):(τ:Ty)->τ.den->List AV
 | .pair a r,x=> .at (.data fr a x.1)::cr fr r x.2
 |_,_=> []
def Yt (Γ:Env) (st:St) (v:AV) (args:List AV):Option AV:=
 match v with
 | .at (.data fr (.clo f τ) x)=>if τ.chain then (if f<1000000000 then Pf Γ st f (args++cr fr τ x) else Pf Γ st (f-1000000000) (cr fr τ x++args)) else none
 | .at (.clo f Eg)=>Pf Γ st f (args++Eg.map λp=> .at (.Gy p.1 p.2))
 |_=>none
def mU:List AV->Option (List (Nat×Nat))
 | []=>some []
 | .at (.Gy l i)::r=>(mU r).map λc=>(l,i)::c
 |_=>none
def fU (st:St) (t:TypeId) (m k:AV) (ok:Bool):Option AV:=
 match T.mapOf t,k with
 |some v, .at (.data _ .str s)=>
  match Gc st (.smap v) m with
  |some (_,f)=>some (if ok then .cf true (.pair v (.pair .bool .unit)) (((f s).getD v.zero),(f s).isSome,()) else .at (.data true v ((f s).getD v.zero)))
  |none=>none
 |_,_=>none
def eQ (x:AV):Option Bool:=
 match x with
 | .at .Lm=>some true
 | .at (.data _ (.oslice _) x)=>some x.isNone
 |_=>none
def eP (x:AV):Option Bool:=
 match x with
 | .at .Vo=>some true
 | .at (.Gy _ _)=>some false
 | .at (.data _ (.optr _) x)=>some x.isNone
 | .at (.data _ (.ptr _) _)=>some false
 |_=>none
def Adj:Option Ty->Bool
 |some (.ptr _)=>true
 |some (.optr _)=>true
 |_=>false
def dT (fr:Bool):(τ:Ty)->τ.den->Nat->Option AV
 | .pair a _,x,0=>some (.at (.data (fr||a.flat) a x.1))
 | .pair _ r,x,n+1=>dT fr r x.2 n
 |_,_,_=>none
def Apg:Bool×List AC->Option AV
 |(true,cs)=>some (.agg cs)
 |(false,[a])=>some (.at a)
 |_=>none
def Afl (l:List (Bool×List AC)) (i:Nat):Option AV:=(l[i]?).bind Apg
def BW (mx:Bool):List AV->Option AV
 | [.at (.data _ (.int k) a), .at (.data _ (.int k') b)]=>if k=k' then bt k (if mx then (if b>a then b else a) else (if b<a then b else a)) else none
 |_=>none
def Up (op:BinOp) (t:TypeId) (x y:AV):Option AV:=
 match op,x,y with
 | .eql,x, .at .Lm=>if (T.elem t).isSome then (eQ x).bind Pr else none
 | .eql,x, .at .Vo=>if Adj (T.ty t) then (eP x).bind Pr else none
 | .neq,x, .at .Lm=>if (T.elem t).isSome then (eQ x).bind λb=>Pr (!b) else none
 | .neq,x, .at .Vo=>if Adj (T.ty t) then (eP x).bind λb=>Pr (!b) else none
 | .eql, .at (.data _ .bool a), .at (.data _ .bool b)=>if T.ty t=some .bool then Pr (a==b) else none
 | .neq, .at (.data _ .bool a), .at (.data _ .bool b)=>if T.ty t=some .bool then Pr (!(a==b)) else none
 |op,x,y=>evalBin op x y
def bytesOf (l:List Int):ByteArray:=⟨(l.map λn=>UInt8.ofNat n.toNat).toArray⟩
def qN:AV->AV
 | .at (.data fr (.oslice e) x)=> .at (.data fr (.slice e) (x.getD []))
 |v=>v
def Fl (Γ:Env) (st:St) (o:Oper):Option AV:=
 match o.op with
 | .move x=>some (st.ev x)
 | .assign x=>some (st.ev x)
 | .pick c a b=>eR (st.ev c) (st.ev a) (st.ev b)
 | .load t a=>Qu T st t (st.ev a)
 | .nilCheck x=>match st.ev x with
  | .at (.data fr (.ptr τ) x)=>some (.at (.data fr (.ptr τ) x))
  | .at (.data fr (.optr τ) (some x))=>some (.at (.data fr (.ptr τ) x))
  | .at (.Gy l i)=>some (.at (.Gy l i))
  | .at (.Kh l i)=>some (.at (.Kh l i))
  |_=>none
 | .binOp op t x y _=>Up T op t (st.ev x) (st.ev y)
 | .unOp op _ x=>BY op (st.ev x)
 | .convert s t x=>match T.ty s,T.ty t,st.ev x with
  |some _,some (.int k), .at (.data _ (.int _) n)=>bt k (k.wrap n)
  |some (.slice (.int .u8)),some .str,_=>(Gc st (.slice (.int .u8)) (st.ev x)).map λp=> .at (.data true .str (bytesOf p.2))
  |_,_,_=>none
 | .slice t x lo hi mx=>if mx.isSome then none else eS T st t (st.ev x) (lo.map st.ev) (hi.map st.ev)
 | .fieldAddr s x f=>Oh T s (st.ev x) f
 | .field s x f=>qi T s (st.ev x) f
 | .indexAddr t x i=>Kx T st t (qN (st.ev x)) (st.ev i)
 | .index t x i=>kU T t (st.ev x) (st.ev i)
 | .extract x i=>match st.ev x with
  | .cf fr τ y=>dT fr τ y i
  | .Mn l=>Afl l i
  |_=>none
 | .call {callee:= .value (.func f),args, .. } =>Pf Γ st f (args.toList.map st.ev)
 | .call {callee:= .value (.tmp t),args, .. } =>Yt Γ st (st.get t) (args.toList.map st.ev)
 | .makeFunc (.func f) first Eg=>match first.toList.map st.ev with
  | []=>(mU (Eg.toList.map st.ev)).map λc=> .at (.clo f c)
  | [.at (.data fr τ x)]=>if Eg.isEmpty&&!τ.Aq then some (.at (.data fr (.clo (f+1000000000) (.pair τ .unit)) (x,()))) else none
  |_=>none
 | .lookup t m k ok=>fU T st t (st.ev m) (st.ev k) ok
 | .call {callee:= .builtin .len,args,argTypes} =>match args.toList,argTypes.toList with
  | [x],[t]=>match T.ty t with
   |some (.slice _)=>(JK st (st.ev x)).bind (bt .i64)
   |some (.oslice _)=>(JK st (qN (st.ev x))).bind (bt .i64)
   |some .str=>(VR (st.ev x)).bind (bt .i64)
   |_=>none
  |_,_=>none
 | .call {callee:= .builtin .min,args, .. } =>BW false (args.toList.map st.ev)
 | .call {callee:= .builtin .max,args, .. } =>BW true (args.toList.map st.ev)
 |_=>none
def Yl (st:St) (t:Option Tmp):Option (Option Bool):=
 match t with
 |some t=>match st.get t with
  | .at (.data _ .bool b)=>some (some b)
  | .at .skip=>some none
  |_=>none
 |none=>none
end Go.Proofs.YtfgfigkbgecfnaaGreat
