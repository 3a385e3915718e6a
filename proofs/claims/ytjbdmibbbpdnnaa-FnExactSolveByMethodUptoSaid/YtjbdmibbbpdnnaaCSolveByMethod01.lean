/-
  Part 2 of the proof that the statement FnExactSolveByMethod holds.
-/
import Derived.Test.YtjbdmibbbpdnnaaCSolveByMethod00
namespace Go.Proofs.Ytjbdmibbbpdnnaa
open Go.RowKit
inductive AC where
 |undef
 |skip
 |Hs
 |Qv
 |data (fr:Bool) (τ:Ty) (x:τ.den)
 |own (l off len:Nat)
 |Eb (l i:Nat)
 |Gf (l i:Nat)
 |clo (f:Nat) (Bz:List (Nat×Nat))
 |Gp (l:Nat)
 |sub (l i c:Nat)
 |Gd (l i j:Nat)
inductive AV where
 |at (a:AC)
 |agg (cs:List AC)
 |Us (fr:Bool) (τ:Ty) (x:τ.den)
 |Jg (l:List (Bool×List AC))
@[reducible] def AV.undef:AV:= .at .undef
inductive OB where
 |arr (fr tr:Bool) (e:Ty) (tid:TypeId) (xs:List e.den)
 |Dk (e:Ty) (tid:TypeId) (xs:List e.den)
 |var (tid:TypeId) (vs:List AC)
 |Am (e:Ty) (te:TypeId) (rows:List (List e.den)) (out:Option Nat) (kp:Option (Nat×Nat))
 |Ov (v:Ty) (m:ByteArray->Option v.den)
structure St where
 tmps:List AV
 heap:List (Nat×OB)
def Ae:List (Nat×OB)->Nat->Option OB
 | [],_=>none
 |(k,b)::r,l=>if k=l then some b else Ae r l
def St.get (st:St) (t:Nat):AV:=st.tmps.getD t .undef
def St.at (st:St) (l:Nat):Option OB:=Ae st.heap l
def Nz {α:Type} :List α->Nat->α->List α
 | [],_,_=> []
 |_::r,0,y=>y::r
 |x::r,n+1,y=>x::Nz r n y
def St.put (st:St) (dst:Option Tmp) (v:AV):St:=
 match dst with
 |some d=> {st with tmps:=Nz st.tmps d v}
 |none=>st
def AV.map (f:AC->AC):AV->AV
 | .at a=> .at (f a)
 | .agg cs=> .agg (cs.map f)
 | .Us fr τ x=> .Us fr τ x
 | .Jg l=> .Jg (l.map λp=>(p.1,p.2.map f))
def OB.map (f:AC->AC):OB->OB
 | .arr fr tr e t xs=> .arr fr tr e t xs
 | .Dk e t xs=> .Dk e t xs
 | .var t vs=> .var t (vs.map f)
 | .Am e te rows out kp=> .Am e te rows out kp
 | .Ov v m=> .Ov v m
def Tg:List (Nat×OB)->Nat->List (Nat×OB)
 | [],_=> []
 |(k,b)::r,l=>if k=l then Tg r l else (k,b)::Tg r l
def St.Gm (st:St) (f:AC->AC):St:= {tmps:=st.tmps.map (·.map f),heap:=st.heap.map λp=>(p.1,p.2.map f)}
def Ba (l:Nat):AC->AC
 | .own k off len=>if k=l then .undef else .own k off len
 | .Eb k i=>if k=l then .undef else .Eb k i
 | .Gf k i=>if k=l then .undef else .Gf k i
 | .clo f Bz=>if (Bz.map (·.1)).contains l then .undef else .clo f Bz
 | .Gp k=>if k=l then .undef else .Gp k
 | .sub k i c=>if k=l then .undef else .sub k i c
 | .Gd k i c=>if k=l then .undef else .Gd k i c
 |a=>a
def St.forget (st:St) (l:Nat):St:=let s:=st.Gm (Ba l); {s with heap:=Tg s.heap l}
def Bb (l:Nat) (fr:Bool) (e:Ty) (xs:List e.den):AC->AC
 | .own k off len=>if k=l then .data fr (.slice e) ((xs.drop off).take len) else .own k off len
 | .Gf k i=>if k=l then .undef else .Gf k i
 | .Eb k i=>if k=l then .undef else .Eb k i
 | .clo f Bz=>if (Bz.map (·.1)).contains l then .undef else .clo f Bz
 | .Gp k=>if k=l then .undef else .Gp k
 | .sub k i c=>if k=l then .undef else .sub k i c
 | .Gd k i c=>if k=l then .undef else .Gd k i c
 |a=>a
def St.freeze (st:St) (l:Nat) (fr:Bool) (e:Ty) (xs:List e.den):St:=let s:=st.Gm (Bb l fr e xs); {s with heap:=Tg s.heap l}
def Dq (l:Nat) (v:Ty) (m:ByteArray->Option v.den):AC->AC
 | .Gp k=>if k=l then .data false (.smap v) m else .Gp k
 | .own k off len=>if k=l then .undef else .own k off len
 | .Gf k i=>if k=l then .undef else .Gf k i
 | .Eb k i=>if k=l then .undef else .Eb k i
 | .clo f Bz=>if (Bz.map (·.1)).contains l then .undef else .clo f Bz
 | .sub k i c=>if k=l then .undef else .sub k i c
 | .Gd k i c=>if k=l then .undef else .Gd k i c
 |a=>a
def St.Eo (st:St) (l:Nat) (v:Ty) (m:ByteArray->Option v.den):St:=let s:=st.Gm (Dq l v m); {s with heap:=Tg s.heap l}
def Jk:List (Nat×OB)->Nat->OB->List (Nat×OB)
 | [],l,b=> [(l,b)]
 |(k,c)::r,l,b=>if l<k then (l,b)::(k,c)::r else (k,c)::Jk r l b
def St.new (st:St) (l:Nat) (b:OB):St:=let s:=st.forget l; {s with heap:=Jk s.heap l b}
def Ya:List (Nat×OB)->Nat->OB->List (Nat×OB)
 | [],_,_=> []
 |(k,b)::r,l,b'=>if k=l then (k,b')::r else (k,b)::Ya r l b'
def St.Gg (st:St) (l:Nat) (b:OB):St:= {st with heap:=Ya st.heap l b}
structure Tab where
 ty:TypeId->Option Ty
 elem:TypeId->Option TypeId
 mapOf:TypeId->Option Ty
 off:TypeId->Nat->Option (Nat×TypeId)
 mV:Bool:=true
 uH:Bool:=false
 marks:List Nat:= []
 parts:List Nat:= []
 TL:List TypeId:= []
def Ty.zero:(τ:Ty)->τ.den
 | .int _=>(0:Int)
 | .bool=>false
 | .str=>(ByteArray.empty)
 | .slice _=> []
 | .oslice _=>none
 | .ptr a=>a.zero
 | .optr _=>none
 | .smap _=> λ_=>none
 | .clo _ c=>c.zero
 | .unit=>()
 | .pair a r=>(a.zero,r.zero)
def Ro (fr:Bool):(τ:Ty)->τ.den->List AC
 | .unit,_=> []
 | .pair a r,x=>Ro fr a x.1++Ro fr r x.2
 |τ,x=> [.data fr τ x]
def cq (fr:Bool):(τ Ji:Ty)->Ji.den->Option (Bool×τ.den)
 | .slice e, .oslice e',x=>if h:e'=e then some (fr,((h▸x:Option (List e.den)).getD [])) else none
 | .optr a, .ptr a',x=>if h:a'=a then some (fr,some (h▸x:a.den)) else none
 |_,_,_=>none
def Bq (st:St):(τ:Ty)->AC->Option (Bool×τ.den)
 |τ, .data fr Ji x=>if h:Ji=τ then some (fr||τ.flat,h▸x) else cq fr τ Ji x
 | .slice _, .Hs=>some (true,[])
 | .oslice _, .Hs=>some (true,none)
 | .optr _, .Qv=>some (true,none)
 | .slice e, .own l off len=>match st.at l with
  |some (.arr fr _ e' _ xs)=>if h:e'=e then some (fr,((h▸xs:List e.den).drop off).take len) else none
  |some (.Dk e' _ xs)=>if h:e'=e then some (true,((h▸xs:List e.den).drop off).take len) else none
  |some (.Am e' _ rows none _)=>if h: .slice e'=e then some (false,((h▸(rows:List (Ty.slice e').den):List e.den).drop off).take len) else none
  |_=>none
 | .slice e, .sub l i _=>match st.at l with
  |some (.Am e' _ rows none _)=>if h:e'=e then some (false,(h▸(rows.getD i []:List e'.den):List e.den)) else none
  |_=>none
 | .smap v, .Gp l=>match st.at l with
  |some (.Ov v' m)=>if h:v'=v then some (true,h▸m) else none
  |_=>none
 |_,_=>none
def Cs (st:St):(τ:Ty)->List AC->Option (Bool×τ.den)
 | .unit,[]=>some (true,())
 | .unit,_::_=>none
 | .pair a r,cs=>
  match Cs st a (cs.take a.size),Cs st r (cs.drop a.size) with
  |some (f1,x),some (f2,y)=>some (f1&&f2,(x,y))
  |_,_=>none
 |τ,[c]=>Bq st τ c
 |_,_=>none
def Np (st:St) (a:Ty) (l i:Nat):Option (Bool×a.den):=
 match st.at l with
 |some (.var _ vs)=>Cs st a ((vs.drop i).take a.size)
 |_=>none
def Gr (st:St):(τ:Ty)->List (Nat×Nat)->Option (Bool×τ.den)
 | .unit,[]=>some (true,())
 | .pair (.ptr a) r,(l,i)::cs=>
  match Np st a l i,Gr st r cs with
  |some (f1,x),some (f2,y)=>some (f1&&f2,(x,y))
  |_,_=>none
 |_,_=>none
def Fq (st:St):(τ:Ty)->AC->Option (Bool×τ.den)
 | .ptr a, .Eb l i=>Np st a l i
 | .optr a, .Eb l i=>(Np st a l i).map λp=>(p.1,some p.2)
 | .clo f τ, .clo g Bz=>if g=f/\f<1000000000 then Gr st τ Bz else none
 |τ,c=>Bq st τ c
def Cu (st:St) (τ:Ty):AV->Option (Bool×τ.den)
 | .at (.data fr Ji x)=>if h:Ji=τ then some (fr||τ.flat,h▸x) else if τ.Ac then none else Fq st τ (.data fr Ji x)
 | .at a=>if τ.Ac then none else Fq st τ a
 | .agg cs=>if τ.Ac then Cs st τ cs else none
 |_=>none
def Bt (st:St):(τ:Ty)->List AV->Option (Bool×τ.den)
 | .unit,[]=>some (true,())
 | .pair a r,v::vs=>
  match Cu st a v,Bt st r vs with
  |some (f1,x),some (f2,y)=>some (f1&&f2,(x,y))
  |_,_=>none
 |_,_=>none
def AC.settled:AC->Bool
 | .data _ _ _| .Hs| .Qv=>true
 |_=>false
def AV.settled:AV->Bool
 | .at a=>a.settled
 | .agg cs=>cs.all (·.settled)
 | .Us _ _ _=>true
 | .Jg _=>false
inductive CK where
 |Ft (τ:Ty)
 |row (e:Ty) (te:TypeId)
 |Dv (e:Ty) (te:TypeId)
 |part (e:Ty) (te:TypeId)
 |Am (e:Ty) (te:TypeId) (kp:Bool)
@[reducible] def CK.den:CK->Type
 | .Ft τ=>τ.den
 | .row e _=>List e.den
 | .Dv e _=>List e.den
 | .part e _=>List e.den×Nat×Nat
 | .Am e _ _=>List (List e.den)
def CK.flat:CK->Bool
 | .Ft τ=>τ.flat
 | .row e _=>e.flat
 | .Dv _ _=>true
 | .part e _=>e.flat
 | .Am _ _ _=>false
def CK.UU:CK->Bool
 | .Dv _ _=>true
 |_=>false
@[reducible] def CKs.den:List CK->Type
 | []=>Unit
 |c::r=>c.den×CKs.den r
@[reducible] def IOs.den:List (Bool×CK)->Type
 | []=>Unit
 |(true, .Ft _)::r=>IOs.den r
 |(true, .row e _)::r=>List e.den×IOs.den r
 |(true, .Dv e _)::r=>List e.den×IOs.den r
 |(true, .part e _)::r=>List e.den×IOs.den r
 |(true, .Am _ _ _)::r=>IOs.den r
 |(false,_)::r=>IOs.den r
@[reducible] def Ins.den:List (Bool×CK)->Type
 | []=>Unit
 |p::r=>p.2.den×Ins.den r
structure MSpec where
 ptr:Option (TypeId×Nat):=none
 He:List (Option Nat)
 ins:List (Bool×CK)
 Gh:Bool
 Gj:List (Option Nat)
 outs:List CK
 fn:Ins.den ins->Option (CKs.den outs×IOs.den ins)
 keeps:List (Nat×Nat):= []
 Cv:Ins.den ins->Nat:= λ_=>0
 rp:Option TypeId:=none
structure Spec where
 arg:Ty
 res:Ty
 Gh:Bool
 fresh:Bool
 fn:arg.den->Option res.den
inductive Td where
 |q (s:Spec)
 |m (s:MSpec)
 |b (s:Spec) (m:MSpec)
def MSpec.flat (s:MSpec):Bool:=s.outs.all (·.flat)&&s.ins.all λp=>!p.1||p.2.flat
def MSpec.LR (s:MSpec):Bool:=s.flat||s.outs.all λc=>!c.UU
abbrev Env:=FuncId->Option Td
def gX:Value->AV
 | .int k n=> .at (.data true (.int k) n)
 | .bool b=> .at (.data true .bool b)
 | .string s=> .at (.data true .str s)
 | .slice none 0 0=> .at .Hs
 | .pointer none=> .at .Qv
 |_=> .undef
def St.ev (st:St):Operand->AV
 | .tmp t=>st.get t
 | .const v=>gX v
 | .func f=> .at (.clo f [])
 |_=> .undef
def idx {α:Type} (xs:List α) (i:Int):Option α:=if 0<=i then xs[i.toNat]? else none
def UT (n:Int) (len:Nat):Bool:=decide (0<=n)&&decide (n<len)
theorem Nh {n:Int} {len:Nat} :UT n len=true↔0<=n/\n<len:=by simp [UT]
def To (k:IntKind) (n:Int):Option AV:=some (.at (.data true (.int k) n))
def Jy (b:Bool):Option AV:=some (.at (.data true .bool b))
def nu (op:BinOp) (k:IntKind) (a b:Int):Option AV:=
 match op with
 | .add=>To k (k.wrap (a+b))
 | .sub=>To k (k.wrap (a-b))
 | .mul=>To k (k.wrap (a*b))
 | .quo=>if b=0 then none else To k (k.wrap (a.tdiv b))
 | .rem=>if b=0 then none else To k (a.tmod b)
 | .and=>To k (k.wrap (BitVec.ofInt k.bits a&&&BitVec.ofInt k.bits b).toNat)
 | .or=>To k (k.wrap (BitVec.ofInt k.bits a|||BitVec.ofInt k.bits b).toNat)
 | .eql=>Jy (a==b)
 | .neq=>Jy (a !=b)
 | .lss=>Jy (decide (a<b))
 | .leq=>Jy (decide (a<=b))
 | .gtr=>Jy (decide (a>b))
 | .geq=>Jy (decide (a>=b))
 |_=>none
def evalBin (op:BinOp) (x y:AV):Option AV:=
 match x,y with
 | .at (.data _ (.int k) a), .at (.data _ (.int k') b)=>
  match op with
  | .shl=>if b<0 then none else To k (k.wrap (a*2^(min b.toNat k.bits)))
  | .shr=>if b<0 then none else To k (a.fdiv (2^(min b.toNat k.bits)))
  |_=>if k=k' then nu op k a b else none
 | .at (.data _ .str a), .at (.data _ .str b)=>
  match op with
  | .eql=>Jy (a.toList==b.toList)
  | .neq=>Jy (!(a.toList==b.toList))
  | .add=>if a.size+b.size<=4294967296 then some (.at (.data true .str (a++b))) else none
  |_=>none
 |_,_=>none
def sG (op:UnOp) (x:AV):Option AV:=
 match op,x with
 | .not, .at (.data _ .bool b)=>Jy (!b)
 | .neg, .at (.data _ (.int k) n)=>To k (k.wrap (0-n))
 |_,_=>none
def Yr (c x y:AV):Option AV:=
 match c with
 | .at (.data _ .bool b)=>some (if b then x else y)
 |_=>none
def wE:AV->Option Int
 | .at .Hs=>some 0
 | .at (.data _ (.slice _) xs)=>some xs.length
 | .at (.data _ .str s)=>some s.size
 | .at (.own _ _ len)=>some (len:Int)
 |_=>none
def LK:AV->Option Int
 | .at .Hs=>some 0
 | .at (.data _ (.slice _) xs)=>some xs.length
 | .at (.own _ _ len)=>some (len:Int)
 |_=>none
def wG (st:St):AV->Option Int
 | .at (.sub l i _)=>match st.at l with
  |some (.Am _ _ rows none _)=>some (rows.getD i []).length
  |_=>none
 |v=>LK v
def CZ:AV->Option Int
 | .at (.data _ .str s)=>some s.size
 |_=>none
def Gt:(τ:Ty)->τ.den->Nat->(ρ:Ty)->Option ρ.den
 | .pair a r,x,o,ρ=>if o=0 then (if h:a=ρ then some (h▸x.1) else none) else if o<a.size then none else Gt r x.2 (o-a.size) ρ
 |_,_,_,_=>none
def aX (l i:Nat):(c:Nat)->(τ:Ty)->τ.den->List AC
 |_, .unit,_=> []
 |c, .pair a r,x=>aX l i c a x.1++aX l i (c+a.size) r x.2
 |c,τ,x=> [if τ.flat then .data true τ x else .sub l i c]
variable (T:Tab)
def Kn (st:St) (t:TypeId) (p:AV):Option AV:=
 match T.ty t,p with
 |some τ, .at (.data fr (.ptr Ji) x)=>if Ji=τ then some (.at (.data (fr||Ji.flat) Ji x)) else none
 |some τ, .at (.data fr (.optr Ji) (some x))=>if Ji=τ then some (.at (.data (fr||Ji.flat) Ji x)) else none
 |some τ, .at (.Eb l i)=>match st.at l with
  |some (.var _ vs)=>if τ.Ac then (if i+τ.size<=vs.length then some (.agg ((vs.drop i).take τ.size)) else none) else vs[i]?.map .at
  |_=>none
 |some τ, .at (.Gf l i)=>match st.at l with
  |some (.arr fr _ e _ xs)=>if e=τ then xs[i]?.map λx=> .at (.data (fr||e.flat) e x) else none
  |some (.Dk e _ xs)=>if e=τ then xs[i]?.map λx=>if e.Ac then .agg (aX l i 0 e x) else .at ((aX l i 0 e x).headD .undef) else none
  |some (.Am _ _ _ none _)=>if τ.Ac then none else some (.at (.sub l i 0))
  |_=>none
 |some τ, .at (.Gd l i j)=>match st.at l with
  |some (.Am e _ rows none _)=>if e=τ then some (.at (.data e.flat e ((rows.getD i []).getD j e.zero))) else none
  |_=>none
 |_,_=>none
def Gi (st:St) (t:TypeId) (x i:AV):Option AV:=
 match x,i with
 | .at (.data fr (.slice e) xs), .at (.data _ (.int _) n)=>if (T.elem t).bind T.ty=some e then (idx xs n).map λx=> .at (.data fr (.ptr e) x) else none
 | .at (.own l off len), .at (.data _ (.int _) n)=>match st.at l with
  |some (.arr _ _ e tid _)=>if T.elem t=some tid/\T.ty tid=some e/\UT n len=true then some (.at (.Gf l (off+n.toNat))) else none
  |some (.Dk e tid _)=>if T.elem t=some tid/\T.ty tid=some e/\UT n len=true then some (.at (.Gf l (off+n.toNat))) else none
  |some (.Am _ te _ _ _)=>if T.elem t=some te/\(T.ty te).map Ty.size=some 1/\UT n len=true then some (.at (.Gf l (off+n.toNat))) else none
  |_=>none
 | .at (.sub l i _), .at (.data _ (.int _) n)=>match st.at l with
  |some (.Am e _ rows none _)=>if ((T.elem t).bind T.ty).map Ty.size=some e.size/\UT n (rows.getD i []).length=true then some (.at (.Gd l i n.toNat)) else none
  |_=>none
 |_,_=>none
def Iy (s:TypeId) (x:AV) (f:Nat):Option AV:=
 match T.off s f,x with
 |some (o,_), .at (.Eb l i)=>some (.at (.Eb l (i+o)))
 |some (o,t), .at (.data fr (.ptr τ) x)=>if T.ty s=some τ then (T.ty t).bind λρ=>(Gt τ x o ρ).map λy=> .at (.data fr (.ptr ρ) y) else none
 |some (o,t), .at (.data fr (.optr τ) (some x))=>if T.ty s=some τ then (T.ty t).bind λρ=>(Gt τ x o ρ).map λy=> .at (.data fr (.ptr ρ) y) else none
 |_,_=>none
def jr (s:TypeId) (x:AV) (f:Nat):Option AV:=
 match T.off s f,x with
 |some (o,t), .agg cs=>(T.ty t).bind λρ=>if ρ.Ac then none else cs[o]?.map .at
 |some (o,t), .at (.data fr τ x)=>if T.ty s=some τ then (T.ty t).bind λρ=>(Gt τ x o ρ).map λy=> .at (.data fr ρ y) else none
 |_,_=>none
def II (v:Option AV) (d:Int):Option Int:=
 match v with
 |none=>some d
 |some (.at (.data _ (.int _) n))=>some n
 |_=>none
def Ys (st:St) (t:TypeId) (x:AV) (lo hi:Option AV):Option AV:=
 match wE x with
 |none=>none
 |some n=>
  match II lo 0,II hi n with
  |some l,some h=>
   if 0<=l/\l<=h/\h<=n then
    match x with
    | .at (.data fr (.slice e) xs)=>if (T.elem t).bind T.ty=some e then some (.at (.data fr (.slice e) ((xs.take h.toNat).drop l.toNat))) else none
    | .at (.own k off _)=>match st.at k with
     |some (.arr _ _ e tid _)=>if T.elem t=some tid/\T.ty tid=some e then some (.at (.own k (off+l.toNat) (h.toNat-l.toNat))) else none
     |_=>none
    | .at (.data _ .str s)=>if T.ty t=some .str then some (.at (.data true .str (s.extract l.toNat h.toNat))) else none
    |_=>none
   else none
  |_,_=>none
def dS (t:TypeId) (x i:AV):Option AV:=
 match x,i with
 | .at (.data _ .str s), .at (.data _ (.int _) n)=>if T.ty t=some .str then (if 0<=n then s[n.toNat]?.map λb=> .at (.data true (.int .u8) b.toNat) else none) else none
 |_,_=>none
def Jq (Γ:Env) (st:St) (f:FuncId) (args:List AV):Option AV:=
 match Γ f with
 |some (.q s)=>
  if s.fresh||s.res.flat||args.all (·.settled) then
   match Bt st s.arg args with
   |none=>none
   |some (_,x)=>(s.fn x).map λy=>if s.Gh then .Us (s.fresh||s.res.flat) s.res y else .at (.data (s.fresh||s.res.flat) s.res y)
  else none
 |_=>none
def Ty.chain:Ty->Bool
 | .unit=>true
 | .pair a r=>!a.Ac&&r.chain
 |_=>false
def Uy (fr:Bool):(τ:Ty)->τ.den->List AV
 | .pair a r,x=> .at (.data fr a x.1)::Uy fr r x.2
 |_,_=> []
def Qm (Γ:Env) (st:St) (v:AV) (args:List AV):Option AV:=
 match v with
 | .at (.data fr (.clo f τ) x)=>if τ.chain then (if f<1000000000 then Jq Γ st f (args++Uy fr τ x) else Jq Γ st (f-1000000000) (Uy fr τ x++args)) else none
 | .at (.clo f Bz)=>Jq Γ st f (args++Bz.map λp=> .at (.Eb p.1 p.2))
 |_=>none
def fQ:List AV->Option (List (Nat×Nat))
 | []=>some []
 | .at (.Eb l i)::r=>(fQ r).map λc=>(l,i)::c
 |_=>none
def ah (st:St) (t:TypeId) (m k:AV) (ok:Bool):Option AV:=
 match T.mapOf t,k with
 |some v, .at (.data _ .str s)=>
  match Cu st (.smap v) m with
  |some (_,f)=>some (if ok then .Us true (.pair v (.pair .bool .unit)) (((f s).getD v.zero),(f s).isSome,()) else .at (.data true v ((f s).getD v.zero)))
  |none=>none
 |_,_=>none
def Yq (x:AV):Option Bool:=
 match x with
 | .at .Hs=>some true
 | .at (.data _ (.oslice _) x)=>some x.isNone
 |_=>none
def Yp (x:AV):Option Bool:=
 match x with
 | .at .Qv=>some true
 | .at (.Eb _ _)=>some false
 | .at (.data _ (.optr _) x)=>some x.isNone
 | .at (.data _ (.ptr _) _)=>some false
 |_=>none
def LG:Option Ty->Bool
 |some (.ptr _)=>true
 |some (.optr _)=>true
 |_=>false
def Xi (fr:Bool):(τ:Ty)->τ.den->Nat->Option AV
 | .pair a _,x,0=>some (.at (.data (fr||a.flat) a x.1))
 | .pair _ r,x,n+1=>Xi fr r x.2 n
 |_,_,_=>none
def Aah:Bool×List AC->Option AV
 |(true,cs)=>some (.agg cs)
 |(false,[a])=>some (.at a)
 |_=>none
def NT (l:List (Bool×List AC)) (i:Nat):Option AV:=(l[i]?).bind Aah
def sE (mx:Bool):List AV->Option AV
 | [.at (.data _ (.int k) a), .at (.data _ (.int k') b)]=>if k=k' then To k (if mx then (if b>a then b else a) else (if b<a then b else a)) else none
 |_=>none
def Na (op:BinOp) (t:TypeId) (x y:AV):Option AV:=
 match op,x,y with
 | .eql,x, .at .Hs=>if (T.elem t).isSome then (Yq x).bind Jy else none
 | .eql,x, .at .Qv=>if LG (T.ty t) then (Yp x).bind Jy else none
 | .neq,x, .at .Hs=>if (T.elem t).isSome then (Yq x).bind λb=>Jy (!b) else none
 | .neq,x, .at .Qv=>if LG (T.ty t) then (Yp x).bind λb=>Jy (!b) else none
 | .eql, .at (.data _ .bool a), .at (.data _ .bool b)=>if T.ty t=some .bool then Jy (a==b) else none
 | .neq, .at (.data _ .bool a), .at (.data _ .bool b)=>if T.ty t=some .bool then Jy (!(a==b)) else none
 |op,x,y=>evalBin op x y
def bytesOf (l:List Int):ByteArray:=⟨(l.map λn=>UInt8.ofNat n.toNat).toArray⟩
def ka:AV->AV
 | .at (.data fr (.oslice e) x)=> .at (.data fr (.slice e) (x.getD []))
 |v=>v
def Cn (Γ:Env) (st:St) (o:Oper):Option AV:=
 match o.op with
 | .move x=>some (st.ev x)
 | .assign x=>some (st.ev x)
 | .pick c a b=>Yr (st.ev c) (st.ev a) (st.ev b)
 | .load t a=>Kn T st t (st.ev a)
 | .nilCheck x=>match st.ev x with
  | .at (.data fr (.ptr τ) x)=>some (.at (.data fr (.ptr τ) x))
  | .at (.data fr (.optr τ) (some x))=>some (.at (.data fr (.ptr τ) x))
  | .at (.Eb l i)=>some (.at (.Eb l i))
  | .at (.Gf l i)=>some (.at (.Gf l i))
  |_=>none
 | .binOp op t x y _=>Na T op t (st.ev x) (st.ev y)
 | .unOp op _ x=>sG op (st.ev x)
 | .convert s t x=>match T.ty s,T.ty t,st.ev x with
  |some _,some (.int k), .at (.data _ (.int _) n)=>To k (k.wrap n)
  |some (.slice (.int .u8)),some .str,_=>(Cu st (.slice (.int .u8)) (st.ev x)).map λp=> .at (.data true .str (bytesOf p.2))
  |_,_,_=>none
 | .slice t x lo hi mx=>if mx.isSome then none else Ys T st t (st.ev x) (lo.map st.ev) (hi.map st.ev)
 | .fieldAddr s x f=>Iy T s (st.ev x) f
 | .field s x f=>jr T s (st.ev x) f
 | .indexAddr t x i=>Gi T st t (ka (st.ev x)) (st.ev i)
 | .index t x i=>dS T t (st.ev x) (st.ev i)
 | .extract x i=>match st.ev x with
  | .Us fr τ y=>Xi fr τ y i
  | .Jg l=>NT l i
  |_=>none
 | .call {callee:= .value (.func f),args, .. } =>Jq Γ st f (args.toList.map st.ev)
 | .call {callee:= .value (.tmp t),args, .. } =>Qm Γ st (st.get t) (args.toList.map st.ev)
 | .makeFunc (.func f) first Bz=>match first.toList.map st.ev with
  | []=>(fQ (Bz.toList.map st.ev)).map λc=> .at (.clo f c)
  | [.at (.data fr τ x)]=>if Bz.isEmpty&&!τ.Ac then some (.at (.data fr (.clo (f+1000000000) (.pair τ .unit)) (x,()))) else none
  |_=>none
 | .lookup t m k ok=>ah T st t (st.ev m) (st.ev k) ok
 | .call {callee:= .builtin .len,args,argTypes} =>match args.toList,argTypes.toList with
  | [x],[t]=>match T.ty t with
   |some (.slice _)=>(wG st (st.ev x)).bind (To .i64)
   |some (.oslice _)=>(wG st (ka (st.ev x))).bind (To .i64)
   |some .str=>(CZ (st.ev x)).bind (To .i64)
   |_=>none
  |_,_=>none
 | .call {callee:= .builtin .min,args, .. } =>sE false (args.toList.map st.ev)
 | .call {callee:= .builtin .max,args, .. } =>sE true (args.toList.map st.ev)
 |_=>none
def Qg (st:St) (t:Option Tmp):Option (Option Bool):=
 match t with
 |some t=>match st.get t with
  | .at (.data _ .bool b)=>some (some b)
  | .at .skip=>some none
  |_=>none
 |none=>none
end Go.Proofs.Ytjbdmibbbpdnnaa
