/-
  Part 2 of the proof that the statement FnStateClasses holds.
-/
import Derived.Test.YtkkdpknjohcekaaCFStateClasses00
namespace Go.Proofs.Ytkkdpknjohcekaa
open Go.RowKit
inductive AC where
 |undef
 |skip
 |Ln
 |Up
 |data (fr:Bool) (τ:Ty) (x:τ.den)
 |own (l off len:Nat)
 |Gp (l i:Nat)
 |Jm (l i:Nat)
 |clo (f:Nat) (Dz:List (Nat×Nat))
 |Jt (l:Nat)
 |sub (l i c:Nat)
 |Jj (l i j:Nat)
inductive AV where
 |at (a:AC)
 |agg (cs:List AC)
 |ay (fr:Bool) (τ:Ty) (x:τ.den)
 |Mh (l:List (Bool×List AC))
@[reducible] def AV.undef:AV:= .at .undef
inductive OB where
 |arr (fr tr:Bool) (e:Ty) (tid:TypeId) (xs:List e.den)
 |Gg (e:Ty) (tid:TypeId) (xs:List e.den)
 |var (tid:TypeId) (vs:List AC)
 |Bo (e:Ty) (te:TypeId) (rows:List (List e.den)) (out:Option Nat) (kp:Option (Nat×Nat))
 |Ur (v:Ty) (m:ByteArray->Option v.den)
structure St where
 tmps:List AV
 heap:List (Nat×OB)
def At:List (Nat×OB)->Nat->Option OB
 | [],_=>none
 |(k,b)::r,l=>if k=l then some b else At r l
def St.get (st:St) (t:Nat):AV:=st.tmps.getD t .undef
def St.at (st:St) (l:Nat):Option OB:=At st.heap l
def Rx {α:Type} :List α->Nat->α->List α
 | [],_,_=> []
 |_::r,0,y=>y::r
 |x::r,n+1,y=>x::Rx r n y
def St.put (st:St) (dst:Option Tmp) (v:AV):St:=
 match dst with
 |some d=> {st with tmps:=Rx st.tmps d v}
 |none=>st
def AV.map (f:AC->AC):AV->AV
 | .at a=> .at (f a)
 | .agg cs=> .agg (cs.map f)
 | .ay fr τ x=> .ay fr τ x
 | .Mh l=> .Mh (l.map λp=>(p.1,p.2.map f))
def OB.map (f:AC->AC):OB->OB
 | .arr fr tr e t xs=> .arr fr tr e t xs
 | .Gg e t xs=> .Gg e t xs
 | .var t vs=> .var t (vs.map f)
 | .Bo e te rows out kp=> .Bo e te rows out kp
 | .Ur v m=> .Ur v m
def Zk:List (Nat×OB)->Nat->List (Nat×OB)
 | [],_=> []
 |(k,b)::r,l=>if k=l then Zk r l else (k,b)::Zk r l
def St.Km (st:St) (f:AC->AC):St:= {tmps:=st.tmps.map (·.map f),heap:=st.heap.map λp=>(p.1,p.2.map f)}
def Cl (l:Nat):AC->AC
 | .own k off len=>if k=l then .undef else .own k off len
 | .Gp k i=>if k=l then .undef else .Gp k i
 | .Jm k i=>if k=l then .undef else .Jm k i
 | .clo f Dz=>if (Dz.map (·.1)).contains l then .undef else .clo f Dz
 | .Jt k=>if k=l then .undef else .Jt k
 | .sub k i c=>if k=l then .undef else .sub k i c
 | .Jj k i c=>if k=l then .undef else .Jj k i c
 |a=>a
def St.forget (st:St) (l:Nat):St:=let s:=st.Km (Cl l); {s with heap:=Zk s.heap l}
def Cu (l:Nat) (fr:Bool) (e:Ty) (xs:List e.den):AC->AC
 | .own k off len=>if k=l then .data fr (.slice e) ((xs.drop off).take len) else .own k off len
 | .Jm k i=>if k=l then .undef else .Jm k i
 | .Gp k i=>if k=l then .undef else .Gp k i
 | .clo f Dz=>if (Dz.map (·.1)).contains l then .undef else .clo f Dz
 | .Jt k=>if k=l then .undef else .Jt k
 | .sub k i c=>if k=l then .undef else .sub k i c
 | .Jj k i c=>if k=l then .undef else .Jj k i c
 |a=>a
def St.freeze (st:St) (l:Nat) (fr:Bool) (e:Ty) (xs:List e.den):St:=let s:=st.Km (Cu l fr e xs); {s with heap:=Zk s.heap l}
def Gj (l:Nat) (v:Ty) (m:ByteArray->Option v.den):AC->AC
 | .Jt k=>if k=l then .data false (.smap v) m else .Jt k
 | .own k off len=>if k=l then .undef else .own k off len
 | .Jm k i=>if k=l then .undef else .Jm k i
 | .Gp k i=>if k=l then .undef else .Gp k i
 | .clo f Dz=>if (Dz.map (·.1)).contains l then .undef else .clo f Dz
 | .sub k i c=>if k=l then .undef else .sub k i c
 | .Jj k i c=>if k=l then .undef else .Jj k i c
 |a=>a
def St.Ie (st:St) (l:Nat) (v:Ty) (m:ByteArray->Option v.den):St:=let s:=st.Km (Gj l v m); {s with heap:=Zk s.heap l}
def Nz:List (Nat×OB)->Nat->OB->List (Nat×OB)
 | [],l,b=> [(l,b)]
 |(k,c)::r,l,b=>if l<k then (l,b)::(k,c)::r else (k,c)::Nz r l b
def St.new (st:St) (l:Nat) (b:OB):St:=let s:=st.forget l; {s with heap:=Nz s.heap l b}
def Ze:List (Nat×OB)->Nat->OB->List (Nat×OB)
 | [],_,_=> []
 |(k,b)::r,l,b'=>if k=l then (k,b')::r else (k,b)::Ze r l b'
def St.Ji (st:St) (l:Nat) (b:OB):St:= {st with heap:=Ze st.heap l b}
structure Tab where
 ty:TypeId->Option Ty
 elem:TypeId->Option TypeId
 mapOf:TypeId->Option Ty
 off:TypeId->Nat->Option (Nat×TypeId)
 sS:Bool:=true
 z8:Bool:=false
 marks:List Nat:= []
 parts:List Nat:= []
 Aal:List TypeId:= []
def Ty.zero:(τ:Ty)->τ.den
 | .int _=>(0:Int)
 | .bool=>false
 | .str=>(ByteArray.empty)
 | .slice _=> []
 | .oslice _=>none
 | .ptr a=>a.zero
 | .optr _=>none
 | .smap _=> λ_=>none
 | .clo _ c=>c.zero
 | .unit=>()
 | .pair a r=>(a.zero,r.zero)
def Ro (fr:Bool):(τ:Ty)->τ.den->List AC
 | .unit,_=> []
 | .pair a r,x=>Ro fr a x.1++Ro fr r x.2
 |τ,x=> [.data fr τ x]
def gg (fr:Bool):(τ Nx:Ty)->Nx.den->Option (Bool×τ.den)
 | .slice e, .oslice e',x=>if h:e'=e then some (fr,((h▸x:Option (List e.den)).getD [])) else none
 | .optr a, .ptr a',x=>if h:a'=a then some (fr,some (h▸x:a.den)) else none
 |_,_,_=>none
def Dk (st:St):(τ:Ty)->AC->Option (Bool×τ.den)
 |τ, .data fr Nx x=>if h:Nx=τ then some (fr||τ.flat,h▸x) else gg fr τ Nx x
 | .slice _, .Ln=>some (true,[])
 | .oslice _, .Ln=>some (true,none)
 | .optr _, .Up=>some (true,none)
 | .slice e, .own l off len=>match st.at l with
  |some (.arr fr _ e' _ xs)=>if h:e'=e then some (fr,((h▸xs:List e.den).drop off).take len) else none
  |some (.Gg e' _ xs)=>if h:e'=e then some (true,((h▸xs:List e.den).drop off).take len) else none
  |some (.Bo e' _ rows none _)=>if h: .slice e'=e then some (false,((h▸(rows:List (Ty.slice e').den):List e.den).drop off).take len) else none
  |_=>none
 | .slice e, .sub l i _=>match st.at l with
  |some (.Bo e' _ rows none _)=>if h:e'=e then some (false,(h▸(rows.getD i []:List e'.den):List e.den)) else none
  |_=>none
 | .smap v, .Jt l=>match st.at l with
  |some (.Ur v' m)=>if h:v'=v then some (true,h▸m) else none
  |_=>none
 |_,_=>none
def Et (st:St):(τ:Ty)->List AC->Option (Bool×τ.den)
 | .unit,[]=>some (true,())
 | .unit,_::_=>none
 | .pair a r,cs=>
  match Et st a (cs.take a.size),Et st r (cs.drop a.size) with
  |some (f1,x),some (f2,y)=>some (f1&&f2,(x,y))
  |_,_=>none
 |τ,[c]=>Dk st τ c
 |_,_=>none
def Tm (st:St) (a:Ty) (l i:Nat):Option (Bool×a.den):=
 match st.at l with
 |some (.var _ vs)=>Et st a ((vs.drop i).take a.size)
 |_=>none
def Kq (st:St):(τ:Ty)->List (Nat×Nat)->Option (Bool×τ.den)
 | .unit,[]=>some (true,())
 | .pair (.ptr a) r,(l,i)::cs=>
  match Tm st a l i,Kq st r cs with
  |some (f1,x),some (f2,y)=>some (f1&&f2,(x,y))
  |_,_=>none
 |_,_=>none
def Jg (st:St):(τ:Ty)->AC->Option (Bool×τ.den)
 | .ptr a, .Gp l i=>Tm st a l i
 | .optr a, .Gp l i=>(Tm st a l i).map λp=>(p.1,some p.2)
 | .clo f τ, .clo g Dz=>if g=f/\f<1000000000 then Kq st τ Dz else none
 |τ,c=>Dk st τ c
def Ff (st:St) (τ:Ty):AV->Option (Bool×τ.den)
 | .at (.data fr Nx x)=>if h:Nx=τ then some (fr||τ.flat,h▸x) else if τ.Ap then none else Jg st τ (.data fr Nx x)
 | .at a=>if τ.Ap then none else Jg st τ a
 | .agg cs=>if τ.Ap then Et st τ cs else none
 |_=>none
def Dq (st:St):(τ:Ty)->List AV->Option (Bool×τ.den)
 | .unit,[]=>some (true,())
 | .pair a r,v::vs=>
  match Ff st a v,Dq st r vs with
  |some (f1,x),some (f2,y)=>some (f1&&f2,(x,y))
  |_,_=>none
 |_,_=>none
def AC.settled:AC->Bool
 | .data _ _ _| .Ln| .Up=>true
 |_=>false
def AV.settled:AV->Bool
 | .at a=>a.settled
 | .agg cs=>cs.all (·.settled)
 | .ay _ _ _=>true
 | .Mh _=>false
inductive CK where
 |Hx (τ:Ty)
 |row (e:Ty) (te:TypeId)
 |Gz (e:Ty) (te:TypeId)
 |part (e:Ty) (te:TypeId)
 |Bo (e:Ty) (te:TypeId) (kp:Bool)
@[reducible] def CK.den:CK->Type
 | .Hx τ=>τ.den
 | .row e _=>List e.den
 | .Gz e _=>List e.den
 | .part e _=>List e.den×Nat×Nat
 | .Bo e _ _=>List (List e.den)
def CK.flat:CK->Bool
 | .Hx τ=>τ.flat
 | .row e _=>e.flat
 | .Gz _ _=>true
 | .part e _=>e.flat
 | .Bo _ _ _=>false
def CK.isX:CK->Bool
 | .Gz _ _=>true
 |_=>false
@[reducible] def CKs.den:List CK->Type
 | []=>Unit
 |c::r=>c.den×CKs.den r
@[reducible] def IOs.den:List (Bool×CK)->Type
 | []=>Unit
 |(true, .Hx _)::r=>IOs.den r
 |(true, .row e _)::r=>List e.den×IOs.den r
 |(true, .Gz e _)::r=>List e.den×IOs.den r
 |(true, .part e _)::r=>List e.den×IOs.den r
 |(true, .Bo _ _ _)::r=>IOs.den r
 |(false,_)::r=>IOs.den r
@[reducible] def Ins.den:List (Bool×CK)->Type
 | []=>Unit
 |p::r=>p.2.den×Ins.den r
structure MSpec where
 ptr:Option (TypeId×Nat):=none
 Ih:List (Option Nat)
 ins:List (Bool×CK)
 Gh:Bool
 Hb:List (Option Nat)
 outs:List CK
 fn:Ins.den ins->Option (CKs.den outs×IOs.den ins)
 keeps:List (Nat×Nat):= []
 Fb:Ins.den ins->Nat:= λ_=>0
 rp:Option TypeId:=none
structure Spec where
 arg:Ty
 res:Ty
 Gh:Bool
 fresh:Bool
 fn:arg.den->Option res.den
inductive fJ where
 |q (s:Spec)
 |m (s:MSpec)
 |b (s:Spec) (m:MSpec)
def MSpec.flat (s:MSpec):Bool:=s.outs.all (·.flat)&&s.ins.all λp=>!p.1||p.2.flat
def MSpec.UE (s:MSpec):Bool:=s.flat||s.outs.all λc=>!c.isX
abbrev Env:=FuncId->Option fJ
def ll:Value->AV
 | .int k n=> .at (.data true (.int k) n)
 | .bool b=> .at (.data true .bool b)
 | .string s=> .at (.data true .str s)
 | .slice none 0 0=> .at .Ln
 | .pointer none=> .at .Up
 |_=> .undef
def St.ev (st:St):Operand->AV
 | .tmp t=>st.get t
 | .const v=>ll v
 | .func f=> .at (.clo f [])
 |_=> .undef
def idx {α:Type} (xs:List α) (i:Int):Option α:=if 0<=i then xs[i.toNat]? else none
def inb (n:Int) (len:Nat):Bool:=decide (0<=n)&&decide (n<len)
theorem Tf {n:Int} {len:Nat} :inb n len=true↔0<=n/\n<len:=by simp [inb]
def Zs (k:IntKind) (n:Int):Option AV:=some (.at (.data true (.int k) n))
def Ow (b:Bool):Option AV:=some (.at (.data true .bool b))
def r9 (op:BinOp) (k:IntKind) (a b:Int):Option AV:=
 match op with
 | .add=>Zs k (k.wrap (a+b))
 | .sub=>Zs k (k.wrap (a-b))
 | .mul=>Zs k (k.wrap (a*b))
 | .quo=>if b=0 then none else Zs k (k.wrap (a.tdiv b))
 | .rem=>if b=0 then none else Zs k (a.tmod b)
 | .and=>Zs k (k.wrap (BitVec.ofInt k.bits a&&&BitVec.ofInt k.bits b).toNat)
 | .or=>Zs k (k.wrap (BitVec.ofInt k.bits a|||BitVec.ofInt k.bits b).toNat)
 | .eql=>Ow (a==b)
 | .neq=>Ow (a !=b)
 | .lss=>Ow (decide (a<b))
 | .leq=>Ow (decide (a<=b))
 | .gtr=>Ow (decide (a>b))
 | .geq=>Ow (decide (a>=b))
 |_=>none
def evalBin (op:BinOp) (x y:AV):Option AV:=
 match x,y with
 | .at (.data _ (.int k) a), .at (.data _ (.int k') b)=>
  match op with
  | .shl=>if b<0 then none else Zs k (k.wrap (a*2^(min b.toNat k.bits)))
  | .shr=>if b<0 then none else Zs k (a.fdiv (2^(min b.toNat k.bits)))
  |_=>if k=k' then r9 op k a b else none
 | .at (.data _ .str a), .at (.data _ .str b)=>
  match op with
  | .eql=>Ow (a.toList==b.toList)
  | .neq=>Ow (!(a.toList==b.toList))
  | .add=>if a.size+b.size<=4294967296 then some (.at (.data true .str (a++b))) else none
  |_=>none
 |_,_=>none
def wO (op:UnOp) (x:AV):Option AV:=
 match op,x with
 | .not, .at (.data _ .bool b)=>Ow (!b)
 | .neg, .at (.data _ (.int k) n)=>Zs k (k.wrap (0-n))
 |_,_=>none
def cL (c x y:AV):Option AV:=
 match c with
 | .at (.data _ .bool b)=>some (if b then x else y)
 |_=>none
def AP:AV->Option Int
 | .at .Ln=>some 0
 | .at (.data _ (.slice _) xs)=>some xs.length
 | .at (.data _ .str s)=>some s.size
 | .at (.own _ _ len)=>some (len:Int)
 |_=>none
def TY:AV->Option Int
 | .at .Ln=>some 0
 | .at (.data _ (.slice _) xs)=>some xs.length
 | .at (.own _ _ len)=>some (len:Int)
 |_=>none
def AR (st:St):AV->Option Int
 | .at (.sub l i _)=>match st.at l with
  |some (.Bo _ _ rows none _)=>some (rows.getD i []).length
  |_=>none
 |v=>TY v
def LH:AV->Option Int
 | .at (.data _ .str s)=>some s.size
 |_=>none
def Kt:(τ:Ty)->τ.den->Nat->(ρ:Ty)->Option ρ.den
 | .pair a r,x,o,ρ=>if o=0 then (if h:a=ρ then some (h▸x.1) else none) else if o<a.size then none else Kt r x.2 (o-a.size) ρ
 |_,_,_,_=>none
def eC (l i:Nat):(c:Nat)->(τ:Ty)->τ.den->List AC
 |_, .unit,_=> []
 |c, .pair a r,x=>eC l i c a x.1++eC l i (c+a.size) r x.2
 |c,τ,x=> [if τ.flat then .data true τ x else .sub l i c]
variable (T:Tab)
def Pq (st:St) (t:TypeId) (p:AV):Option AV:=
 match T.ty t,p with
 |some τ, .at (.data fr (.ptr Nx) x)=>if Nx=τ then some (.at (.data (fr||Nx.flat) Nx x)) else none
 |some τ, .at (.data fr (.optr Nx) (some x))=>if Nx=τ then some (.at (.data (fr||Nx.flat) Nx x)) else none
 |some τ, .at (.Gp l i)=>match st.at l with
  |some (.var _ vs)=>if τ.Ap then (if i+τ.size<=vs.length then some (.agg ((vs.drop i).take τ.size)) else none) else vs[i]?.map .at
  |_=>none
 |some τ, .at (.Jm l i)=>match st.at l with
  |some (.arr fr _ e _ xs)=>if e=τ then xs[i]?.map λx=> .at (.data (fr||e.flat) e x) else none
  |some (.Gg e _ xs)=>if e=τ then xs[i]?.map λx=>if e.Ap then .agg (eC l i 0 e x) else .at ((eC l i 0 e x).headD .undef) else none
  |some (.Bo _ _ _ none _)=>if τ.Ap then none else some (.at (.sub l i 0))
  |_=>none
 |some τ, .at (.Jj l i j)=>match st.at l with
  |some (.Bo e _ rows none _)=>if e=τ then some (.at (.data e.flat e ((rows.getD i []).getD j e.zero))) else none
  |_=>none
 |_,_=>none
def Kc (st:St) (t:TypeId) (x i:AV):Option AV:=
 match x,i with
 | .at (.data fr (.slice e) xs), .at (.data _ (.int _) n)=>if (T.elem t).bind T.ty=some e then (idx xs n).map λx=> .at (.data fr (.ptr e) x) else none
 | .at (.own l off len), .at (.data _ (.int _) n)=>match st.at l with
  |some (.arr _ _ e tid _)=>if T.elem t=some tid/\T.ty tid=some e/\inb n len=true then some (.at (.Jm l (off+n.toNat))) else none
  |some (.Gg e tid _)=>if T.elem t=some tid/\T.ty tid=some e/\inb n len=true then some (.at (.Jm l (off+n.toNat))) else none
  |some (.Bo _ te _ _ _)=>if T.elem t=some te/\(T.ty te).map Ty.size=some 1/\inb n len=true then some (.at (.Jm l (off+n.toNat))) else none
  |_=>none
 | .at (.sub l i _), .at (.data _ (.int _) n)=>match st.at l with
  |some (.Bo e _ rows none _)=>if ((T.elem t).bind T.ty).map Ty.size=some e.size/\inb n (rows.getD i []).length=true then some (.at (.Jj l i n.toNat)) else none
  |_=>none
 |_,_=>none
def Nr (s:TypeId) (x:AV) (f:Nat):Option AV:=
 match T.off s f,x with
 |some (o,_), .at (.Gp l i)=>some (.at (.Gp l (i+o)))
 |some (o,t), .at (.data fr (.ptr τ) x)=>if T.ty s=some τ then (T.ty t).bind λρ=>(Kt τ x o ρ).map λy=> .at (.data fr (.ptr ρ) y) else none
 |some (o,t), .at (.data fr (.optr τ) (some x))=>if T.ty s=some τ then (T.ty t).bind λρ=>(Kt τ x o ρ).map λy=> .at (.data fr (.ptr ρ) y) else none
 |_,_=>none
def mU (s:TypeId) (x:AV) (f:Nat):Option AV:=
 match T.off s f,x with
 |some (o,t), .agg cs=>(T.ty t).bind λρ=>if ρ.Ap then none else cs[o]?.map .at
 |some (o,t), .at (.data fr τ x)=>if T.ty s=some τ then (T.ty t).bind λρ=>(Kt τ x o ρ).map λy=> .at (.data fr ρ y) else none
 |_,_=>none
def QS (v:Option AV) (d:Int):Option Int:=
 match v with
 |none=>some d
 |some (.at (.data _ (.int _) n))=>some n
 |_=>none
def cM (st:St) (t:TypeId) (x:AV) (lo hi:Option AV):Option AV:=
 match AP x with
 |none=>none
 |some n=>
  match QS lo 0,QS hi n with
  |some l,some h=>
   if 0<=l/\l<=h/\h<=n then
    match x with
    | .at (.data fr (.slice e) xs)=>if (T.elem t).bind T.ty=some e then some (.at (.data fr (.slice e) ((xs.take h.toNat).drop l.toNat))) else none
    | .at (.own k off _)=>match st.at k with
     |some (.arr _ _ e tid _)=>if T.elem t=some tid/\T.ty tid=some e then some (.at (.own k (off+l.toNat) (h.toNat-l.toNat))) else none
     |_=>none
    | .at (.data _ .str s)=>if T.ty t=some .str then some (.at (.data true .str (s.extract l.toNat h.toNat))) else none
    |_=>none
   else none
  |_,_=>none
def iE (t:TypeId) (x i:AV):Option AV:=
 match x,i with
 | .at (.data _ .str s), .at (.data _ (.int _) n)=>if T.ty t=some .str then (if 0<=n then s[n.toNat]?.map λb=> .at (.data true (.int .u8) b.toNat) else none) else none
 |_,_=>none
def Of (Γ:Env) (st:St) (f:FuncId) (args:List AV):Option AV:=
 match Γ f with
 |some (.q s)=>
  if s.fresh||s.res.flat||args.all (·.settled) then
   match Dq st s.arg args with
   |none=>none
   |some (_,x)=>(s.fn x).map λy=>if s.Gh then .ay (s.fresh||s.res.flat) s.res y else .at (.data (s.fresh||s.res.flat) s.res y)
  else none
 |_=>none
def Ty.chain:Ty->Bool
 | .unit=>true
 | .pair a r=>!a.Ap&&r.chain
 |_=>false
def aH (fr:Bool):(τ:Ty)->τ.den->List AV
 | .pair a r,x=> .at (.data fr a x.1)::aH fr r x.2
 |_,_=> []
def Ws (Γ:Env) (st:St) (v:AV) (args:List AV):Option AV:=
 match v with
 | .at (.data fr (.clo f τ) x)=>if τ.chain then (if f<1000000000 then Of Γ st f (args++aH fr τ x) else Of Γ st (f-1000000000) (aH fr τ x++args)) else none
 | .at (.clo f Dz)=>Of Γ st f (args++Dz.map λp=> .at (.Gp p.1 p.2))
 |_=>none
def kq:List AV->Option (List (Nat×Nat))
 | []=>some []
 | .at (.Gp l i)::r=>(kq r).map λc=>(l,i)::c
 |_=>none
def dJ (st:St) (t:TypeId) (m k:AV) (ok:Bool):Option AV:=
 match T.mapOf t,k with
 |some v, .at (.data _ .str s)=>
  match Ff st (.smap v) m with
  |some (_,f)=>some (if ok then .ay true (.pair v (.pair .bool .unit)) (((f s).getD v.zero),(f s).isSome,()) else .at (.data true v ((f s).getD v.zero)))
  |none=>none
 |_,_=>none
def cK (x:AV):Option Bool:=
 match x with
 | .at .Ln=>some true
 | .at (.data _ (.oslice _) x)=>some x.isNone
 |_=>none
def cJ (x:AV):Option Bool:=
 match x with
 | .at .Up=>some true
 | .at (.Gp _ _)=>some false
 | .at (.data _ (.optr _) x)=>some x.isNone
 | .at (.data _ (.ptr _) _)=>some false
 |_=>none
def TU:Option Ty->Bool
 |some (.ptr _)=>true
 |some (.optr _)=>true
 |_=>false
def bZ (fr:Bool):(τ:Ty)->τ.den->Nat->Option AV
 | .pair a _,x,0=>some (.at (.data (fr||a.flat) a x.1))
 | .pair _ r,x,n+1=>bZ fr r x.2 n
 |_,_,_=>none
def Aft:Bool×List AC->Option AV
 |(true,cs)=>some (.agg cs)
 |(false,[a])=>some (.at a)
 |_=>none
def WI (l:List (Bool×List AC)) (i:Nat):Option AV:=(l[i]?).bind Aft
def wM (mx:Bool):List AV->Option AV
 | [.at (.data _ (.int k) a), .at (.data _ (.int k') b)]=>if k=k' then Zs k (if mx then (if b>a then b else a) else (if b<a then b else a)) else none
 |_=>none
def Sy (op:BinOp) (t:TypeId) (x y:AV):Option AV:=
 match op,x,y with
 | .eql,x, .at .Ln=>if (T.elem t).isSome then (cK x).bind Ow else none
 | .eql,x, .at .Up=>if TU (T.ty t) then (cJ x).bind Ow else none
 | .neq,x, .at .Ln=>if (T.elem t).isSome then (cK x).bind λb=>Ow (!b) else none
 | .neq,x, .at .Up=>if TU (T.ty t) then (cJ x).bind λb=>Ow (!b) else none
 | .eql, .at (.data _ .bool a), .at (.data _ .bool b)=>if T.ty t=some .bool then Ow (a==b) else none
 | .neq, .at (.data _ .bool a), .at (.data _ .bool b)=>if T.ty t=some .bool then Ow (!(a==b)) else none
 |op,x,y=>evalBin op x y
def bytesOf (l:List Int):ByteArray:=⟨(l.map λn=>UInt8.ofNat n.toNat).toArray⟩
def nD:AV->AV
 | .at (.data fr (.oslice e) x)=> .at (.data fr (.slice e) (x.getD []))
 |v=>v
def Eu (Γ:Env) (st:St) (o:Oper):Option AV:=
 match o.op with
 | .move x=>some (st.ev x)
 | .assign x=>some (st.ev x)
 | .pick c a b=>cL (st.ev c) (st.ev a) (st.ev b)
 | .load t a=>Pq T st t (st.ev a)
 | .nilCheck x=>match st.ev x with
  | .at (.data fr (.ptr τ) x)=>some (.at (.data fr (.ptr τ) x))
  | .at (.data fr (.optr τ) (some x))=>some (.at (.data fr (.ptr τ) x))
  | .at (.Gp l i)=>some (.at (.Gp l i))
  | .at (.Jm l i)=>some (.at (.Jm l i))
  |_=>none
 | .binOp op t x y _=>Sy T op t (st.ev x) (st.ev y)
 | .unOp op _ x=>wO op (st.ev x)
 | .convert s t x=>match T.ty s,T.ty t,st.ev x with
  |some _,some (.int k), .at (.data _ (.int _) n)=>Zs k (k.wrap n)
  |some (.slice (.int .u8)),some .str,_=>(Ff st (.slice (.int .u8)) (st.ev x)).map λp=> .at (.data true .str (bytesOf p.2))
  |_,_,_=>none
 | .slice t x lo hi mx=>if mx.isSome then none else cM T st t (st.ev x) (lo.map st.ev) (hi.map st.ev)
 | .fieldAddr s x f=>Nr T s (st.ev x) f
 | .field s x f=>mU T s (st.ev x) f
 | .indexAddr t x i=>Kc T st t (nD (st.ev x)) (st.ev i)
 | .index t x i=>iE T t (st.ev x) (st.ev i)
 | .extract x i=>match st.ev x with
  | .ay fr τ y=>bZ fr τ y i
  | .Mh l=>WI l i
  |_=>none
 | .call {callee:= .value (.func f),args, .. } =>Of Γ st f (args.toList.map st.ev)
 | .call {callee:= .value (.tmp t),args, .. } =>Ws Γ st (st.get t) (args.toList.map st.ev)
 | .makeFunc (.func f) first Dz=>match first.toList.map st.ev with
  | []=>(kq (Dz.toList.map st.ev)).map λc=> .at (.clo f c)
  | [.at (.data fr τ x)]=>if Dz.isEmpty&&!τ.Ap then some (.at (.data fr (.clo (f+1000000000) (.pair τ .unit)) (x,()))) else none
  |_=>none
 | .lookup t m k ok=>dJ T st t (st.ev m) (st.ev k) ok
 | .call {callee:= .builtin .len,args,argTypes} =>match args.toList,argTypes.toList with
  | [x],[t]=>match T.ty t with
   |some (.slice _)=>(AR st (st.ev x)).bind (Zs .i64)
   |some (.oslice _)=>(AR st (nD (st.ev x))).bind (Zs .i64)
   |some .str=>(LH (st.ev x)).bind (Zs .i64)
   |_=>none
  |_,_=>none
 | .call {callee:= .builtin .min,args, .. } =>wM false (args.toList.map st.ev)
 | .call {callee:= .builtin .max,args, .. } =>wM true (args.toList.map st.ev)
 |_=>none
def Wk (st:St) (t:Option Tmp):Option (Option Bool):=
 match t with
 |some t=>match st.get t with
  | .at (.data _ .bool b)=>some (some b)
  | .at .skip=>some none
  |_=>none
 |none=>none
end Go.Proofs.Ytkkdpknjohcekaa
