/-
  Part 2 of the proof that the statement FnExactIsMethodSolution holds.
-/
import Derived.Test.YtebabhocakedaaaCIsMethodSolution00
namespace Go.Proofs.Ytebabhocakedaaa
open Go.RowKit
inductive AC where
 |undef
 |skip
 |nilv
 |nilp
 |data (fr:Bool) (τ:Ty) (x:τ.den)
 |own (l off len:Nat)
 |vptr (l i:Nat)
 |eptr (l i:Nat)
 |clo (f:Nat) (caps:List (Nat×Nat))
 |mapr (l:Nat)
 |sub (l i c:Nat)
 |sptr (l i j:Nat)
inductive AV where
 |at (a:AC)
 |agg (cs:List AC)
 |tup (fr:Bool) (τ:Ty) (x:τ.den)
 |tupc (l:List (Bool×List AC))
@[reducible] def AV.undef:AV:= .at .undef
inductive OB where
 |arr (fr tr:Bool) (e:Ty) (tid:TypeId) (xs:List e.den)
 |xarr (e:Ty) (tid:TypeId) (xs:List e.den)
 |var (tid:TypeId) (vs:List AC)
 |grid (e:Ty) (te:TypeId) (rows:List (List e.den)) (out:Option Nat) (kp:Option (Nat×Nat))
 |smp (v:Ty) (m:ByteArray→Option v.den)
structure St where
 tmps:List AV
 heap:List (Nat×OB)
def Ac:List (Nat×OB)→Nat→Option OB
 | [],_=>none
 |(k,b)::r,l=>if k=l then some b else Ac r l
def St.get (st:St) (t:Nat):AV:=st.tmps.getD t .undef
def St.at (st:St) (l:Nat):Option OB:=Ac st.heap l
def Ln {α:Type} :List α→Nat→α→List α
 | [],_,_=> []
 |_::r,0,y=>y::r
 |x::r,n+1,y=>x::Ln r n y
def St.put (st:St) (dst:Option Tmp) (v:AV):St:=
 match dst with
 |some d=> {st with tmps:=Ln st.tmps d v}
 |none=>st
def AV.map (f:AC→AC):AV→AV
 | .at a=> .at (f a)
 | .agg cs=> .agg (cs.map f)
 | .tup fr τ x=> .tup fr τ x
 | .tupc l=> .tupc (l.map fun p=>(p.1,p.2.map f))
def OB.map (f:AC→AC):OB→OB
 | .arr fr tr e t xs=> .arr fr tr e t xs
 | .xarr e t xs=> .xarr e t xs
 | .var t vs=> .var t (vs.map f)
 | .grid e te rows out kp=> .grid e te rows out kp
 | .smp v m=> .smp v m
def Pn:List (Nat×OB)→Nat→List (Nat×OB)
 | [],_=> []
 |(k,b)::r,l=>if k=l then Pn r l else (k,b)::Pn r l
def St.Fc (st:St) (f:AC→AC):St:= {tmps:=st.tmps.map (·.map f),heap:=st.heap.map fun p=>(p.1,p.2.map f)}
def Aw (l:Nat):AC→AC
 | .own k off len=>if k=l then .undef else .own k off len
 | .vptr k i=>if k=l then .undef else .vptr k i
 | .eptr k i=>if k=l then .undef else .eptr k i
 | .clo f caps=>if (caps.map (·.1)).contains l then .undef else .clo f caps
 | .mapr k=>if k=l then .undef else .mapr k
 | .sub k i c=>if k=l then .undef else .sub k i c
 | .sptr k i c=>if k=l then .undef else .sptr k i c
 |a=>a
def St.forget (st:St) (l:Nat):St:=let s:=st.Fc (Aw l); {s with heap:=Pn s.heap l}
def Ax (l:Nat) (fr:Bool) (e:Ty) (xs:List e.den):AC→AC
 | .own k off len=>if k=l then .data fr (.slice e) ((xs.drop off).take len) else .own k off len
 | .eptr k i=>if k=l then .undef else .eptr k i
 | .vptr k i=>if k=l then .undef else .vptr k i
 | .clo f caps=>if (caps.map (·.1)).contains l then .undef else .clo f caps
 | .mapr k=>if k=l then .undef else .mapr k
 | .sub k i c=>if k=l then .undef else .sub k i c
 | .sptr k i c=>if k=l then .undef else .sptr k i c
 |a=>a
def St.freeze (st:St) (l:Nat) (fr:Bool) (e:Ty) (xs:List e.den):St:=let s:=st.Fc (Ax l fr e xs); {s with heap:=Pn s.heap l}
def Cs (l:Nat) (v:Ty) (m:ByteArray→Option v.den):AC→AC
 | .mapr k=>if k=l then .data false (.smap v) m else .mapr k
 | .own k off len=>if k=l then .undef else .own k off len
 | .eptr k i=>if k=l then .undef else .eptr k i
 | .vptr k i=>if k=l then .undef else .vptr k i
 | .clo f caps=>if (caps.map (·.1)).contains l then .undef else .clo f caps
 | .sub k i c=>if k=l then .undef else .sub k i c
 | .sptr k i c=>if k=l then .undef else .sptr k i c
 |a=>a
def St.Dt (st:St) (l:Nat) (v:Ty) (m:ByteArray→Option v.den):St:=let s:=st.Fc (Cs l v m); {s with heap:=Pn s.heap l}
def Hr:List (Nat×OB)→Nat→OB→List (Nat×OB)
 | [],l,b=> [(l,b)]
 |(k,c)::r,l,b=>if l<k then (l,b)::(k,c)::r else (k,c)::Hr r l b
def St.new (st:St) (l:Nat) (b:OB):St:=let s:=st.forget l; {s with heap:=Hr s.heap l b}
def Tj:List (Nat×OB)→Nat→OB→List (Nat×OB)
 | [],_,_=> []
 |(k,b)::r,l,b'=>if k=l then (k,b')::r else (k,b)::Tj r l b'
def St.Ew (st:St) (l:Nat) (b:OB):St:= {st with heap:=Tj st.heap l b}
structure Tab where
 ty:TypeId→Option Ty
 elem:TypeId→Option TypeId
 mapOf:TypeId→Option Ty
 off:TypeId→Nat→Option (Nat×TypeId)
 fr0:Bool:=true
 tr0:Bool:=false
 marks:List Nat:= []
 parts:List Nat:= []
 grids:List TypeId:= []
def Ty.zero:(τ:Ty)→τ.den
 | .int _=>(0:Int)
 | .bool=>false
 | .str=>(ByteArray.empty)
 | .slice _=> []
 | .oslice _=>none
 | .ptr a=>a.zero
 | .optr _=>none
 | .smap _=>fun _=>none
 | .clo _ c=>c.zero
 | .unit=>()
 | .pair a r=>(a.zero,r.zero)
def Ny (fr:Bool):(τ:Ty)→τ.den→List AC
 | .unit,_=> []
 | .pair a r,x=>Ny fr a x.1++Ny fr r x.2
 |τ,x=> [.data fr τ x]
def Yh (fr:Bool):(τ τ':Ty)→τ'.den→Option (Bool×τ.den)
 | .slice e, .oslice e',x=>if h:e'=e then some (fr,((h▸x:Option (List e.den)).getD [])) else none
 | .optr a, .ptr a',x=>if h:a'=a then some (fr,some (h▸x:a.den)) else none
 |_,_,_=>none
def Bj (st:St):(τ:Ty)→AC→Option (Bool×τ.den)
 |τ, .data fr τ' x=>if h:τ'=τ then some (fr||τ.flat,h▸x) else Yh fr τ τ' x
 | .slice _, .nilv=>some (true,[])
 | .oslice _, .nilv=>some (true,none)
 | .optr _, .nilp=>some (true,none)
 | .slice e, .own l off len=>match st.at l with
  |some (.arr fr _ e' _ xs)=>if h:e'=e then some (fr,((h▸xs:List e.den).drop off).take len) else none
  |some (.xarr e' _ xs)=>if h:e'=e then some (true,((h▸xs:List e.den).drop off).take len) else none
  |some (.grid e' _ rows none _)=>if h: .slice e'=e then some (false,((h▸(rows:List (Ty.slice e').den):List e.den).drop off).take len) else none
  |_=>none
 | .slice e, .sub l i _=>match st.at l with
  |some (.grid e' _ rows none _)=>if h:e'=e then some (false,(h▸(rows.getD i []:List e'.den):List e.den)) else none
  |_=>none
 | .smap v, .mapr l=>match st.at l with
  |some (.smp v' m)=>if h:v'=v then some (true,h▸m) else none
  |_=>none
 |_,_=>none
def Ce (st:St):(τ:Ty)→List AC→Option (Bool×τ.den)
 | .unit,[]=>some (true,())
 | .unit,_::_=>none
 | .pair a r,cs=>
  match Ce st a (cs.take a.size),Ce st r (cs.drop a.size) with
  |some (f1,x),some (f2,y)=>some (f1&&f2,(x,y))
  |_,_=>none
 |τ,[c]=>Bj st τ c
 |_,_=>none
def Lg (st:St) (a:Ty) (l i:Nat):Option (Bool×a.den):=
 match st.at l with
 |some (.var _ vs)=>Ce st a ((vs.drop i).take a.size)
 |_=>none
def Fg (st:St):(τ:Ty)→List (Nat×Nat)→Option (Bool×τ.den)
 | .unit,[]=>some (true,())
 | .pair (.ptr a) r,(l,i)::cs=>
  match Lg st a l i,Fg st r cs with
  |some (f1,x),some (f2,y)=>some (f1&&f2,(x,y))
  |_,_=>none
 |_,_=>none
def Ek (st:St):(τ:Ty)→AC→Option (Bool×τ.den)
 | .ptr a, .vptr l i=>Lg st a l i
 | .optr a, .vptr l i=>(Lg st a l i).map fun p=>(p.1,some p.2)
 | .clo f τ, .clo g caps=>if g=f then Fg st τ caps else none
 |τ,c=>Bj st τ c
def Ci (st:St) (τ:Ty):AV→Option (Bool×τ.den)
 | .at (.data fr τ' x)=>if h:τ'=τ then some (fr||τ.flat,h▸x) else if τ.Ab then none else Ek st τ (.data fr τ' x)
 | .at a=>if τ.Ab then none else Ek st τ a
 | .agg cs=>if τ.Ab then Ce st τ cs else none
 |_=>none
def Bm (st:St):(τ:Ty)→List AV→Option (Bool×τ.den)
 | .unit,[]=>some (true,())
 | .pair a r,v::vs=>
  match Ci st a v,Bm st r vs with
  |some (f1,x),some (f2,y)=>some (f1&&f2,(x,y))
  |_,_=>none
 |_,_=>none
def AC.settled:AC→Bool
 | .data _ _ _| .nilv| .nilp=>true
 |_=>false
def AV.settled:AV→Bool
 | .at a=>a.settled
 | .agg cs=>cs.all (·.settled)
 | .tup _ _ _=>true
 | .tupc _=>false
inductive CK where
 |dat (τ:Ty)
 |row (e:Ty) (te:TypeId)
 |xrow (e:Ty) (te:TypeId)
 |part (e:Ty) (te:TypeId)
 |grid (e:Ty) (te:TypeId) (kp:Bool)
@[reducible] def CK.den:CK→Type
 | .dat τ=>τ.den
 | .row e _=>List e.den
 | .xrow e _=>List e.den
 | .part e _=>List e.den×Nat×Nat
 | .grid e _ _=>List (List e.den)
def CK.flat:CK→Bool
 | .dat τ=>τ.flat
 | .row e _=>e.flat
 | .xrow _ _=>true
 | .part e _=>e.flat
 | .grid _ _ _=>false
def CK.isX:CK→Bool
 | .xrow _ _=>true
 |_=>false
@[reducible] def CKs.den:List CK→Type
 | []=>Unit
 |c::r=>c.den×CKs.den r
@[reducible] def IOs.den:List (Bool×CK)→Type
 | []=>Unit
 |(true, .dat _)::r=>IOs.den r
 |(true, .row e _)::r=>List e.den×IOs.den r
 |(true, .xrow e _)::r=>List e.den×IOs.den r
 |(true, .part e _)::r=>List e.den×IOs.den r
 |(true, .grid _ _ _)::r=>IOs.den r
 |(false,_)::r=>IOs.den r
@[reducible] def Ins.den:List (Bool×CK)→Type
 | []=>Unit
 |p::r=>p.2.den×Ins.den r
structure Bp where
 ptr:Option (TypeId×Nat):=none
 shapes:List (Option Nat)
 ins:List (Bool×CK)
 multi:Bool
 rshapes:List (Option Nat)
 outs:List CK
 fn:Ins.den ins→Option (CKs.den outs×IOs.den ins)
 keeps:List (Nat×Nat):= []
 Ch:Ins.den ins→Nat:=fun _=>0
 rp:Option TypeId:=none
structure Spec where
 arg:Ty
 res:Ty
 multi:Bool
 fresh:Bool
 fn:arg.den→Option res.den
inductive Ad5 where
 |q (s:Spec)
 |m (s:Bp)
 |b (s:Spec) (m:Bp)
def Bp.flat (s:Bp):Bool:=s.outs.all (·.flat)&&s.ins.all fun p=>!p.1||p.2.flat
def Bp.Bbp (s:Bp):Bool:=s.flat||s.outs.all fun c=>!c.isX
abbrev Env:=FuncId→Option Ad5
def Adi:Value→AV
 | .int k n=> .at (.data true (.int k) n)
 | .bool b=> .at (.data true .bool b)
 | .string s=> .at (.data true .str s)
 | .slice none 0 0=> .at .nilv
 | .pointer none=> .at .nilp
 |_=> .undef
def St.ev (st:St):Operand→AV
 | .tmp t=>st.get t
 | .const v=>Adi v
 | .func f=> .at (.clo f [])
 |_=> .undef
def idx {α:Type} (xs:List α) (i:Int):Option α:=if 0≤i then xs[i.toNat]? else none
def inb (n:Int) (len:Nat):Bool:=decide (0≤n)&&decide (n<len)
theorem La {n:Int} {len:Nat} :inb n len=true↔0≤n∧n<len:=by simp [inb]
def Pu (k:IntKind) (n:Int):Option AV:=some (.at (.data true (.int k) n))
def Ib (b:Bool):Option AV:=some (.at (.data true .bool b))
def Aj6 (op:BinOp) (k:IntKind) (a b:Int):Option AV:=
 match op with
 | .add=>Pu k (k.wrap (a+b))
 | .sub=>Pu k (k.wrap (a-b))
 | .mul=>Pu k (k.wrap (a*b))
 | .quo=>if b=0 then none else Pu k (k.wrap (a.tdiv b))
 | .rem=>if b=0 then none else Pu k (a.tmod b)
 | .and=>Pu k (k.wrap (BitVec.ofInt k.bits a&&&BitVec.ofInt k.bits b).toNat)
 | .or=>Pu k (k.wrap (BitVec.ofInt k.bits a|||BitVec.ofInt k.bits b).toNat)
 | .eql=>Ib (a==b)
 | .neq=>Ib (a !=b)
 | .lss=>Ib (decide (a<b))
 | .leq=>Ib (decide (a≤b))
 | .gtr=>Ib (decide (a>b))
 | .geq=>Ib (decide (a≥b))
 |_=>none
def evalBin (op:BinOp) (x y:AV):Option AV:=
 match x,y with
 | .at (.data _ (.int k) a), .at (.data _ (.int k') b)=>
  match op with
  | .shl=>if b<0 then none else Pu k (k.wrap (a*2^(min b.toNat k.bits)))
  | .shr=>if b<0 then none else Pu k (a.fdiv (2^(min b.toNat k.bits)))
  |_=>if k=k' then Aj6 op k a b else none
 | .at (.data _ .str a), .at (.data _ .str b)=>
  match op with
  | .eql=>Ib (a.toList==b.toList)
  | .neq=>Ib (!(a.toList==b.toList))
  | .add=>if a.size+b.size≤4294967296 then some (.at (.data true .str (a++b))) else none
  |_=>none
 |_,_=>none
def Aow (op:UnOp) (x:AV):Option AV:=
 match op,x with
 | .not, .at (.data _ .bool b)=>Ib (!b)
 | .neg, .at (.data _ (.int k) n)=>Pu k (k.wrap (0-n))
 |_,_=>none
def Tx (c x y:AV):Option AV:=
 match c with
 | .at (.data _ .bool b)=>some (if b then x else y)
 |_=>none
def Asm:AV→Option Int
 | .at .nilv=>some 0
 | .at (.data _ (.slice _) xs)=>some xs.length
 | .at (.data _ .str s)=>some s.size
 | .at (.own _ _ len)=>some (len:Int)
 |_=>none
def Bbi:AV→Option Int
 | .at .nilv=>some 0
 | .at (.data _ (.slice _) xs)=>some xs.length
 | .at (.own _ _ len)=>some (len:Int)
 |_=>none
def Aso (st:St):AV→Option Int
 | .at (.sub l i _)=>match st.at l with
  |some (.grid _ _ rows none _)=>some (rows.getD i []).length
  |_=>none
 |v=>Bbi v
def Ay4:AV→Option Int
 | .at (.data _ .str s)=>some s.size
 |_=>none
def Fh:(τ:Ty)→τ.den→Nat→(ρ:Ty)→Option ρ.den
 | .pair a r,x,o,ρ=>if o=0 then (if h:a=ρ then some (h▸x.1) else none) else if o<a.size then none else Fh r x.2 (o-a.size) ρ
 |_,_,_,_=>none
def Wo (l i:Nat):(c:Nat)→(τ:Ty)→τ.den→List AC
 |_, .unit,_=> []
 |c, .pair a r,x=>Wo l i c a x.1++Wo l i (c+a.size) r x.2
 |c,τ,x=> [if τ.flat then .data true τ x else .sub l i c]
variable (T:Tab)
def Iv (st:St) (t:TypeId) (p:AV):Option AV:=
 match T.ty t,p with
 |some τ, .at (.data fr (.ptr τ') x)=>if τ'=τ then some (.at (.data (fr||τ'.flat) τ' x)) else none
 |some τ, .at (.data fr (.optr τ') (some x))=>if τ'=τ then some (.at (.data (fr||τ'.flat) τ' x)) else none
 |some τ, .at (.vptr l i)=>match st.at l with
  |some (.var _ vs)=>if τ.Ab then (if i+τ.size≤vs.length then some (.agg ((vs.drop i).take τ.size)) else none) else vs[i]?.map .at
  |_=>none
 |some τ, .at (.eptr l i)=>match st.at l with
  |some (.arr fr _ e _ xs)=>if e=τ then xs[i]?.map fun x=> .at (.data (fr||e.flat) e x) else none
  |some (.xarr e _ xs)=>if e=τ then xs[i]?.map fun x=>if e.Ab then .agg (Wo l i 0 e x) else .at ((Wo l i 0 e x).headD .undef) else none
  |some (.grid _ _ _ none _)=>if τ.Ab then none else some (.at (.sub l i 0))
  |_=>none
 |some τ, .at (.sptr l i j)=>match st.at l with
  |some (.grid e _ rows none _)=>if e=τ then some (.at (.data e.flat e ((rows.getD i []).getD j e.zero))) else none
  |_=>none
 |_,_=>none
def Ez (st:St) (t:TypeId) (x i:AV):Option AV:=
 match x,i with
 | .at (.data fr (.slice e) xs), .at (.data _ (.int _) n)=>if (T.elem t).bind T.ty=some e then (idx xs n).map fun x=> .at (.data fr (.ptr e) x) else none
 | .at (.own l off len), .at (.data _ (.int _) n)=>match st.at l with
  |some (.arr _ _ e tid _)=>if T.elem t=some tid∧T.ty tid=some e∧inb n len=true then some (.at (.eptr l (off+n.toNat))) else none
  |some (.xarr e tid _)=>if T.elem t=some tid∧T.ty tid=some e∧inb n len=true then some (.at (.eptr l (off+n.toNat))) else none
  |some (.grid _ te _ _ _)=>if T.elem t=some te∧(T.ty te).map Ty.size=some 1∧inb n len=true then some (.at (.eptr l (off+n.toNat))) else none
  |_=>none
 | .at (.sub l i _), .at (.data _ (.int _) n)=>match st.at l with
  |some (.grid e _ rows none _)=>if ((T.elem t).bind T.ty).map Ty.size=some e.size∧inb n (rows.getD i []).length=true then some (.at (.sptr l i n.toNat)) else none
  |_=>none
 |_,_=>none
def Hi (s:TypeId) (x:AV) (f:Nat):Option AV:=
 match T.off s f,x with
 |some (o,_), .at (.vptr l i)=>some (.at (.vptr l (i+o)))
 |some (o,t), .at (.data fr (.ptr τ) x)=>if T.ty s=some τ then (T.ty t).bind fun ρ=>(Fh τ x o ρ).map fun y=> .at (.data fr (.ptr ρ) y) else none
 |some (o,t), .at (.data fr (.optr τ) (some x))=>if T.ty s=some τ then (T.ty t).bind fun ρ=>(Fh τ x o ρ).map fun y=> .at (.data fr (.ptr ρ) y) else none
 |_,_=>none
def Af4 (s:TypeId) (x:AV) (f:Nat):Option AV:=
 match T.off s f,x with
 |some (o,t), .agg cs=>(T.ty t).bind fun ρ=>if ρ.Ab then none else cs[o]?.map .at
 |some (o,t), .at (.data fr τ x)=>if T.ty s=some τ then (T.ty t).bind fun ρ=>(Fh τ x o ρ).map fun y=> .at (.data fr ρ y) else none
 |_,_=>none
def bnd (v:Option AV) (d:Int):Option Int:=
 match v with
 |none=>some d
 |some (.at (.data _ (.int _) n))=>some n
 |_=>none
def Tz (st:St) (t:TypeId) (x:AV) (lo hi:Option AV):Option AV:=
 match Asm x with
 |none=>none
 |some n=>
  match bnd lo 0,bnd hi n with
  |some l,some h=>
   if 0≤l∧l≤h∧h≤n then
    match x with
    | .at (.data fr (.slice e) xs)=>if (T.elem t).bind T.ty=some e then some (.at (.data fr (.slice e) ((xs.take h.toNat).drop l.toNat))) else none
    | .at (.own k off _)=>match st.at k with
     |some (.arr _ _ e tid _)=>if T.elem t=some tid∧T.ty tid=some e then some (.at (.own k (off+l.toNat) (h.toNat-l.toNat))) else none
     |_=>none
    | .at (.data _ .str s)=>if T.ty t=some .str then some (.at (.data true .str (s.extract l.toNat h.toNat))) else none
    |_=>none
   else none
  |_,_=>none
def Aab (t:TypeId) (x i:AV):Option AV:=
 match x,i with
 | .at (.data _ .str s), .at (.data _ (.int _) n)=>if T.ty t=some .str then (if 0≤n then s[n.toNat]?.map fun b=> .at (.data true (.int .u8) b.toNat) else none) else none
 |_,_=>none
def Iu (Γ:Env) (st:St) (f:FuncId) (args:List AV):Option AV:=
 match Γ f with
 |some (.q s)=>
  if s.fresh||s.res.flat||args.all (·.settled) then
   match Bm st s.arg args with
   |none=>none
   |some (_,x)=>(s.fn x).map fun y=>if s.multi then .tup (s.fresh||s.res.flat) s.res y else .at (.data (s.fresh||s.res.flat) s.res y)
  else none
 |_=>none
def Ty.chain:Ty→Bool
 | .unit=>true
 | .pair a r=>!a.Ab&&r.chain
 |_=>false
def Vf (fr:Bool):(τ:Ty)→τ.den→List AV
 | .pair a r,x=> .at (.data fr a x.1)::Vf fr r x.2
 |_,_=> []
def Qg (Γ:Env) (st:St) (v:AV) (args:List AV):Option AV:=
 match v with
 | .at (.data fr (.clo f τ) x)=>if τ.chain then Iu Γ st f (args++Vf fr τ x) else none
 | .at (.clo f caps)=>Iu Γ st f (args++caps.map fun p=> .at (.vptr p.1 p.2))
 |_=>none
def Ac7:List AV→Option (List (Nat×Nat))
 | []=>some []
 | .at (.vptr l i)::r=>(Ac7 r).map fun c=>(l,i)::c
 |_=>none
def Vj (st:St) (t:TypeId) (m k:AV) (ok:Bool):Option AV:=
 match T.mapOf t,k with
 |some v, .at (.data _ .str s)=>
  match Ci st (.smap v) m with
  |some (_,f)=>some (if ok then .tup true (.pair v (.pair .bool .unit)) (((f s).getD v.zero),(f s).isSome,()) else .at (.data true v ((f s).getD v.zero)))
  |none=>none
 |_,_=>none
def Tw (x:AV):Option Bool:=
 match x with
 | .at .nilv=>some true
 | .at (.data _ (.oslice _) x)=>some x.isNone
 |_=>none
def Tv (x:AV):Option Bool:=
 match x with
 | .at .nilp=>some true
 | .at (.vptr _ _)=>some false
 | .at (.data _ (.optr _) x)=>some x.isNone
 | .at (.data _ (.ptr _) _)=>some false
 |_=>none
def Bbf:Option Ty→Bool
 |some (.ptr _)=>true
 |some (.optr _)=>true
 |_=>false
def Sr (fr:Bool):(τ:Ty)→τ.den→Nat→Option AV
 | .pair a _,x,0=>some (.at (.data fr a x.1))
 | .pair _ r,x,n+1=>Sr fr r x.2 n
 |_,_,_=>none
def Bfr:Bool×List AC→Option AV
 |(true,cs)=>some (.agg cs)
 |(false,[a])=>some (.at a)
 |_=>none
def Bcs (l:List (Bool×List AC)) (i:Nat):Option AV:=(l[i]?).bind Bfr
def Aou (mx:Bool):List AV→Option AV
 | [.at (.data _ (.int k) a), .at (.data _ (.int k') b)]=>if k=k' then Pu k (if mx then (if b>a then b else a) else (if b<a then b else a)) else none
 |_=>none
def Ks (op:BinOp) (t:TypeId) (x y:AV):Option AV:=
 match op,x,y with
 | .eql,x, .at .nilv=>if (T.elem t).isSome then (Tw x).bind Ib else none
 | .eql,x, .at .nilp=>if Bbf (T.ty t) then (Tv x).bind Ib else none
 | .neq,x, .at .nilv=>if (T.elem t).isSome then (Tw x).bind fun b=>Ib (!b) else none
 | .neq,x, .at .nilp=>if Bbf (T.ty t) then (Tv x).bind fun b=>Ib (!b) else none
 | .eql, .at (.data _ .bool a), .at (.data _ .bool b)=>if T.ty t=some .bool then Ib (a==b) else none
 | .neq, .at (.data _ .bool a), .at (.data _ .bool b)=>if T.ty t=some .bool then Ib (!(a==b)) else none
 |op,x,y=>evalBin op x y
def bytesOf (l:List Int):ByteArray:=⟨(l.map fun n=>UInt8.ofNat n.toNat).toArray⟩
def Afw:AV→AV
 | .at (.data fr (.oslice e) x)=> .at (.data fr (.slice e) (x.getD []))
 |v=>v
def Bz (Γ:Env) (st:St) (o:Oper):Option AV:=
 match o.op with
 | .move x=>some (st.ev x)
 | .assign x=>some (st.ev x)
 | .pick c a b=>Tx (st.ev c) (st.ev a) (st.ev b)
 | .load t a=>Iv T st t (st.ev a)
 | .nilCheck x=>match st.ev x with
  | .at (.data fr (.ptr τ) x)=>some (.at (.data fr (.ptr τ) x))
  | .at (.data fr (.optr τ) (some x))=>some (.at (.data fr (.ptr τ) x))
  | .at (.vptr l i)=>some (.at (.vptr l i))
  | .at (.eptr l i)=>some (.at (.eptr l i))
  |_=>none
 | .binOp op t x y _=>Ks T op t (st.ev x) (st.ev y)
 | .unOp op _ x=>Aow op (st.ev x)
 | .convert s t x=>match T.ty s,T.ty t,st.ev x with
  |some _,some (.int k), .at (.data _ (.int _) n)=>Pu k (k.wrap n)
  |some (.slice (.int .u8)),some .str,_=>(Ci st (.slice (.int .u8)) (st.ev x)).map fun p=> .at (.data true .str (bytesOf p.2))
  |_,_,_=>none
 | .slice t x lo hi mx=>if mx.isSome then none else Tz T st t (st.ev x) (lo.map st.ev) (hi.map st.ev)
 | .fieldAddr s x f=>Hi T s (st.ev x) f
 | .field s x f=>Af4 T s (st.ev x) f
 | .indexAddr t x i=>Ez T st t (Afw (st.ev x)) (st.ev i)
 | .index t x i=>Aab T t (st.ev x) (st.ev i)
 | .extract x i=>match st.ev x with
  | .tup fr τ y=>Sr fr τ y i
  | .tupc l=>Bcs l i
  |_=>none
 | .call {callee:= .value (.func f),args, .. } =>Iu Γ st f (args.toList.map st.ev)
 | .call {callee:= .value (.tmp t),args, .. } =>Qg Γ st (st.get t) (args.toList.map st.ev)
 | .makeFunc (.func f) first caps=>if first.isEmpty then (Ac7 (caps.toList.map st.ev)).map fun c=> .at (.clo f c) else none
 | .lookup t m k ok=>Vj T st t (st.ev m) (st.ev k) ok
 | .call {callee:= .builtin .len,args,argTypes} =>match args.toList,argTypes.toList with
  | [x],[t]=>match T.ty t with
   |some (.slice _)=>(Aso st (st.ev x)).bind (Pu .i64)
   |some (.oslice _)=>(Aso st (Afw (st.ev x))).bind (Pu .i64)
   |some .str=>(Ay4 (st.ev x)).bind (Pu .i64)
   |_=>none
  |_,_=>none
 | .call {callee:= .builtin .min,args, .. } =>Aou false (args.toList.map st.ev)
 | .call {callee:= .builtin .max,args, .. } =>Aou true (args.toList.map st.ev)
 |_=>none
def Mv (st:St) (t:Option Tmp):Option (Option Bool):=
 match t with
 |some t=>match st.get t with
  | .at (.data _ .bool b)=>some (some b)
  | .at .skip=>some none
  |_=>none
 |none=>none
end Go.Proofs.Ytebabhocakedaaa
