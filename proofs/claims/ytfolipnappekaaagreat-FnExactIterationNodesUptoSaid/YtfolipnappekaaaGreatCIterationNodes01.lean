/-
  Part 2 of the proof that the statement FnExactIterationNodes holds.
-/
import Derived.Test.YtfolipnappekaaaGreatCIterationNodes00
namespace Go.Proofs.YtfolipnappekaaaGreat
open Go.RowKit
inductive AC where
 |undef
 |skip
 |Lr
 |Vu
 |data (fr:Bool) (τ:Ty) (x:τ.den)
 |own (l off len:Nat)
 |Hj (l i:Nat)
 |Jz (l i:Nat)
 |clo (f:Nat) (Ee:List (Nat×Nat))
 |Kh (l:Nat)
 |sub (l i c:Nat)
 |Jv (l i j:Nat)
inductive AV where
 |at (a:AC)
 |agg (cs:List AC)
 |bL (fr:Bool) (τ:Ty) (x:τ.den)
 |Ms (l:List (Bool×List AC))
@[reducible] def AV.undef:AV:= .at .undef
inductive OB where
 |arr (fr tr:Bool) (e:Ty) (tid:TypeId) (xs:List e.den)
 |Gu (e:Ty) (tid:TypeId) (xs:List e.den)
 |var (tid:TypeId) (vs:List AC)
 |Bm (e:Ty) (te:TypeId) (rows:List (List e.den)) (out:Option Nat) (kp:Option (Nat×Nat))
 |Vv (v:Ty) (m:ByteArray->Option v.den)
structure St where
 tmps:List AV
 heap:List (Nat×OB)
def Au:List (Nat×OB)->Nat->Option OB
 | [],_=>none
 |(k,b)::r,l=>if k=l then some b else Au r l
def St.get (st:St) (t:Nat):AV:=st.tmps.getD t .undef
def St.at (st:St) (l:Nat):Option OB:=Au st.heap l
def Su {α:Type} :List α->Nat->α->List α
 | [],_,_=> []
 |_::r,0,y=>y::r
 |x::r,n+1,y=>x::Su r n y
def St.put (st:St) (dst:Option Tmp) (v:AV):St:=
 match dst with
 |some d=> {st with tmps:=Su st.tmps d v}
 |none=>st
def AV.map (f:AC->AC):AV->AV
 | .at a=> .at (f a)
 | .agg cs=> .agg (cs.map f)
 | .bL fr τ x=> .bL fr τ x
 | .Ms l=> .Ms (l.map λp=>(p.1,p.2.map f))
def OB.map (f:AC->AC):OB->OB
 | .arr fr tr e t xs=> .arr fr tr e t xs
 | .Gu e t xs=> .Gu e t xs
 | .var t vs=> .var t (vs.map f)
 | .Bm e te rows out kp=> .Bm e te rows out kp
 | .Vv v m=> .Vv v m
def aN:List (Nat×OB)->Nat->List (Nat×OB)
 | [],_=> []
 |(k,b)::r,l=>if k=l then aN r l else (k,b)::aN r l
def St.Ks (st:St) (f:AC->AC):St:= {tmps:=st.tmps.map (·.map f),heap:=st.heap.map λp=>(p.1,p.2.map f)}
def Cr (l:Nat):AC->AC
 | .own k off len=>if k=l then .undef else .own k off len
 | .Hj k i=>if k=l then .undef else .Hj k i
 | .Jz k i=>if k=l then .undef else .Jz k i
 | .clo f Ee=>if (Ee.map (·.1)).contains l then .undef else .clo f Ee
 | .Kh k=>if k=l then .undef else .Kh k
 | .sub k i c=>if k=l then .undef else .sub k i c
 | .Jv k i c=>if k=l then .undef else .Jv k i c
 |a=>a
def St.forget (st:St) (l:Nat):St:=let s:=st.Ks (Cr l); {s with heap:=aN s.heap l}
def Da (l:Nat) (fr:Bool) (e:Ty) (xs:List e.den):AC->AC
 | .own k off len=>if k=l then .data fr (.slice e) ((xs.drop off).take len) else .own k off len
 | .Jz k i=>if k=l then .undef else .Jz k i
 | .Hj k i=>if k=l then .undef else .Hj k i
 | .clo f Ee=>if (Ee.map (·.1)).contains l then .undef else .clo f Ee
 | .Kh k=>if k=l then .undef else .Kh k
 | .sub k i c=>if k=l then .undef else .sub k i c
 | .Jv k i c=>if k=l then .undef else .Jv k i c
 |a=>a
def St.freeze (st:St) (l:Nat) (fr:Bool) (e:Ty) (xs:List e.den):St:=let s:=st.Ks (Da l fr e xs); {s with heap:=aN s.heap l}
def Hb (l:Nat) (v:Ty) (m:ByteArray->Option v.den):AC->AC
 | .Kh k=>if k=l then .data false (.smap v) m else .Kh k
 | .own k off len=>if k=l then .undef else .own k off len
 | .Jz k i=>if k=l then .undef else .Jz k i
 | .Hj k i=>if k=l then .undef else .Hj k i
 | .clo f Ee=>if (Ee.map (·.1)).contains l then .undef else .clo f Ee
 | .sub k i c=>if k=l then .undef else .sub k i c
 | .Jv k i c=>if k=l then .undef else .Jv k i c
 |a=>a
def St.Ir (st:St) (l:Nat) (v:Ty) (m:ByteArray->Option v.den):St:=let s:=st.Ks (Hb l v m); {s with heap:=aN s.heap l}
def Oj:List (Nat×OB)->Nat->OB->List (Nat×OB)
 | [],l,b=> [(l,b)]
 |(k,c)::r,l,b=>if l<k then (l,b)::(k,c)::r else (k,c)::Oj r l b
def St.new (st:St) (l:Nat) (b:OB):St:=let s:=st.forget l; {s with heap:=Oj s.heap l b}
def aE:List (Nat×OB)->Nat->OB->List (Nat×OB)
 | [],_,_=> []
 |(k,b)::r,l,b'=>if k=l then (k,b')::r else (k,b)::aE r l b'
def St.Ju (st:St) (l:Nat) (b:OB):St:= {st with heap:=aE st.heap l b}
structure Tab where
 ty:TypeId->Option Ty
 elem:TypeId->Option TypeId
 mapOf:TypeId->Option Ty
 off:TypeId->Nat->Option (Nat×TypeId)
 u9:Bool:=true
 DK:Bool:=false
 marks:List Nat:= []
 parts:List Nat:= []
 ZY:List TypeId:= []
def Ty.zero:(τ:Ty)->τ.den
 | .int _=>(0:Int)
 | .bool=>false
 | .str=>(ByteArray.empty)
 | .slice _=> []
 | .oslice _=>none
 | .ptr a=>a.zero
 | .optr _=>none
 | .smap _=> λ_=>none
 | .clo _ c=>c.zero
 | .unit=>()
 | .pair a r=>(a.zero,r.zero)
def Sl (fr:Bool):(τ:Ty)->τ.den->List AC
 | .unit,_=> []
 | .pair a r,x=>Sl fr a x.1++Sl fr r x.2
 |τ,x=> [.data fr τ x]
def iC (fr:Bool):(τ Oh:Ty)->Oh.den->Option (Bool×τ.den)
 | .slice e, .oslice e',x=>if h:e'=e then some (fr,((h▸x:Option (List e.den)).getD [])) else none
 | .optr a, .ptr a',x=>if h:a'=a then some (fr,some (h▸x:a.den)) else none
 |_,_,_=>none
def Du (st:St):(τ:Ty)->AC->Option (Bool×τ.den)
 |τ, .data fr Oh x=>if h:Oh=τ then some (fr||τ.flat,h▸x) else iC fr τ Oh x
 | .slice _, .Lr=>some (true,[])
 | .oslice _, .Lr=>some (true,none)
 | .optr _, .Vu=>some (true,none)
 | .slice e, .own l off len=>match st.at l with
  |some (.arr fr _ e' _ xs)=>if h:e'=e then some (fr,((h▸xs:List e.den).drop off).take len) else none
  |some (.Gu e' _ xs)=>if h:e'=e then some (true,((h▸xs:List e.den).drop off).take len) else none
  |some (.Bm e' _ rows none _)=>if h: .slice e'=e then some (false,((h▸(rows:List (Ty.slice e').den):List e.den).drop off).take len) else none
  |_=>none
 | .slice e, .sub l i _=>match st.at l with
  |some (.Bm e' _ rows none _)=>if h:e'=e then some (false,(h▸(rows.getD i []:List e'.den):List e.den)) else none
  |_=>none
 | .smap v, .Kh l=>match st.at l with
  |some (.Vv v' m)=>if h:v'=v then some (true,h▸m) else none
  |_=>none
 |_,_=>none
def Ew (st:St):(τ:Ty)->List AC->Option (Bool×τ.den)
 | .unit,[]=>some (true,())
 | .unit,_::_=>none
 | .pair a r,cs=>
  match Ew st a (cs.take a.size),Ew st r (cs.drop a.size) with
  |some (f1,x),some (f2,y)=>some (f1&&f2,(x,y))
  |_,_=>none
 |τ,[c]=>Du st τ c
 |_,_=>none
def Uo (st:St) (a:Ty) (l i:Nat):Option (Bool×a.den):=
 match st.at l with
 |some (.var _ vs)=>Ew st a ((vs.drop i).take a.size)
 |_=>none
def Kv (st:St):(τ:Ty)->List (Nat×Nat)->Option (Bool×τ.den)
 | .unit,[]=>some (true,())
 | .pair (.ptr a) r,(l,i)::cs=>
  match Uo st a l i,Kv st r cs with
  |some (f1,x),some (f2,y)=>some (f1&&f2,(x,y))
  |_,_=>none
 |_,_=>none
def Js (st:St):(τ:Ty)->AC->Option (Bool×τ.den)
 | .ptr a, .Hj l i=>Uo st a l i
 | .optr a, .Hj l i=>(Uo st a l i).map λp=>(p.1,some p.2)
 | .clo f τ, .clo g Ee=>if g=f/\f<1000000000 then Kv st τ Ee else none
 |τ,c=>Du st τ c
def Fq (st:St) (τ:Ty):AV->Option (Bool×τ.den)
 | .at (.data fr Oh x)=>if h:Oh=τ then some (fr||τ.flat,h▸x) else if τ.Aq then none else Js st τ (.data fr Oh x)
 | .at a=>if τ.Aq then none else Js st τ a
 | .agg cs=>if τ.Aq then Ew st τ cs else none
 |_=>none
def Dx (st:St):(τ:Ty)->List AV->Option (Bool×τ.den)
 | .unit,[]=>some (true,())
 | .pair a r,v::vs=>
  match Fq st a v,Dx st r vs with
  |some (f1,x),some (f2,y)=>some (f1&&f2,(x,y))
  |_,_=>none
 |_,_=>none
def AC.settled:AC->Bool
 | .data _ _ _| .Lr| .Vu=>true
 |_=>false
def AV.settled:AV->Bool
 | .at a=>a.settled
 | .agg cs=>cs.all (·.settled)
 | .bL _ _ _=>true
 | .Ms _=>false
inductive CK where
 |Fm (τ:Ty)
 |row (e:Ty) (te:TypeId)
 |Hk (e:Ty) (te:TypeId)
 |part (e:Ty) (te:TypeId)
 |Bm (e:Ty) (te:TypeId) (kp:Bool)
@[reducible] def CK.den:CK->Type
 | .Fm τ=>τ.den
 | .row e _=>List e.den
 | .Hk e _=>List e.den
 | .part e _=>List e.den×Nat×Nat
 | .Bm e _ _=>List (List e.den)
def CK.flat:CK->Bool
 | .Fm τ=>τ.flat
 | .row e _=>e.flat
 | .Hk _ _=>true
 | .part e _=>e.flat
 | .Bm _ _ _=>false
def CK.isX:CK->Bool
 | .Hk _ _=>true
 |_=>false
@[reducible] def CKs.den:List CK->Type
 | []=>Unit
 |c::r=>c.den×CKs.den r
@[reducible] def IOs.den:List (Bool×CK)->Type
 | []=>Unit
 |(true, .Fm _)::r=>IOs.den r
 |(true, .row e _)::r=>List e.den×IOs.den r
 |(true, .Hk e _)::r=>List e.den×IOs.den r
 |(true, .part e _)::r=>List e.den×IOs.den r
 |(true, .Bm _ _ _)::r=>IOs.den r
 |(false,_)::r=>IOs.den r
@[reducible] def Ins.den:List (Bool×CK)->Type
 | []=>Unit
 |p::r=>p.2.den×Ins.den r
structure MSpec where
 ptr:Option (TypeId×Nat):=none
 Jj:List (Option Nat)
 ins:List (Bool×CK)
 He:Bool
 Ih:List (Option Nat)
 outs:List CK
 fn:Ins.den ins->Option (CKs.den outs×IOs.den ins)
 keeps:List (Nat×Nat):= []
 Ex:Ins.den ins->Nat:= λ_=>0
 rp:Option TypeId:=none
structure Spec where
 arg:Ty
 res:Ty
 He:Bool
 fresh:Bool
 fn:arg.den->Option res.den
inductive Pf where
 |q (s:Spec)
 |m (s:MSpec)
 |b (s:Spec) (m:MSpec)
def MSpec.flat (s:MSpec):Bool:=s.outs.all (·.flat)&&s.ins.all λp=>!p.1||p.2.flat
def MSpec.Abi (s:MSpec):Bool:=s.flat||s.outs.all λc=>!c.isX
abbrev Env:=FuncId->Option Pf
def nk:Value->AV
 | .int k n=> .at (.data true (.int k) n)
 | .bool b=> .at (.data true .bool b)
 | .string s=> .at (.data true .str s)
 | .slice none 0 0=> .at .Lr
 | .pointer none=> .at .Vu
 |_=> .undef
def St.ev (st:St):Operand->AV
 | .tmp t=>st.get t
 | .const v=>nk v
 | .func f=> .at (.clo f [])
 |_=> .undef
def idx {α:Type} (xs:List α) (i:Int):Option α:=if 0<=i then xs[i.toNat]? else none
def inb (n:Int) (len:Nat):Bool:=decide (0<=n)&&decide (n<len)
theorem Uh {n:Int} {len:Nat} :inb n len=true↔0<=n/\n<len:=by simp [inb]
def aU (k:IntKind) (n:Int):Option AV:=some (.at (.data true (.int k) n))
def Ph (b:Bool):Option AV:=some (.at (.data true .bool b))
def uy (op:BinOp) (k:IntKind) (a b:Int):Option AV:=
 match op with
 | .add=>aU k (k.wrap (a+b))
 | .sub=>aU k (k.wrap (a-b))
 | .mul=>aU k (k.wrap (a*b))
 | .quo=>if b=0 then none else aU k (k.wrap (a.tdiv b))
 | .rem=>if b=0 then none else aU k (a.tmod b)
 | .and=>aU k (k.wrap (BitVec.ofInt k.bits a&&&BitVec.ofInt k.bits b).toNat)
 | .or=>aU k (k.wrap (BitVec.ofInt k.bits a|||BitVec.ofInt k.bits b).toNat)
 | .eql=>Ph (a==b)
 | .neq=>Ph (a !=b)
 | .lss=>Ph (decide (a<b))
 | .leq=>Ph (decide (a<=b))
 | .gtr=>Ph (decide (a>b))
 | .geq=>Ph (decide (a>=b))
 |_=>none
def evalBin (op:BinOp) (x y:AV):Option AV:=
 match x,y with
 | .at (.data _ (.int k) a), .at (.data _ (.int k') b)=>
  match op with
  | .shl=>if b<0 then none else aU k (k.wrap (a*2^(min b.toNat k.bits)))
  | .shr=>if b<0 then none else aU k (a.fdiv (2^(min b.toNat k.bits)))
  |_=>if k=k' then uy op k a b else none
 | .at (.data _ .str a), .at (.data _ .str b)=>
  match op with
  | .eql=>Ph (a.toList==b.toList)
  | .neq=>Ph (!(a.toList==b.toList))
  | .add=>if a.size+b.size<=4294967296 then some (.at (.data true .str (a++b))) else none
  |_=>none
 |_,_=>none
def zU (op:UnOp) (x:AV):Option AV:=
 match op,x with
 | .not, .at (.data _ .bool b)=>Ph (!b)
 | .neg, .at (.data _ (.int k) n)=>aU k (k.wrap (0-n))
 |_,_=>none
def dY (c x y:AV):Option AV:=
 match c with
 | .at (.data _ .bool b)=>some (if b then x else y)
 |_=>none
def HB:AV->Option Int
 | .at .Lr=>some 0
 | .at (.data _ (.slice _) xs)=>some xs.length
 | .at (.data _ .str s)=>some s.size
 | .at (.own _ _ len)=>some (len:Int)
 |_=>none
def Ab9:AV->Option Int
 | .at .Lr=>some 0
 | .at (.data _ (.slice _) xs)=>some xs.length
 | .at (.own _ _ len)=>some (len:Int)
 |_=>none
def HD (st:St):AV->Option Int
 | .at (.sub l i _)=>match st.at l with
  |some (.Bm _ _ rows none _)=>some (rows.getD i []).length
  |_=>none
 |v=>Ab9 v
def TA:AV->Option Int
 | .at (.data _ .str s)=>some s.size
 |_=>none
def Kx:(τ:Ty)->τ.den->Nat->(ρ:Ty)->Option ρ.den
 | .pair a r,x,o,ρ=>if o=0 then (if h:a=ρ then some (h▸x.1) else none) else if o<a.size then none else Kx r x.2 (o-a.size) ρ
 |_,_,_,_=>none
def fV (l i:Nat):(c:Nat)->(τ:Ty)->τ.den->List AC
 |_, .unit,_=> []
 |c, .pair a r,x=>fV l i c a x.1++fV l i (c+a.size) r x.2
 |c,τ,x=> [if τ.flat then .data true τ x else .sub l i c]
variable (T:Tab)
def Qh (st:St) (t:TypeId) (p:AV):Option AV:=
 match T.ty t,p with
 |some τ, .at (.data fr (.ptr Oh) x)=>if Oh=τ then some (.at (.data (fr||Oh.flat) Oh x)) else none
 |some τ, .at (.data fr (.optr Oh) (some x))=>if Oh=τ then some (.at (.data (fr||Oh.flat) Oh x)) else none
 |some τ, .at (.Hj l i)=>match st.at l with
  |some (.var _ vs)=>if τ.Aq then (if i+τ.size<=vs.length then some (.agg ((vs.drop i).take τ.size)) else none) else vs[i]?.map .at
  |_=>none
 |some τ, .at (.Jz l i)=>match st.at l with
  |some (.arr fr _ e _ xs)=>if e=τ then xs[i]?.map λx=> .at (.data (fr||e.flat) e x) else none
  |some (.Gu e _ xs)=>if e=τ then xs[i]?.map λx=>if e.Aq then .agg (fV l i 0 e x) else .at ((fV l i 0 e x).headD .undef) else none
  |some (.Bm _ _ _ none _)=>if τ.Aq then none else some (.at (.sub l i 0))
  |_=>none
 |some τ, .at (.Jv l i j)=>match st.at l with
  |some (.Bm e _ rows none _)=>if e=τ then some (.at (.data e.flat e ((rows.getD i []).getD j e.zero))) else none
  |_=>none
 |_,_=>none
def Kl (st:St) (t:TypeId) (x i:AV):Option AV:=
 match x,i with
 | .at (.data fr (.slice e) xs), .at (.data _ (.int _) n)=>if (T.elem t).bind T.ty=some e then (idx xs n).map λx=> .at (.data fr (.ptr e) x) else none
 | .at (.own l off len), .at (.data _ (.int _) n)=>match st.at l with
  |some (.arr _ _ e tid _)=>if T.elem t=some tid/\T.ty tid=some e/\inb n len=true then some (.at (.Jz l (off+n.toNat))) else none
  |some (.Gu e tid _)=>if T.elem t=some tid/\T.ty tid=some e/\inb n len=true then some (.at (.Jz l (off+n.toNat))) else none
  |some (.Bm _ te _ _ _)=>if T.elem t=some te/\(T.ty te).map Ty.size=some 1/\inb n len=true then some (.at (.Jz l (off+n.toNat))) else none
  |_=>none
 | .at (.sub l i _), .at (.data _ (.int _) n)=>match st.at l with
  |some (.Bm e _ rows none _)=>if ((T.elem t).bind T.ty).map Ty.size=some e.size/\inb n (rows.getD i []).length=true then some (.at (.Jv l i n.toNat)) else none
  |_=>none
 |_,_=>none
def Oa (s:TypeId) (x:AV) (f:Nat):Option AV:=
 match T.off s f,x with
 |some (o,_), .at (.Hj l i)=>some (.at (.Hj l (i+o)))
 |some (o,t), .at (.data fr (.ptr τ) x)=>if T.ty s=some τ then (T.ty t).bind λρ=>(Kx τ x o ρ).map λy=> .at (.data fr (.ptr ρ) y) else none
 |some (o,t), .at (.data fr (.optr τ) (some x))=>if T.ty s=some τ then (T.ty t).bind λρ=>(Kx τ x o ρ).map λy=> .at (.data fr (.ptr ρ) y) else none
 |_,_=>none
def po (s:TypeId) (x:AV) (f:Nat):Option AV:=
 match T.off s f,x with
 |some (o,t), .agg cs=>(T.ty t).bind λρ=>if ρ.Aq then none else cs[o]?.map .at
 |some (o,t), .at (.data fr τ x)=>if T.ty s=some τ then (T.ty t).bind λρ=>(Kx τ x o ρ).map λy=> .at (.data fr ρ y) else none
 |_,_=>none
def YO (v:Option AV) (d:Int):Option Int:=
 match v with
 |none=>some d
 |some (.at (.data _ (.int _) n))=>some n
 |_=>none
def dZ (st:St) (t:TypeId) (x:AV) (lo hi:Option AV):Option AV:=
 match HB x with
 |none=>none
 |some n=>
  match YO lo 0,YO hi n with
  |some l,some h=>
   if 0<=l/\l<=h/\h<=n then
    match x with
    | .at (.data fr (.slice e) xs)=>if (T.elem t).bind T.ty=some e then some (.at (.data fr (.slice e) ((xs.take h.toNat).drop l.toNat))) else none
    | .at (.own k off _)=>match st.at k with
     |some (.arr _ _ e tid _)=>if T.elem t=some tid/\T.ty tid=some e then some (.at (.own k (off+l.toNat) (h.toNat-l.toNat))) else none
     |_=>none
    | .at (.data _ .str s)=>if T.ty t=some .str then some (.at (.data true .str (s.extract l.toNat h.toNat))) else none
    |_=>none
   else none
  |_,_=>none
def jZ (t:TypeId) (x i:AV):Option AV:=
 match x,i with
 | .at (.data _ .str s), .at (.data _ (.int _) n)=>if T.ty t=some .str then (if 0<=n then s[n.toNat]?.map λb=> .at (.data true (.int .u8) b.toNat) else none) else none
 |_,_=>none
def Ow (Γ:Env) (st:St) (f:FuncId) (args:List AV):Option AV:=
 match Γ f with
 |some (.q s)=>
  if s.fresh||s.res.flat||args.all (·.settled) then
   match Dx st s.arg args with
   |none=>none
   |some (_,x)=>(s.fn x).map λy=>if s.He then .bL (s.fresh||s.res.flat) s.res y else .at (.data (s.fresh||s.res.flat) s.res y)
  else none
 |_=>none
def Ty.chain:Ty->Bool
 | .unit=>true
 | .pair a r=>!a.Aq&&r.chain
 |_=>false
def bT (fr:Bool):(τ:Ty)->τ.den->List AV
 | .pair a r,x=> .at (.data fr a x.1)::bT fr r x.2
 |_,_=> []
def Ya (Γ:Env) (st:St) (v:AV) (args:List AV):Option AV:=
 match v with
 | .at (.data fr (.clo f τ) x)=>if τ.chain then (if f<1000000000 then Ow Γ st f (args++bT fr τ x) else Ow Γ st (f-1000000000) (bT fr τ x++args)) else none
 | .at (.clo f Ee)=>Ow Γ st f (args++Ee.map λp=> .at (.Hj p.1 p.2))
 |_=>none
def m9:List AV->Option (List (Nat×Nat))
 | []=>some []
 | .at (.Hj l i)::r=>(m9 r).map λc=>(l,i)::c
 |_=>none
def fe (st:St) (t:TypeId) (m k:AV) (ok:Bool):Option AV:=
 match T.mapOf t,k with
 |some v, .at (.data _ .str s)=>
  match Fq st (.smap v) m with
  |some (_,f)=>some (if ok then .bL true (.pair v (.pair .bool .unit)) (((f s).getD v.zero),(f s).isSome,()) else .at (.data true v ((f s).getD v.zero)))
  |none=>none
 |_,_=>none
def dX (x:AV):Option Bool:=
 match x with
 | .at .Lr=>some true
 | .at (.data _ (.oslice _) x)=>some x.isNone
 |_=>none
def dW (x:AV):Option Bool:=
 match x with
 | .at .Vu=>some true
 | .at (.Hj _ _)=>some false
 | .at (.data _ (.optr _) x)=>some x.isNone
 | .at (.data _ (.ptr _) _)=>some false
 |_=>none
def Ab4:Option Ty->Bool
 |some (.ptr _)=>true
 |some (.optr _)=>true
 |_=>false
def dk (fr:Bool):(τ:Ty)->τ.den->Nat->Option AV
 | .pair a _,x,0=>some (.at (.data (fr||a.flat) a x.1))
 | .pair _ r,x,n+1=>dk fr r x.2 n
 |_,_,_=>none
def Amt:Bool×List AC->Option AV
 |(true,cs)=>some (.agg cs)
 |(false,[a])=>some (.at a)
 |_=>none
def Ad7 (l:List (Bool×List AC)) (i:Nat):Option AV:=(l[i]?).bind Amt
def zS (mx:Bool):List AV->Option AV
 | [.at (.data _ (.int k) a), .at (.data _ (.int k') b)]=>if k=k' then aU k (if mx then (if b>a then b else a) else (if b<a then b else a)) else none
 |_=>none
def Tx (op:BinOp) (t:TypeId) (x y:AV):Option AV:=
 match op,x,y with
 | .eql,x, .at .Lr=>if (T.elem t).isSome then (dX x).bind Ph else none
 | .eql,x, .at .Vu=>if Ab4 (T.ty t) then (dW x).bind Ph else none
 | .neq,x, .at .Lr=>if (T.elem t).isSome then (dX x).bind λb=>Ph (!b) else none
 | .neq,x, .at .Vu=>if Ab4 (T.ty t) then (dW x).bind λb=>Ph (!b) else none
 | .eql, .at (.data _ .bool a), .at (.data _ .bool b)=>if T.ty t=some .bool then Ph (a==b) else none
 | .neq, .at (.data _ .bool a), .at (.data _ .bool b)=>if T.ty t=some .bool then Ph (!(a==b)) else none
 |op,x,y=>evalBin op x y
def bytesOf (l:List Int):ByteArray:=⟨(l.map λn=>UInt8.ofNat n.toNat).toArray⟩
def pQ:AV->AV
 | .at (.data fr (.oslice e) x)=> .at (.data fr (.slice e) (x.getD []))
 |v=>v
def Fa (Γ:Env) (st:St) (o:Oper):Option AV:=
 match o.op with
 | .move x=>some (st.ev x)
 | .assign x=>some (st.ev x)
 | .pick c a b=>dY (st.ev c) (st.ev a) (st.ev b)
 | .load t a=>Qh T st t (st.ev a)
 | .nilCheck x=>match st.ev x with
  | .at (.data fr (.ptr τ) x)=>some (.at (.data fr (.ptr τ) x))
  | .at (.data fr (.optr τ) (some x))=>some (.at (.data fr (.ptr τ) x))
  | .at (.Hj l i)=>some (.at (.Hj l i))
  | .at (.Jz l i)=>some (.at (.Jz l i))
  |_=>none
 | .binOp op t x y _=>Tx T op t (st.ev x) (st.ev y)
 | .unOp op _ x=>zU op (st.ev x)
 | .convert s t x=>match T.ty s,T.ty t,st.ev x with
  |some _,some (.int k), .at (.data _ (.int _) n)=>aU k (k.wrap n)
  |some (.slice (.int .u8)),some .str,_=>(Fq st (.slice (.int .u8)) (st.ev x)).map λp=> .at (.data true .str (bytesOf p.2))
  |_,_,_=>none
 | .slice t x lo hi mx=>if mx.isSome then none else dZ T st t (st.ev x) (lo.map st.ev) (hi.map st.ev)
 | .fieldAddr s x f=>Oa T s (st.ev x) f
 | .field s x f=>po T s (st.ev x) f
 | .indexAddr t x i=>Kl T st t (pQ (st.ev x)) (st.ev i)
 | .index t x i=>jZ T t (st.ev x) (st.ev i)
 | .extract x i=>match st.ev x with
  | .bL fr τ y=>dk fr τ y i
  | .Ms l=>Ad7 l i
  |_=>none
 | .call {callee:= .value (.func f),args, .. } =>Ow Γ st f (args.toList.map st.ev)
 | .call {callee:= .value (.tmp t),args, .. } =>Ya Γ st (st.get t) (args.toList.map st.ev)
 | .makeFunc (.func f) first Ee=>match first.toList.map st.ev with
  | []=>(m9 (Ee.toList.map st.ev)).map λc=> .at (.clo f c)
  | [.at (.data fr τ x)]=>if Ee.isEmpty&&!τ.Aq then some (.at (.data fr (.clo (f+1000000000) (.pair τ .unit)) (x,()))) else none
  |_=>none
 | .lookup t m k ok=>fe T st t (st.ev m) (st.ev k) ok
 | .call {callee:= .builtin .len,args,argTypes} =>match args.toList,argTypes.toList with
  | [x],[t]=>match T.ty t with
   |some (.slice _)=>(HD st (st.ev x)).bind (aU .i64)
   |some (.oslice _)=>(HD st (pQ (st.ev x))).bind (aU .i64)
   |some .str=>(TA (st.ev x)).bind (aU .i64)
   |_=>none
  |_,_=>none
 | .call {callee:= .builtin .min,args, .. } =>zS false (args.toList.map st.ev)
 | .call {callee:= .builtin .max,args, .. } =>zS true (args.toList.map st.ev)
 |_=>none
def Xs (st:St) (t:Option Tmp):Option (Option Bool):=
 match t with
 |some t=>match st.get t with
  | .at (.data _ .bool b)=>some (some b)
  | .at .skip=>some none
  |_=>none
 |none=>none
end Go.Proofs.YtfolipnappekaaaGreat
