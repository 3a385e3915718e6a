/-
  Part 2 of the proof that the statement FnSymmetries holds.
-/
import Derived.Test.YtkkdpknjohcekaaCFSymmetries00
namespace Go.Proofs.Ytkkdpknjohcekaa
open Go.RowKit
inductive AC where
 |undef
 |skip
 |Lo
 |Uk
 |data (fr:Bool) (τ:Ty) (x:τ.den)
 |own (l off len:Nat)
 |Gr (l i:Nat)
 |Jp (l i:Nat)
 |clo (f:Nat) (Eb:List (Nat×Nat))
 |Ka (l:Nat)
 |sub (l i c:Nat)
 |Jn (l i j:Nat)
inductive AV where
 |at (a:AC)
 |agg (cs:List AC)
 |aa (fr:Bool) (τ:Ty) (x:τ.den)
 |Mh (l:List (Bool×List AC))
@[reducible] def AV.undef:AV:= .at .undef
inductive OB where
 |arr (fr tr:Bool) (e:Ty) (tid:TypeId) (xs:List e.den)
 |Gg (e:Ty) (tid:TypeId) (xs:List e.den)
 |var (tid:TypeId) (vs:List AC)
 |Bj (e:Ty) (te:TypeId) (rows:List (List e.den)) (out:Option Nat) (kp:Option (Nat×Nat))
 |Ul (v:Ty) (m:ByteArray->Option v.den)
structure St where
 tmps:List AV
 heap:List (Nat×OB)
def As:List (Nat×OB)->Nat->Option OB
 | [],_=>none
 |(k,b)::r,l=>if k=l then some b else As r l
def St.get (st:St) (t:Nat):AV:=st.tmps.getD t .undef
def St.at (st:St) (l:Nat):Option OB:=As st.heap l
def Rr {α:Type} :List α->Nat->α->List α
 | [],_,_=> []
 |_::r,0,y=>y::r
 |x::r,n+1,y=>x::Rr r n y
def St.put (st:St) (dst:Option Tmp) (v:AV):St:=
 match dst with
 |some d=> {st with tmps:=Rr st.tmps d v}
 |none=>st
def AV.map (f:AC->AC):AV->AV
 | .at a=> .at (f a)
 | .agg cs=> .agg (cs.map f)
 | .aa fr τ x=> .aa fr τ x
 | .Mh l=> .Mh (l.map λp=>(p.1,p.2.map f))
def OB.map (f:AC->AC):OB->OB
 | .arr fr tr e t xs=> .arr fr tr e t xs
 | .Gg e t xs=> .Gg e t xs
 | .var t vs=> .var t (vs.map f)
 | .Bj e te rows out kp=> .Bj e te rows out kp
 | .Ul v m=> .Ul v m
def Yy:List (Nat×OB)->Nat->List (Nat×OB)
 | [],_=> []
 |(k,b)::r,l=>if k=l then Yy r l else (k,b)::Yy r l
def St.Kr (st:St) (f:AC->AC):St:= {tmps:=st.tmps.map (·.map f),heap:=st.heap.map λp=>(p.1,p.2.map f)}
def Cg (l:Nat):AC->AC
 | .own k off len=>if k=l then .undef else .own k off len
 | .Gr k i=>if k=l then .undef else .Gr k i
 | .Jp k i=>if k=l then .undef else .Jp k i
 | .clo f Eb=>if (Eb.map (·.1)).contains l then .undef else .clo f Eb
 | .Ka k=>if k=l then .undef else .Ka k
 | .sub k i c=>if k=l then .undef else .sub k i c
 | .Jn k i c=>if k=l then .undef else .Jn k i c
 |a=>a
def St.forget (st:St) (l:Nat):St:=let s:=st.Kr (Cg l); {s with heap:=Yy s.heap l}
def Cq (l:Nat) (fr:Bool) (e:Ty) (xs:List e.den):AC->AC
 | .own k off len=>if k=l then .data fr (.slice e) ((xs.drop off).take len) else .own k off len
 | .Jp k i=>if k=l then .undef else .Jp k i
 | .Gr k i=>if k=l then .undef else .Gr k i
 | .clo f Eb=>if (Eb.map (·.1)).contains l then .undef else .clo f Eb
 | .Ka k=>if k=l then .undef else .Ka k
 | .sub k i c=>if k=l then .undef else .sub k i c
 | .Jn k i c=>if k=l then .undef else .Jn k i c
 |a=>a
def St.freeze (st:St) (l:Nat) (fr:Bool) (e:Ty) (xs:List e.den):St:=let s:=st.Kr (Cq l fr e xs); {s with heap:=Yy s.heap l}
def Gm (l:Nat) (v:Ty) (m:ByteArray->Option v.den):AC->AC
 | .Ka k=>if k=l then .data false (.smap v) m else .Ka k
 | .own k off len=>if k=l then .undef else .own k off len
 | .Jp k i=>if k=l then .undef else .Jp k i
 | .Gr k i=>if k=l then .undef else .Gr k i
 | .clo f Eb=>if (Eb.map (·.1)).contains l then .undef else .clo f Eb
 | .sub k i c=>if k=l then .undef else .sub k i c
 | .Jn k i c=>if k=l then .undef else .Jn k i c
 |a=>a
def St.Hy (st:St) (l:Nat) (v:Ty) (m:ByteArray->Option v.den):St:=let s:=st.Kr (Gm l v m); {s with heap:=Yy s.heap l}
def Nu:List (Nat×OB)->Nat->OB->List (Nat×OB)
 | [],l,b=> [(l,b)]
 |(k,c)::r,l,b=>if l<k then (l,b)::(k,c)::r else (k,c)::Nu r l b
def St.new (st:St) (l:Nat) (b:OB):St:=let s:=st.forget l; {s with heap:=Nu s.heap l b}
def Yr:List (Nat×OB)->Nat->OB->List (Nat×OB)
 | [],_,_=> []
 |(k,b)::r,l,b'=>if k=l then (k,b')::r else (k,b)::Yr r l b'
def St.Jm (st:St) (l:Nat) (b:OB):St:= {st with heap:=Yr st.heap l b}
structure Tab where
 ty:TypeId->Option Ty
 elem:TypeId->Option TypeId
 mapOf:TypeId->Option Ty
 off:TypeId->Nat->Option (Nat×TypeId)
 rU:Bool:=true
 AA:Bool:=false
 marks:List Nat:= []
 parts:List Nat:= []
 Aca:List TypeId:= []
def Ty.zero:(τ:Ty)->τ.den
 | .int _=>(0:Int)
 | .bool=>false
 | .str=>(ByteArray.empty)
 | .slice _=> []
 | .oslice _=>none
 | .ptr a=>a.zero
 | .optr _=>none
 | .smap _=> λ_=>none
 | .clo _ c=>c.zero
 | .unit=>()
 | .pair a r=>(a.zero,r.zero)
def Rj (fr:Bool):(τ:Ty)->τ.den->List AC
 | .unit,_=> []
 | .pair a r,x=>Rj fr a x.1++Rj fr r x.2
 |τ,x=> [.data fr τ x]
def fC (fr:Bool):(τ Nr:Ty)->Nr.den->Option (Bool×τ.den)
 | .slice e, .oslice e',x=>if h:e'=e then some (fr,((h▸x:Option (List e.den)).getD [])) else none
 | .optr a, .ptr a',x=>if h:a'=a then some (fr,some (h▸x:a.den)) else none
 |_,_,_=>none
def Dm (st:St):(τ:Ty)->AC->Option (Bool×τ.den)
 |τ, .data fr Nr x=>if h:Nr=τ then some (fr||τ.flat,h▸x) else fC fr τ Nr x
 | .slice _, .Lo=>some (true,[])
 | .oslice _, .Lo=>some (true,none)
 | .optr _, .Uk=>some (true,none)
 | .slice e, .own l off len=>match st.at l with
  |some (.arr fr _ e' _ xs)=>if h:e'=e then some (fr,((h▸xs:List e.den).drop off).take len) else none
  |some (.Gg e' _ xs)=>if h:e'=e then some (true,((h▸xs:List e.den).drop off).take len) else none
  |some (.Bj e' _ rows none _)=>if h: .slice e'=e then some (false,((h▸(rows:List (Ty.slice e').den):List e.den).drop off).take len) else none
  |_=>none
 | .slice e, .sub l i _=>match st.at l with
  |some (.Bj e' _ rows none _)=>if h:e'=e then some (false,(h▸(rows.getD i []:List e'.den):List e.den)) else none
  |_=>none
 | .smap v, .Ka l=>match st.at l with
  |some (.Ul v' m)=>if h:v'=v then some (true,h▸m) else none
  |_=>none
 |_,_=>none
def Eo (st:St):(τ:Ty)->List AC->Option (Bool×τ.den)
 | .unit,[]=>some (true,())
 | .unit,_::_=>none
 | .pair a r,cs=>
  match Eo st a (cs.take a.size),Eo st r (cs.drop a.size) with
  |some (f1,x),some (f2,y)=>some (f1&&f2,(x,y))
  |_,_=>none
 |τ,[c]=>Dm st τ c
 |_,_=>none
def Tl (st:St) (a:Ty) (l i:Nat):Option (Bool×a.den):=
 match st.at l with
 |some (.var _ vs)=>Eo st a ((vs.drop i).take a.size)
 |_=>none
def Kt (st:St):(τ:Ty)->List (Nat×Nat)->Option (Bool×τ.den)
 | .unit,[]=>some (true,())
 | .pair (.ptr a) r,(l,i)::cs=>
  match Tl st a l i,Kt st r cs with
  |some (f1,x),some (f2,y)=>some (f1&&f2,(x,y))
  |_,_=>none
 |_,_=>none
def Jk (st:St):(τ:Ty)->AC->Option (Bool×τ.den)
 | .ptr a, .Gr l i=>Tl st a l i
 | .optr a, .Gr l i=>(Tl st a l i).map λp=>(p.1,some p.2)
 | .clo f τ, .clo g Eb=>if g=f/\f<1000000000 then Kt st τ Eb else none
 |τ,c=>Dm st τ c
def Ez (st:St) (τ:Ty):AV->Option (Bool×τ.den)
 | .at (.data fr Nr x)=>if h:Nr=τ then some (fr||τ.flat,h▸x) else if τ.Ap then none else Jk st τ (.data fr Nr x)
 | .at a=>if τ.Ap then none else Jk st τ a
 | .agg cs=>if τ.Ap then Eo st τ cs else none
 |_=>none
def Dr (st:St):(τ:Ty)->List AV->Option (Bool×τ.den)
 | .unit,[]=>some (true,())
 | .pair a r,v::vs=>
  match Ez st a v,Dr st r vs with
  |some (f1,x),some (f2,y)=>some (f1&&f2,(x,y))
  |_,_=>none
 |_,_=>none
def AC.settled:AC->Bool
 | .data _ _ _| .Lo| .Uk=>true
 |_=>false
def AV.settled:AV->Bool
 | .at a=>a.settled
 | .agg cs=>cs.all (·.settled)
 | .aa _ _ _=>true
 | .Mh _=>false
inductive CK where
 |Gb (τ:Ty)
 |row (e:Ty) (te:TypeId)
 |Ha (e:Ty) (te:TypeId)
 |part (e:Ty) (te:TypeId)
 |Bj (e:Ty) (te:TypeId) (kp:Bool)
@[reducible] def CK.den:CK->Type
 | .Gb τ=>τ.den
 | .row e _=>List e.den
 | .Ha e _=>List e.den
 | .part e _=>List e.den×Nat×Nat
 | .Bj e _ _=>List (List e.den)
def CK.flat:CK->Bool
 | .Gb τ=>τ.flat
 | .row e _=>e.flat
 | .Ha _ _=>true
 | .part e _=>e.flat
 | .Bj _ _ _=>false
def CK.XQ:CK->Bool
 | .Ha _ _=>true
 |_=>false
@[reducible] def CKs.den:List CK->Type
 | []=>Unit
 |c::r=>c.den×CKs.den r
@[reducible] def IOs.den:List (Bool×CK)->Type
 | []=>Unit
 |(true, .Gb _)::r=>IOs.den r
 |(true, .row e _)::r=>List e.den×IOs.den r
 |(true, .Ha e _)::r=>List e.den×IOs.den r
 |(true, .part e _)::r=>List e.den×IOs.den r
 |(true, .Bj _ _ _)::r=>IOs.den r
 |(false,_)::r=>IOs.den r
@[reducible] def Ins.den:List (Bool×CK)->Type
 | []=>Unit
 |p::r=>p.2.den×Ins.den r
structure MSpec where
 ptr:Option (TypeId×Nat):=none
 Ke:List (Option Nat)
 ins:List (Bool×CK)
 Hc:Bool
 Iw:List (Option Nat)
 outs:List CK
 fn:Ins.den ins->Option (CKs.den outs×IOs.den ins)
 keeps:List (Nat×Nat):= []
 Fw:Ins.den ins->Nat:= λ_=>0
 rp:Option TypeId:=none
structure Spec where
 arg:Ty
 res:Ty
 Hc:Bool
 fresh:Bool
 fn:arg.den->Option res.den
inductive iB where
 |q (s:Spec)
 |m (s:MSpec)
 |b (s:Spec) (m:MSpec)
def MSpec.flat (s:MSpec):Bool:=s.outs.all (·.flat)&&s.ins.all λp=>!p.1||p.2.flat
def MSpec.PX (s:MSpec):Bool:=s.flat||s.outs.all λc=>!c.XQ
abbrev Env:=FuncId->Option iB
def kF:Value->AV
 | .int k n=> .at (.data true (.int k) n)
 | .bool b=> .at (.data true .bool b)
 | .string s=> .at (.data true .str s)
 | .slice none 0 0=> .at .Lo
 | .pointer none=> .at .Uk
 |_=> .undef
def St.ev (st:St):Operand->AV
 | .tmp t=>st.get t
 | .const v=>kF v
 | .func f=> .at (.clo f [])
 |_=> .undef
def idx {α:Type} (xs:List α) (i:Int):Option α:=if 0<=i then xs[i.toNat]? else none
def XP (n:Int) (len:Nat):Bool:=decide (0<=n)&&decide (n<len)
theorem Tc {n:Int} {len:Nat} :XP n len=true↔0<=n/\n<len:=by simp [XP]
def Zh (k:IntKind) (n:Int):Option AV:=some (.at (.data true (.int k) n))
def Ov (b:Bool):Option AV:=some (.at (.data true .bool b))
def q7 (op:BinOp) (k:IntKind) (a b:Int):Option AV:=
 match op with
 | .add=>Zh k (k.wrap (a+b))
 | .sub=>Zh k (k.wrap (a-b))
 | .mul=>Zh k (k.wrap (a*b))
 | .quo=>if b=0 then none else Zh k (k.wrap (a.tdiv b))
 | .rem=>if b=0 then none else Zh k (a.tmod b)
 | .and=>Zh k (k.wrap (BitVec.ofInt k.bits a&&&BitVec.ofInt k.bits b).toNat)
 | .or=>Zh k (k.wrap (BitVec.ofInt k.bits a|||BitVec.ofInt k.bits b).toNat)
 | .eql=>Ov (a==b)
 | .neq=>Ov (a !=b)
 | .lss=>Ov (decide (a<b))
 | .leq=>Ov (decide (a<=b))
 | .gtr=>Ov (decide (a>b))
 | .geq=>Ov (decide (a>=b))
 |_=>none
def evalBin (op:BinOp) (x y:AV):Option AV:=
 match x,y with
 | .at (.data _ (.int k) a), .at (.data _ (.int k') b)=>
  match op with
  | .shl=>if b<0 then none else Zh k (k.wrap (a*2^(min b.toNat k.bits)))
  | .shr=>if b<0 then none else Zh k (a.fdiv (2^(min b.toNat k.bits)))
  |_=>if k=k' then q7 op k a b else none
 | .at (.data _ .str a), .at (.data _ .str b)=>
  match op with
  | .eql=>Ov (a.toList==b.toList)
  | .neq=>Ov (!(a.toList==b.toList))
  | .add=>if a.size+b.size<=4294967296 then some (.at (.data true .str (a++b))) else none
  |_=>none
 |_,_=>none
def vu (op:UnOp) (x:AV):Option AV:=
 match op,x with
 | .not, .at (.data _ .bool b)=>Ov (!b)
 | .neg, .at (.data _ (.int k) n)=>Zh k (k.wrap (0-n))
 |_,_=>none
def ck (c x y:AV):Option AV:=
 match c with
 | .at (.data _ .bool b)=>some (if b then x else y)
 |_=>none
def yN:AV->Option Int
 | .at .Lo=>some 0
 | .at (.data _ (.slice _) xs)=>some xs.length
 | .at (.data _ .str s)=>some s.size
 | .at (.own _ _ len)=>some (len:Int)
 |_=>none
def PR:AV->Option Int
 | .at .Lo=>some 0
 | .at (.data _ (.slice _) xs)=>some xs.length
 | .at (.own _ _ len)=>some (len:Int)
 |_=>none
def yP (st:St):AV->Option Int
 | .at (.sub l i _)=>match st.at l with
  |some (.Bj _ _ rows none _)=>some (rows.getD i []).length
  |_=>none
 |v=>PR v
def HB:AV->Option Int
 | .at (.data _ .str s)=>some s.size
 |_=>none
def Kw:(τ:Ty)->τ.den->Nat->(ρ:Ty)->Option ρ.den
 | .pair a r,x,o,ρ=>if o=0 then (if h:a=ρ then some (h▸x.1) else none) else if o<a.size then none else Kw r x.2 (o-a.size) ρ
 |_,_,_,_=>none
def dU (l i:Nat):(c:Nat)->(τ:Ty)->τ.den->List AC
 |_, .unit,_=> []
 |c, .pair a r,x=>dU l i c a x.1++dU l i (c+a.size) r x.2
 |c,τ,x=> [if τ.flat then .data true τ x else .sub l i c]
variable (T:Tab)
def Po (st:St) (t:TypeId) (p:AV):Option AV:=
 match T.ty t,p with
 |some τ, .at (.data fr (.ptr Nr) x)=>if Nr=τ then some (.at (.data (fr||Nr.flat) Nr x)) else none
 |some τ, .at (.data fr (.optr Nr) (some x))=>if Nr=τ then some (.at (.data (fr||Nr.flat) Nr x)) else none
 |some τ, .at (.Gr l i)=>match st.at l with
  |some (.var _ vs)=>if τ.Ap then (if i+τ.size<=vs.length then some (.agg ((vs.drop i).take τ.size)) else none) else vs[i]?.map .at
  |_=>none
 |some τ, .at (.Jp l i)=>match st.at l with
  |some (.arr fr _ e _ xs)=>if e=τ then xs[i]?.map λx=> .at (.data (fr||e.flat) e x) else none
  |some (.Gg e _ xs)=>if e=τ then xs[i]?.map λx=>if e.Ap then .agg (dU l i 0 e x) else .at ((dU l i 0 e x).headD .undef) else none
  |some (.Bj _ _ _ none _)=>if τ.Ap then none else some (.at (.sub l i 0))
  |_=>none
 |some τ, .at (.Jn l i j)=>match st.at l with
  |some (.Bj e _ rows none _)=>if e=τ then some (.at (.data e.flat e ((rows.getD i []).getD j e.zero))) else none
  |_=>none
 |_,_=>none
def Ki (st:St) (t:TypeId) (x i:AV):Option AV:=
 match x,i with
 | .at (.data fr (.slice e) xs), .at (.data _ (.int _) n)=>if (T.elem t).bind T.ty=some e then (idx xs n).map λx=> .at (.data fr (.ptr e) x) else none
 | .at (.own l off len), .at (.data _ (.int _) n)=>match st.at l with
  |some (.arr _ _ e tid _)=>if T.elem t=some tid/\T.ty tid=some e/\XP n len=true then some (.at (.Jp l (off+n.toNat))) else none
  |some (.Gg e tid _)=>if T.elem t=some tid/\T.ty tid=some e/\XP n len=true then some (.at (.Jp l (off+n.toNat))) else none
  |some (.Bj _ te _ _ _)=>if T.elem t=some te/\(T.ty te).map Ty.size=some 1/\XP n len=true then some (.at (.Jp l (off+n.toNat))) else none
  |_=>none
 | .at (.sub l i _), .at (.data _ (.int _) n)=>match st.at l with
  |some (.Bj e _ rows none _)=>if ((T.elem t).bind T.ty).map Ty.size=some e.size/\XP n (rows.getD i []).length=true then some (.at (.Jn l i n.toNat)) else none
  |_=>none
 |_,_=>none
def Nl (s:TypeId) (x:AV) (f:Nat):Option AV:=
 match T.off s f,x with
 |some (o,_), .at (.Gr l i)=>some (.at (.Gr l (i+o)))
 |some (o,t), .at (.data fr (.ptr τ) x)=>if T.ty s=some τ then (T.ty t).bind λρ=>(Kw τ x o ρ).map λy=> .at (.data fr (.ptr ρ) y) else none
 |some (o,t), .at (.data fr (.optr τ) (some x))=>if T.ty s=some τ then (T.ty t).bind λρ=>(Kw τ x o ρ).map λy=> .at (.data fr (.ptr ρ) y) else none
 |_,_=>none
def mn (s:TypeId) (x:AV) (f:Nat):Option AV:=
 match T.off s f,x with
 |some (o,t), .agg cs=>(T.ty t).bind λρ=>if ρ.Ap then none else cs[o]?.map .at
 |some (o,t), .at (.data fr τ x)=>if T.ty s=some τ then (T.ty t).bind λρ=>(Kw τ x o ρ).map λy=> .at (.data fr ρ y) else none
 |_,_=>none
def MI (v:Option AV) (d:Int):Option Int:=
 match v with
 |none=>some d
 |some (.at (.data _ (.int _) n))=>some n
 |_=>none
def cm (st:St) (t:TypeId) (x:AV) (lo hi:Option AV):Option AV:=
 match yN x with
 |none=>none
 |some n=>
  match MI lo 0,MI hi n with
  |some l,some h=>
   if 0<=l/\l<=h/\h<=n then
    match x with
    | .at (.data fr (.slice e) xs)=>if (T.elem t).bind T.ty=some e then some (.at (.data fr (.slice e) ((xs.take h.toNat).drop l.toNat))) else none
    | .at (.own k off _)=>match st.at k with
     |some (.arr _ _ e tid _)=>if T.elem t=some tid/\T.ty tid=some e then some (.at (.own k (off+l.toNat) (h.toNat-l.toNat))) else none
     |_=>none
    | .at (.data _ .str s)=>if T.ty t=some .str then some (.at (.data true .str (s.extract l.toNat h.toNat))) else none
    |_=>none
   else none
  |_,_=>none
def gR (t:TypeId) (x i:AV):Option AV:=
 match x,i with
 | .at (.data _ .str s), .at (.data _ (.int _) n)=>if T.ty t=some .str then (if 0<=n then s[n.toNat]?.map λb=> .at (.data true (.int .u8) b.toNat) else none) else none
 |_,_=>none
def Od (Γ:Env) (st:St) (f:FuncId) (args:List AV):Option AV:=
 match Γ f with
 |some (.q s)=>
  if s.fresh||s.res.flat||args.all (·.settled) then
   match Dr st s.arg args with
   |none=>none
   |some (_,x)=>(s.fn x).map λy=>if s.Hc then .aa (s.fresh||s.res.flat) s.res y else .at (.data (s.fresh||s.res.flat) s.res y)
  else none
 |_=>none
def Ty.chain:Ty->Bool
 | .unit=>true
 | .pair a r=>!a.Ap&&r.chain
 |_=>false
def ak (fr:Bool):(τ:Ty)->τ.den->List AV
 | .pair a r,x=> .at (.data fr a x.1)::ak fr r x.2
 |_,_=> []
def Wm (Γ:Env) (st:St) (v:AV) (args:List AV):Option AV:=
 match v with
 | .at (.data fr (.clo f τ) x)=>if τ.chain then (if f<1000000000 then Od Γ st f (args++ak fr τ x) else Od Γ st (f-1000000000) (ak fr τ x++args)) else none
 | .at (.clo f Eb)=>Od Γ st f (args++Eb.map λp=> .at (.Gr p.1 p.2))
 |_=>none
def jB:List AV->Option (List (Nat×Nat))
 | []=>some []
 | .at (.Gr l i)::r=>(jB r).map λc=>(l,i)::c
 |_=>none
def dg (st:St) (t:TypeId) (m k:AV) (ok:Bool):Option AV:=
 match T.mapOf t,k with
 |some v, .at (.data _ .str s)=>
  match Ez st (.smap v) m with
  |some (_,f)=>some (if ok then .aa true (.pair v (.pair .bool .unit)) (((f s).getD v.zero),(f s).isSome,()) else .at (.data true v ((f s).getD v.zero)))
  |none=>none
 |_,_=>none
def cj (x:AV):Option Bool:=
 match x with
 | .at .Lo=>some true
 | .at (.data _ (.oslice _) x)=>some x.isNone
 |_=>none
def cg (x:AV):Option Bool:=
 match x with
 | .at .Uk=>some true
 | .at (.Gr _ _)=>some false
 | .at (.data _ (.optr _) x)=>some x.isNone
 | .at (.data _ (.ptr _) _)=>some false
 |_=>none
def PK:Option Ty->Bool
 |some (.ptr _)=>true
 |some (.optr _)=>true
 |_=>false
def bG (fr:Bool):(τ:Ty)->τ.den->Nat->Option AV
 | .pair a _,x,0=>some (.at (.data (fr||a.flat) a x.1))
 | .pair _ r,x,n+1=>bG fr r x.2 n
 |_,_,_=>none
def Ac6:Bool×List AC->Option AV
 |(true,cs)=>some (.agg cs)
 |(false,[a])=>some (.at a)
 |_=>none
def RY (l:List (Bool×List AC)) (i:Nat):Option AV:=(l[i]?).bind Ac6
def vq (mx:Bool):List AV->Option AV
 | [.at (.data _ (.int k) a), .at (.data _ (.int k') b)]=>if k=k' then Zh k (if mx then (if b>a then b else a) else (if b<a then b else a)) else none
 |_=>none
def Sp (op:BinOp) (t:TypeId) (x y:AV):Option AV:=
 match op,x,y with
 | .eql,x, .at .Lo=>if (T.elem t).isSome then (cj x).bind Ov else none
 | .eql,x, .at .Uk=>if PK (T.ty t) then (cg x).bind Ov else none
 | .neq,x, .at .Lo=>if (T.elem t).isSome then (cj x).bind λb=>Ov (!b) else none
 | .neq,x, .at .Uk=>if PK (T.ty t) then (cg x).bind λb=>Ov (!b) else none
 | .eql, .at (.data _ .bool a), .at (.data _ .bool b)=>if T.ty t=some .bool then Ov (a==b) else none
 | .neq, .at (.data _ .bool a), .at (.data _ .bool b)=>if T.ty t=some .bool then Ov (!(a==b)) else none
 |op,x,y=>evalBin op x y
def bytesOf (l:List Int):ByteArray:=⟨(l.map λn=>UInt8.ofNat n.toNat).toArray⟩
def mQ:AV->AV
 | .at (.data fr (.oslice e) x)=> .at (.data fr (.slice e) (x.getD []))
 |v=>v
def Ep (Γ:Env) (st:St) (o:Oper):Option AV:=
 match o.op with
 | .move x=>some (st.ev x)
 | .assign x=>some (st.ev x)
 | .pick c a b=>ck (st.ev c) (st.ev a) (st.ev b)
 | .load t a=>Po T st t (st.ev a)
 | .nilCheck x=>match st.ev x with
  | .at (.data fr (.ptr τ) x)=>some (.at (.data fr (.ptr τ) x))
  | .at (.data fr (.optr τ) (some x))=>some (.at (.data fr (.ptr τ) x))
  | .at (.Gr l i)=>some (.at (.Gr l i))
  | .at (.Jp l i)=>some (.at (.Jp l i))
  |_=>none
 | .binOp op t x y _=>Sp T op t (st.ev x) (st.ev y)
 | .unOp op _ x=>vu op (st.ev x)
 | .convert s t x=>match T.ty s,T.ty t,st.ev x with
  |some _,some (.int k), .at (.data _ (.int _) n)=>Zh k (k.wrap n)
  |some (.slice (.int .u8)),some .str,_=>(Ez st (.slice (.int .u8)) (st.ev x)).map λp=> .at (.data true .str (bytesOf p.2))
  |_,_,_=>none
 | .slice t x lo hi mx=>if mx.isSome then none else cm T st t (st.ev x) (lo.map st.ev) (hi.map st.ev)
 | .fieldAddr s x f=>Nl T s (st.ev x) f
 | .field s x f=>mn T s (st.ev x) f
 | .indexAddr t x i=>Ki T st t (mQ (st.ev x)) (st.ev i)
 | .index t x i=>gR T t (st.ev x) (st.ev i)
 | .extract x i=>match st.ev x with
  | .aa fr τ y=>bG fr τ y i
  | .Mh l=>RY l i
  |_=>none
 | .call {callee:= .value (.func f),args, .. } =>Od Γ st f (args.toList.map st.ev)
 | .call {callee:= .value (.tmp t),args, .. } =>Wm Γ st (st.get t) (args.toList.map st.ev)
 | .makeFunc (.func f) first Eb=>match first.toList.map st.ev with
  | []=>(jB (Eb.toList.map st.ev)).map λc=> .at (.clo f c)
  | [.at (.data fr τ x)]=>if Eb.isEmpty&&!τ.Ap then some (.at (.data fr (.clo (f+1000000000) (.pair τ .unit)) (x,()))) else none
  |_=>none
 | .lookup t m k ok=>dg T st t (st.ev m) (st.ev k) ok
 | .call {callee:= .builtin .len,args,argTypes} =>match args.toList,argTypes.toList with
  | [x],[t]=>match T.ty t with
   |some (.slice _)=>(yP st (st.ev x)).bind (Zh .i64)
   |some (.oslice _)=>(yP st (mQ (st.ev x))).bind (Zh .i64)
   |some .str=>(HB (st.ev x)).bind (Zh .i64)
   |_=>none
  |_,_=>none
 | .call {callee:= .builtin .min,args, .. } =>vq false (args.toList.map st.ev)
 | .call {callee:= .builtin .max,args, .. } =>vq true (args.toList.map st.ev)
 |_=>none
def Wf (st:St) (t:Option Tmp):Option (Option Bool):=
 match t with
 |some t=>match st.get t with
  | .at (.data _ .bool b)=>some (some b)
  | .at .skip=>some none
  |_=>none
 |none=>none
end Go.Proofs.Ytkkdpknjohcekaa
