/-
  Part 2 of the proof that the statement FnIterativeDeepening holds.
-/
import Derived.Test.YtkkdpknjohcekaaGreatCFIterativeDeepening00
namespace Go.Proofs.YtkkdpknjohcekaaGreat
open Go.RowKit
inductive AC where
 |undef
 |skip
 |Mo
 |Vw
 |data (fr:Bool) (τ:Ty) (x:τ.den)
 |own (l off len:Nat)
 |Hs (l i:Nat)
 |Ku (l i:Nat)
 |clo (f:Nat) (Ec:List (Nat×Nat))
 |Lb (l:Nat)
 |sub (l i c:Nat)
 |Kr (l i j:Nat)
inductive AV where
 |at (a:AC)
 |agg (cs:List AC)
 |bw (fr:Bool) (τ:Ty) (x:τ.den)
 |Nd (l:List (Bool×List AC))
@[reducible] def AV.undef:AV:= .at .undef
inductive OB where
 |arr (fr tr:Bool) (e:Ty) (tid:TypeId) (xs:List e.den)
 |Hf (e:Ty) (tid:TypeId) (xs:List e.den)
 |var (tid:TypeId) (vs:List AC)
 |Bn (e:Ty) (te:TypeId) (rows:List (List e.den)) (out:Option Nat) (kp:Option (Nat×Nat))
 |Vx (v:Ty) (m:ByteArray->Option v.den)
structure St where
 tmps:List AV
 heap:List (Nat×OB)
def Av:List (Nat×OB)->Nat->Option OB
 | [],_=>none
 |(k,b)::r,l=>if k=l then some b else Av r l
def St.get (st:St) (t:Nat):AV:=st.tmps.getD t .undef
def St.at (st:St) (l:Nat):Option OB:=Av st.heap l
def Tg {α:Type} :List α->Nat->α->List α
 | [],_,_=> []
 |_::r,0,y=>y::r
 |x::r,n+1,y=>x::Tg r n y
def St.put (st:St) (dst:Option Tmp) (v:AV):St:=
 match dst with
 |some d=> {st with tmps:=Tg st.tmps d v}
 |none=>st
def AV.map (f:AC->AC):AV->AV
 | .at a=> .at (f a)
 | .agg cs=> .agg (cs.map f)
 | .bw fr τ x=> .bw fr τ x
 | .Nd l=> .Nd (l.map λp=>(p.1,p.2.map f))
def OB.map (f:AC->AC):OB->OB
 | .arr fr tr e t xs=> .arr fr tr e t xs
 | .Hf e t xs=> .Hf e t xs
 | .var t vs=> .var t (vs.map f)
 | .Bn e te rows out kp=> .Bn e te rows out kp
 | .Vx v m=> .Vx v m
def aD:List (Nat×OB)->Nat->List (Nat×OB)
 | [],_=> []
 |(k,b)::r,l=>if k=l then aD r l else (k,b)::aD r l
def St.Ln (st:St) (f:AC->AC):St:= {tmps:=st.tmps.map (·.map f),heap:=st.heap.map λp=>(p.1,p.2.map f)}
def Ck (l:Nat):AC->AC
 | .own k off len=>if k=l then .undef else .own k off len
 | .Hs k i=>if k=l then .undef else .Hs k i
 | .Ku k i=>if k=l then .undef else .Ku k i
 | .clo f Ec=>if (Ec.map (·.1)).contains l then .undef else .clo f Ec
 | .Lb k=>if k=l then .undef else .Lb k
 | .sub k i c=>if k=l then .undef else .sub k i c
 | .Kr k i c=>if k=l then .undef else .Kr k i c
 |a=>a
def St.forget (st:St) (l:Nat):St:=let s:=st.Ln (Ck l); {s with heap:=aD s.heap l}
def Cv (l:Nat) (fr:Bool) (e:Ty) (xs:List e.den):AC->AC
 | .own k off len=>if k=l then .data fr (.slice e) ((xs.drop off).take len) else .own k off len
 | .Ku k i=>if k=l then .undef else .Ku k i
 | .Hs k i=>if k=l then .undef else .Hs k i
 | .clo f Ec=>if (Ec.map (·.1)).contains l then .undef else .clo f Ec
 | .Lb k=>if k=l then .undef else .Lb k
 | .sub k i c=>if k=l then .undef else .sub k i c
 | .Kr k i c=>if k=l then .undef else .Kr k i c
 |a=>a
def St.freeze (st:St) (l:Nat) (fr:Bool) (e:Ty) (xs:List e.den):St:=let s:=st.Ln (Cv l fr e xs); {s with heap:=aD s.heap l}
def Hp (l:Nat) (v:Ty) (m:ByteArray->Option v.den):AC->AC
 | .Lb k=>if k=l then .data false (.smap v) m else .Lb k
 | .own k off len=>if k=l then .undef else .own k off len
 | .Ku k i=>if k=l then .undef else .Ku k i
 | .Hs k i=>if k=l then .undef else .Hs k i
 | .clo f Ec=>if (Ec.map (·.1)).contains l then .undef else .clo f Ec
 | .sub k i c=>if k=l then .undef else .sub k i c
 | .Kr k i c=>if k=l then .undef else .Kr k i c
 |a=>a
def St.Jn (st:St) (l:Nat) (v:Ty) (m:ByteArray->Option v.den):St:=let s:=st.Ln (Hp l v m); {s with heap:=aD s.heap l}
def Ox:List (Nat×OB)->Nat->OB->List (Nat×OB)
 | [],l,b=> [(l,b)]
 |(k,c)::r,l,b=>if l<k then (l,b)::(k,c)::r else (k,c)::Ox r l b
def St.new (st:St) (l:Nat) (b:OB):St:=let s:=st.forget l; {s with heap:=Ox s.heap l b}
def aw:List (Nat×OB)->Nat->OB->List (Nat×OB)
 | [],_,_=> []
 |(k,b)::r,l,b'=>if k=l then (k,b')::r else (k,b)::aw r l b'
def St.Kq (st:St) (l:Nat) (b:OB):St:= {st with heap:=aw st.heap l b}
structure Tab where
 ty:TypeId->Option Ty
 elem:TypeId->Option TypeId
 mapOf:TypeId->Option Ty
 off:TypeId->Nat->Option (Nat×TypeId)
 vn:Bool:=true
 BK:Bool:=false
 marks:List Nat:= []
 parts:List Nat:= []
 Af3:List TypeId:= []
def Ty.zero:(τ:Ty)->τ.den
 | .int _=>(0:Int)
 | .bool=>false
 | .str=>(ByteArray.empty)
 | .slice _=> []
 | .oslice _=>none
 | .ptr a=>a.zero
 | .optr _=>none
 | .smap _=> λ_=>none
 | .clo _ c=>c.zero
 | .unit=>()
 | .pair a r=>(a.zero,r.zero)
def Ta (fr:Bool):(τ:Ty)->τ.den->List AC
 | .unit,_=> []
 | .pair a r,x=>Ta fr a x.1++Ta fr r x.2
 |τ,x=> [.data fr τ x]
def iA (fr:Bool):(τ Ov:Ty)->Ov.den->Option (Bool×τ.den)
 | .slice e, .oslice e',x=>if h:e'=e then some (fr,((h▸x:Option (List e.den)).getD [])) else none
 | .optr a, .ptr a',x=>if h:a'=a then some (fr,some (h▸x:a.den)) else none
 |_,_,_=>none
def Dn (st:St):(τ:Ty)->AC->Option (Bool×τ.den)
 |τ, .data fr Ov x=>if h:Ov=τ then some (fr||τ.flat,h▸x) else iA fr τ Ov x
 | .slice _, .Mo=>some (true,[])
 | .oslice _, .Mo=>some (true,none)
 | .optr _, .Vw=>some (true,none)
 | .slice e, .own l off len=>match st.at l with
  |some (.arr fr _ e' _ xs)=>if h:e'=e then some (fr,((h▸xs:List e.den).drop off).take len) else none
  |some (.Hf e' _ xs)=>if h:e'=e then some (true,((h▸xs:List e.den).drop off).take len) else none
  |some (.Bn e' _ rows none _)=>if h: .slice e'=e then some (false,((h▸(rows:List (Ty.slice e').den):List e.den).drop off).take len) else none
  |_=>none
 | .slice e, .sub l i _=>match st.at l with
  |some (.Bn e' _ rows none _)=>if h:e'=e then some (false,(h▸(rows.getD i []:List e'.den):List e.den)) else none
  |_=>none
 | .smap v, .Lb l=>match st.at l with
  |some (.Vx v' m)=>if h:v'=v then some (true,h▸m) else none
  |_=>none
 |_,_=>none
def Ff (st:St):(τ:Ty)->List AC->Option (Bool×τ.den)
 | .unit,[]=>some (true,())
 | .unit,_::_=>none
 | .pair a r,cs=>
  match Ff st a (cs.take a.size),Ff st r (cs.drop a.size) with
  |some (f1,x),some (f2,y)=>some (f1&&f2,(x,y))
  |_,_=>none
 |τ,[c]=>Dn st τ c
 |_,_=>none
def Uv (st:St) (a:Ty) (l i:Nat):Option (Bool×a.den):=
 match st.at l with
 |some (.var _ vs)=>Ff st a ((vs.drop i).take a.size)
 |_=>none
def Lq (st:St):(τ:Ty)->List (Nat×Nat)->Option (Bool×τ.den)
 | .unit,[]=>some (true,())
 | .pair (.ptr a) r,(l,i)::cs=>
  match Uv st a l i,Lq st r cs with
  |some (f1,x),some (f2,y)=>some (f1&&f2,(x,y))
  |_,_=>none
 |_,_=>none
def Ko (st:St):(τ:Ty)->AC->Option (Bool×τ.den)
 | .ptr a, .Hs l i=>Uv st a l i
 | .optr a, .Hs l i=>(Uv st a l i).map λp=>(p.1,some p.2)
 | .clo f τ, .clo g Ec=>if g=f/\f<1000000000 then Lq st τ Ec else none
 |τ,c=>Dn st τ c
def Fw (st:St) (τ:Ty):AV->Option (Bool×τ.den)
 | .at (.data fr Ov x)=>if h:Ov=τ then some (fr||τ.flat,h▸x) else if τ.Aq then none else Ko st τ (.data fr Ov x)
 | .at a=>if τ.Aq then none else Ko st τ a
 | .agg cs=>if τ.Aq then Ff st τ cs else none
 |_=>none
def Du (st:St):(τ:Ty)->List AV->Option (Bool×τ.den)
 | .unit,[]=>some (true,())
 | .pair a r,v::vs=>
  match Fw st a v,Du st r vs with
  |some (f1,x),some (f2,y)=>some (f1&&f2,(x,y))
  |_,_=>none
 |_,_=>none
def AC.settled:AC->Bool
 | .data _ _ _| .Mo| .Vw=>true
 |_=>false
def AV.settled:AV->Bool
 | .at a=>a.settled
 | .agg cs=>cs.all (·.settled)
 | .bw _ _ _=>true
 | .Nd _=>false
inductive CK where
 |Eh (τ:Ty)
 |row (e:Ty) (te:TypeId)
 |Ij (e:Ty) (te:TypeId)
 |part (e:Ty) (te:TypeId)
 |Bn (e:Ty) (te:TypeId) (kp:Bool)
@[reducible] def CK.den:CK->Type
 | .Eh τ=>τ.den
 | .row e _=>List e.den
 | .Ij e _=>List e.den
 | .part e _=>List e.den×Nat×Nat
 | .Bn e _ _=>List (List e.den)
def CK.flat:CK->Bool
 | .Eh τ=>τ.flat
 | .row e _=>e.flat
 | .Ij _ _=>true
 | .part e _=>e.flat
 | .Bn _ _ _=>false
def CK.isX:CK->Bool
 | .Ij _ _=>true
 |_=>false
@[reducible] def CKs.den:List CK->Type
 | []=>Unit
 |c::r=>c.den×CKs.den r
@[reducible] def IOs.den:List (Bool×CK)->Type
 | []=>Unit
 |(true, .Eh _)::r=>IOs.den r
 |(true, .row e _)::r=>List e.den×IOs.den r
 |(true, .Ij e _)::r=>List e.den×IOs.den r
 |(true, .part e _)::r=>List e.den×IOs.den r
 |(true, .Bn _ _ _)::r=>IOs.den r
 |(false,_)::r=>IOs.den r
@[reducible] def Ins.den:List (Bool×CK)->Type
 | []=>Unit
 |p::r=>p.2.den×Ins.den r
structure MSpec where
 ptr:Option (TypeId×Nat):=none
 Jj:List (Option Nat)
 ins:List (Bool×CK)
 Ib:Bool
 Hv:List (Option Nat)
 outs:List CK
 fn:Ins.den ins->Option (CKs.den outs×IOs.den ins)
 keeps:List (Nat×Nat):= []
 Ft:Ins.den ins->Nat:= λ_=>0
 rp:Option TypeId:=none
structure Spec where
 arg:Ty
 res:Ty
 Ib:Bool
 fresh:Bool
 fn:arg.den->Option res.den
inductive hI where
 |q (s:Spec)
 |m (s:MSpec)
 |b (s:Spec) (m:MSpec)
def MSpec.flat (s:MSpec):Bool:=s.outs.all (·.flat)&&s.ins.all λp=>!p.1||p.2.flat
def MSpec.ZR (s:MSpec):Bool:=s.flat||s.outs.all λc=>!c.isX
abbrev Env:=FuncId->Option hI
def mT:Value->AV
 | .int k n=> .at (.data true (.int k) n)
 | .bool b=> .at (.data true .bool b)
 | .string s=> .at (.data true .str s)
 | .slice none 0 0=> .at .Mo
 | .pointer none=> .at .Vw
 |_=> .undef
def St.ev (st:St):Operand->AV
 | .tmp t=>st.get t
 | .const v=>mT v
 | .func f=> .at (.clo f [])
 |_=> .undef
def idx {α:Type} (xs:List α) (i:Int):Option α:=if 0<=i then xs[i.toNat]? else none
def inb (n:Int) (len:Nat):Bool:=decide (0<=n)&&decide (n<len)
theorem Um {n:Int} {len:Nat} :inb n len=true↔0<=n/\n<len:=by simp [inb]
def aL (k:IntKind) (n:Int):Option AV:=some (.at (.data true (.int k) n))
def Pw (b:Bool):Option AV:=some (.at (.data true .bool b))
def tq (op:BinOp) (k:IntKind) (a b:Int):Option AV:=
 match op with
 | .add=>aL k (k.wrap (a+b))
 | .sub=>aL k (k.wrap (a-b))
 | .mul=>aL k (k.wrap (a*b))
 | .quo=>if b=0 then none else aL k (k.wrap (a.tdiv b))
 | .rem=>if b=0 then none else aL k (a.tmod b)
 | .and=>aL k (k.wrap (BitVec.ofInt k.bits a&&&BitVec.ofInt k.bits b).toNat)
 | .or=>aL k (k.wrap (BitVec.ofInt k.bits a|||BitVec.ofInt k.bits b).toNat)
 | .eql=>Pw (a==b)
 | .neq=>Pw (a !=b)
 | .lss=>Pw (decide (a<b))
 | .leq=>Pw (decide (a<=b))
 | .gtr=>Pw (decide (a>b))
 | .geq=>Pw (decide (a>=b))
 |_=>none
def evalBin (op:BinOp) (x y:AV):Option AV:=
 match x,y with
 | .at (.data _ (.int k) a), .at (.data _ (.int k') b)=>
  match op with
  | .shl=>if b<0 then none else aL k (k.wrap (a*2^(min b.toNat k.bits)))
  | .shr=>if b<0 then none else aL k (a.fdiv (2^(min b.toNat k.bits)))
  |_=>if k=k' then tq op k a b else none
 | .at (.data _ .str a), .at (.data _ .str b)=>
  match op with
  | .eql=>Pw (a.toList==b.toList)
  | .neq=>Pw (!(a.toList==b.toList))
  | .add=>if a.size+b.size<=4294967296 then some (.at (.data true .str (a++b))) else none
  |_=>none
 |_,_=>none
def yE (op:UnOp) (x:AV):Option AV:=
 match op,x with
 | .not, .at (.data _ .bool b)=>Pw (!b)
 | .neg, .at (.data _ (.int k) n)=>aL k (k.wrap (0-n))
 |_,_=>none
def dW (c x y:AV):Option AV:=
 match c with
 | .at (.data _ .bool b)=>some (if b then x else y)
 |_=>none
def EE:AV->Option Int
 | .at .Mo=>some 0
 | .at (.data _ (.slice _) xs)=>some xs.length
 | .at (.data _ .str s)=>some s.size
 | .at (.own _ _ len)=>some (len:Int)
 |_=>none
def ZK:AV->Option Int
 | .at .Mo=>some 0
 | .at (.data _ (.slice _) xs)=>some xs.length
 | .at (.own _ _ len)=>some (len:Int)
 |_=>none
def EG (st:St):AV->Option Int
 | .at (.sub l i _)=>match st.at l with
  |some (.Bn _ _ rows none _)=>some (rows.getD i []).length
  |_=>none
 |v=>ZK v
def PT:AV->Option Int
 | .at (.data _ .str s)=>some s.size
 |_=>none
def Lt:(τ:Ty)->τ.den->Nat->(ρ:Ty)->Option ρ.den
 | .pair a r,x,o,ρ=>if o=0 then (if h:a=ρ then some (h▸x.1) else none) else if o<a.size then none else Lt r x.2 (o-a.size) ρ
 |_,_,_,_=>none
def fV (l i:Nat):(c:Nat)->(τ:Ty)->τ.den->List AC
 |_, .unit,_=> []
 |c, .pair a r,x=>fV l i c a x.1++fV l i (c+a.size) r x.2
 |c,τ,x=> [if τ.flat then .data true τ x else .sub l i c]
variable (T:Tab)
def Qr (st:St) (t:TypeId) (p:AV):Option AV:=
 match T.ty t,p with
 |some τ, .at (.data fr (.ptr Ov) x)=>if Ov=τ then some (.at (.data (fr||Ov.flat) Ov x)) else none
 |some τ, .at (.data fr (.optr Ov) (some x))=>if Ov=τ then some (.at (.data (fr||Ov.flat) Ov x)) else none
 |some τ, .at (.Hs l i)=>match st.at l with
  |some (.var _ vs)=>if τ.Aq then (if i+τ.size<=vs.length then some (.agg ((vs.drop i).take τ.size)) else none) else vs[i]?.map .at
  |_=>none
 |some τ, .at (.Ku l i)=>match st.at l with
  |some (.arr fr _ e _ xs)=>if e=τ then xs[i]?.map λx=> .at (.data (fr||e.flat) e x) else none
  |some (.Hf e _ xs)=>if e=τ then xs[i]?.map λx=>if e.Aq then .agg (fV l i 0 e x) else .at ((fV l i 0 e x).headD .undef) else none
  |some (.Bn _ _ _ none _)=>if τ.Aq then none else some (.at (.sub l i 0))
  |_=>none
 |some τ, .at (.Kr l i j)=>match st.at l with
  |some (.Bn e _ rows none _)=>if e=τ then some (.at (.data e.flat e ((rows.getD i []).getD j e.zero))) else none
  |_=>none
 |_,_=>none
def Lh (st:St) (t:TypeId) (x i:AV):Option AV:=
 match x,i with
 | .at (.data fr (.slice e) xs), .at (.data _ (.int _) n)=>if (T.elem t).bind T.ty=some e then (idx xs n).map λx=> .at (.data fr (.ptr e) x) else none
 | .at (.own l off len), .at (.data _ (.int _) n)=>match st.at l with
  |some (.arr _ _ e tid _)=>if T.elem t=some tid/\T.ty tid=some e/\inb n len=true then some (.at (.Ku l (off+n.toNat))) else none
  |some (.Hf e tid _)=>if T.elem t=some tid/\T.ty tid=some e/\inb n len=true then some (.at (.Ku l (off+n.toNat))) else none
  |some (.Bn _ te _ _ _)=>if T.elem t=some te/\(T.ty te).map Ty.size=some 1/\inb n len=true then some (.at (.Ku l (off+n.toNat))) else none
  |_=>none
 | .at (.sub l i _), .at (.data _ (.int _) n)=>match st.at l with
  |some (.Bn e _ rows none _)=>if ((T.elem t).bind T.ty).map Ty.size=some e.size/\inb n (rows.getD i []).length=true then some (.at (.Kr l i n.toNat)) else none
  |_=>none
 |_,_=>none
def Oj (s:TypeId) (x:AV) (f:Nat):Option AV:=
 match T.off s f,x with
 |some (o,_), .at (.Hs l i)=>some (.at (.Hs l (i+o)))
 |some (o,t), .at (.data fr (.ptr τ) x)=>if T.ty s=some τ then (T.ty t).bind λρ=>(Lt τ x o ρ).map λy=> .at (.data fr (.ptr ρ) y) else none
 |some (o,t), .at (.data fr (.optr τ) (some x))=>if T.ty s=some τ then (T.ty t).bind λρ=>(Lt τ x o ρ).map λy=> .at (.data fr (.ptr ρ) y) else none
 |_,_=>none
def oR (s:TypeId) (x:AV) (f:Nat):Option AV:=
 match T.off s f,x with
 |some (o,t), .agg cs=>(T.ty t).bind λρ=>if ρ.Aq then none else cs[o]?.map .at
 |some (o,t), .at (.data fr τ x)=>if T.ty s=some τ then (T.ty t).bind λρ=>(Lt τ x o ρ).map λy=> .at (.data fr ρ y) else none
 |_,_=>none
def VX (v:Option AV) (d:Int):Option Int:=
 match v with
 |none=>some d
 |some (.at (.data _ (.int _) n))=>some n
 |_=>none
def dX (st:St) (t:TypeId) (x:AV) (lo hi:Option AV):Option AV:=
 match EE x with
 |none=>none
 |some n=>
  match VX lo 0,VX hi n with
  |some l,some h=>
   if 0<=l/\l<=h/\h<=n then
    match x with
    | .at (.data fr (.slice e) xs)=>if (T.elem t).bind T.ty=some e then some (.at (.data fr (.slice e) ((xs.take h.toNat).drop l.toNat))) else none
    | .at (.own k off _)=>match st.at k with
     |some (.arr _ _ e tid _)=>if T.elem t=some tid/\T.ty tid=some e then some (.at (.own k (off+l.toNat) (h.toNat-l.toNat))) else none
     |_=>none
    | .at (.data _ .str s)=>if T.ty t=some .str then some (.at (.data true .str (s.extract l.toNat h.toNat))) else none
    |_=>none
   else none
  |_,_=>none
def jM (t:TypeId) (x i:AV):Option AV:=
 match x,i with
 | .at (.data _ .str s), .at (.data _ (.int _) n)=>if T.ty t=some .str then (if 0<=n then s[n.toNat]?.map λb=> .at (.data true (.int .u8) b.toNat) else none) else none
 |_,_=>none
def Pf (Γ:Env) (st:St) (f:FuncId) (args:List AV):Option AV:=
 match Γ f with
 |some (.q s)=>
  if s.fresh||s.res.flat||args.all (·.settled) then
   match Du st s.arg args with
   |none=>none
   |some (_,x)=>(s.fn x).map λy=>if s.Ib then .bw (s.fresh||s.res.flat) s.res y else .at (.data (s.fresh||s.res.flat) s.res y)
  else none
 |_=>none
def Ty.chain:Ty->Bool
 | .unit=>true
 | .pair a r=>!a.Aq&&r.chain
 |_=>false
def bE (fr:Bool):(τ:Ty)->τ.den->List AV
 | .pair a r,x=> .at (.data fr a x.1)::bE fr r x.2
 |_,_=> []
def Ya (Γ:Env) (st:St) (v:AV) (args:List AV):Option AV:=
 match v with
 | .at (.data fr (.clo f τ) x)=>if τ.chain then (if f<1000000000 then Pf Γ st f (args++bE fr τ x) else Pf Γ st (f-1000000000) (bE fr τ x++args)) else none
 | .at (.clo f Ec)=>Pf Γ st f (args++Ec.map λp=> .at (.Hs p.1 p.2))
 |_=>none
def lO:List AV->Option (List (Nat×Nat))
 | []=>some []
 | .at (.Hs l i)::r=>(lO r).map λc=>(l,i)::c
 |_=>none
def ff (st:St) (t:TypeId) (m k:AV) (ok:Bool):Option AV:=
 match T.mapOf t,k with
 |some v, .at (.data _ .str s)=>
  match Fw st (.smap v) m with
  |some (_,f)=>some (if ok then .bw true (.pair v (.pair .bool .unit)) (((f s).getD v.zero),(f s).isSome,()) else .at (.data true v ((f s).getD v.zero)))
  |none=>none
 |_,_=>none
def dV (x:AV):Option Bool:=
 match x with
 | .at .Mo=>some true
 | .at (.data _ (.oslice _) x)=>some x.isNone
 |_=>none
def dU (x:AV):Option Bool:=
 match x with
 | .at .Vw=>some true
 | .at (.Hs _ _)=>some false
 | .at (.data _ (.optr _) x)=>some x.isNone
 | .at (.data _ (.ptr _) _)=>some false
 |_=>none
def ZG:Option Ty->Bool
 |some (.ptr _)=>true
 |some (.optr _)=>true
 |_=>false
def dd (fr:Bool):(τ:Ty)->τ.den->Nat->Option AV
 | .pair a _,x,0=>some (.at (.data (fr||a.flat) a x.1))
 | .pair _ r,x,n+1=>dd fr r x.2 n
 |_,_,_=>none
def Akm:Bool×List AC->Option AV
 |(true,cs)=>some (.agg cs)
 |(false,[a])=>some (.at a)
 |_=>none
def Abh (l:List (Bool×List AC)) (i:Nat):Option AV:=(l[i]?).bind Akm
def yC (mx:Bool):List AV->Option AV
 | [.at (.data _ (.int k) a), .at (.data _ (.int k') b)]=>if k=k' then aL k (if mx then (if b>a then b else a) else (if b<a then b else a)) else none
 |_=>none
def Uf (op:BinOp) (t:TypeId) (x y:AV):Option AV:=
 match op,x,y with
 | .eql,x, .at .Mo=>if (T.elem t).isSome then (dV x).bind Pw else none
 | .eql,x, .at .Vw=>if ZG (T.ty t) then (dU x).bind Pw else none
 | .neq,x, .at .Mo=>if (T.elem t).isSome then (dV x).bind λb=>Pw (!b) else none
 | .neq,x, .at .Vw=>if ZG (T.ty t) then (dU x).bind λb=>Pw (!b) else none
 | .eql, .at (.data _ .bool a), .at (.data _ .bool b)=>if T.ty t=some .bool then Pw (a==b) else none
 | .neq, .at (.data _ .bool a), .at (.data _ .bool b)=>if T.ty t=some .bool then Pw (!(a==b)) else none
 |op,x,y=>evalBin op x y
def bytesOf (l:List Int):ByteArray:=⟨(l.map λn=>UInt8.ofNat n.toNat).toArray⟩
def px:AV->AV
 | .at (.data fr (.oslice e) x)=> .at (.data fr (.slice e) (x.getD []))
 |v=>v
def Fh (Γ:Env) (st:St) (o:Oper):Option AV:=
 match o.op with
 | .move x=>some (st.ev x)
 | .assign x=>some (st.ev x)
 | .pick c a b=>dW (st.ev c) (st.ev a) (st.ev b)
 | .load t a=>Qr T st t (st.ev a)
 | .nilCheck x=>match st.ev x with
  | .at (.data fr (.ptr τ) x)=>some (.at (.data fr (.ptr τ) x))
  | .at (.data fr (.optr τ) (some x))=>some (.at (.data fr (.ptr τ) x))
  | .at (.Hs l i)=>some (.at (.Hs l i))
  | .at (.Ku l i)=>some (.at (.Ku l i))
  |_=>none
 | .binOp op t x y _=>Uf T op t (st.ev x) (st.ev y)
 | .unOp op _ x=>yE op (st.ev x)
 | .convert s t x=>match T.ty s,T.ty t,st.ev x with
  |some _,some (.int k), .at (.data _ (.int _) n)=>aL k (k.wrap n)
  |some (.slice (.int .u8)),some .str,_=>(Fw st (.slice (.int .u8)) (st.ev x)).map λp=> .at (.data true .str (bytesOf p.2))
  |_,_,_=>none
 | .slice t x lo hi mx=>if mx.isSome then none else dX T st t (st.ev x) (lo.map st.ev) (hi.map st.ev)
 | .fieldAddr s x f=>Oj T s (st.ev x) f
 | .field s x f=>oR T s (st.ev x) f
 | .indexAddr t x i=>Lh T st t (px (st.ev x)) (st.ev i)
 | .index t x i=>jM T t (st.ev x) (st.ev i)
 | .extract x i=>match st.ev x with
  | .bw fr τ y=>dd fr τ y i
  | .Nd l=>Abh l i
  |_=>none
 | .call {callee:= .value (.func f),args, .. } =>Pf Γ st f (args.toList.map st.ev)
 | .call {callee:= .value (.tmp t),args, .. } =>Ya Γ st (st.get t) (args.toList.map st.ev)
 | .makeFunc (.func f) first Ec=>match first.toList.map st.ev with
  | []=>(lO (Ec.toList.map st.ev)).map λc=> .at (.clo f c)
  | [.at (.data fr τ x)]=>if Ec.isEmpty&&!τ.Aq then some (.at (.data fr (.clo (f+1000000000) (.pair τ .unit)) (x,()))) else none
  |_=>none
 | .lookup t m k ok=>ff T st t (st.ev m) (st.ev k) ok
 | .call {callee:= .builtin .len,args,argTypes} =>match args.toList,argTypes.toList with
  | [x],[t]=>match T.ty t with
   |some (.slice _)=>(EG st (st.ev x)).bind (aL .i64)
   |some (.oslice _)=>(EG st (px (st.ev x))).bind (aL .i64)
   |some .str=>(PT (st.ev x)).bind (aL .i64)
   |_=>none
  |_,_=>none
 | .call {callee:= .builtin .min,args, .. } =>yC false (args.toList.map st.ev)
 | .call {callee:= .builtin .max,args, .. } =>yC true (args.toList.map st.ev)
 |_=>none
def Xt (st:St) (t:Option Tmp):Option (Option Bool):=
 match t with
 |some t=>match st.get t with
  | .at (.data _ .bool b)=>some (some b)
  | .at .skip=>some none
  |_=>none
 |none=>none
end Go.Proofs.YtkkdpknjohcekaaGreat
