/-
  Part 2 of the proof that the statement FnExactMethodLength holds.
-/
import Derived.Test.YtjbdmibbbpdnnaaCMethodLength00
namespace Go.Proofs.Ytjbdmibbbpdnnaa
open Go.RowKit
inductive AC where
 |undef
 |skip
 |Hk
 |Pw
 |data (fr:Bool) (τ:Ty) (x:τ.den)
 |own (l off len:Nat)
 |Dz (l i:Nat)
 |Gc (l i:Nat)
 |clo (f:Nat) (Bx:List (Nat×Nat))
 |Gi (l:Nat)
 |sub (l i c:Nat)
 |Ga (l i j:Nat)
inductive AV where
 |at (a:AC)
 |agg (cs:List AC)
 |Uk (fr:Bool) (τ:Ty) (x:τ.den)
 |Jg (l:List (Bool×List AC))
@[reducible] def AV.undef:AV:= .at .undef
inductive OB where
 |arr (fr tr:Bool) (e:Ty) (tid:TypeId) (xs:List e.den)
 |Dj (e:Ty) (tid:TypeId) (xs:List e.den)
 |var (tid:TypeId) (vs:List AC)
 |Ak (e:Ty) (te:TypeId) (rows:List (List e.den)) (out:Option Nat) (kp:Option (Nat×Nat))
 |On (v:Ty) (m:ByteArray->Option v.den)
structure St where
 tmps:List AV
 heap:List (Nat×OB)
def Ae:List (Nat×OB)->Nat->Option OB
 | [],_=>none
 |(k,b)::r,l=>if k=l then some b else Ae r l
def St.get (st:St) (t:Nat):AV:=st.tmps.getD t .undef
def St.at (st:St) (l:Nat):Option OB:=Ae st.heap l
def Nv {α:Type} :List α->Nat->α->List α
 | [],_,_=> []
 |_::r,0,y=>y::r
 |x::r,n+1,y=>x::Nv r n y
def St.put (st:St) (dst:Option Tmp) (v:AV):St:=
 match dst with
 |some d=> {st with tmps:=Nv st.tmps d v}
 |none=>st
def AV.map (f:AC->AC):AV->AV
 | .at a=> .at (f a)
 | .agg cs=> .agg (cs.map f)
 | .Uk fr τ x=> .Uk fr τ x
 | .Jg l=> .Jg (l.map λp=>(p.1,p.2.map f))
def OB.map (f:AC->AC):OB->OB
 | .arr fr tr e t xs=> .arr fr tr e t xs
 | .Dj e t xs=> .Dj e t xs
 | .var t vs=> .var t (vs.map f)
 | .Ak e te rows out kp=> .Ak e te rows out kp
 | .On v m=> .On v m
def Sz:List (Nat×OB)->Nat->List (Nat×OB)
 | [],_=> []
 |(k,b)::r,l=>if k=l then Sz r l else (k,b)::Sz r l
def St.Gp (st:St) (f:AC->AC):St:= {tmps:=st.tmps.map (·.map f),heap:=st.heap.map λp=>(p.1,p.2.map f)}
def Ba (l:Nat):AC->AC
 | .own k off len=>if k=l then .undef else .own k off len
 | .Dz k i=>if k=l then .undef else .Dz k i
 | .Gc k i=>if k=l then .undef else .Gc k i
 | .clo f Bx=>if (Bx.map (·.1)).contains l then .undef else .clo f Bx
 | .Gi k=>if k=l then .undef else .Gi k
 | .sub k i c=>if k=l then .undef else .sub k i c
 | .Ga k i c=>if k=l then .undef else .Ga k i c
 |a=>a
def St.forget (st:St) (l:Nat):St:=let s:=st.Gp (Ba l); {s with heap:=Sz s.heap l}
def Bb (l:Nat) (fr:Bool) (e:Ty) (xs:List e.den):AC->AC
 | .own k off len=>if k=l then .data fr (.slice e) ((xs.drop off).take len) else .own k off len
 | .Gc k i=>if k=l then .undef else .Gc k i
 | .Dz k i=>if k=l then .undef else .Dz k i
 | .clo f Bx=>if (Bx.map (·.1)).contains l then .undef else .clo f Bx
 | .Gi k=>if k=l then .undef else .Gi k
 | .sub k i c=>if k=l then .undef else .sub k i c
 | .Ga k i c=>if k=l then .undef else .Ga k i c
 |a=>a
def St.freeze (st:St) (l:Nat) (fr:Bool) (e:Ty) (xs:List e.den):St:=let s:=st.Gp (Bb l fr e xs); {s with heap:=Sz s.heap l}
def Dm (l:Nat) (v:Ty) (m:ByteArray->Option v.den):AC->AC
 | .Gi k=>if k=l then .data false (.smap v) m else .Gi k
 | .own k off len=>if k=l then .undef else .own k off len
 | .Gc k i=>if k=l then .undef else .Gc k i
 | .Dz k i=>if k=l then .undef else .Dz k i
 | .clo f Bx=>if (Bx.map (·.1)).contains l then .undef else .clo f Bx
 | .sub k i c=>if k=l then .undef else .sub k i c
 | .Ga k i c=>if k=l then .undef else .Ga k i c
 |a=>a
def St.En (st:St) (l:Nat) (v:Ty) (m:ByteArray->Option v.den):St:=let s:=st.Gp (Dm l v m); {s with heap:=Sz s.heap l}
def Jk:List (Nat×OB)->Nat->OB->List (Nat×OB)
 | [],l,b=> [(l,b)]
 |(k,c)::r,l,b=>if l<k then (l,b)::(k,c)::r else (k,c)::Jk r l b
def St.new (st:St) (l:Nat) (b:OB):St:=let s:=st.forget l; {s with heap:=Jk s.heap l b}
def Xp:List (Nat×OB)->Nat->OB->List (Nat×OB)
 | [],_,_=> []
 |(k,b)::r,l,b'=>if k=l then (k,b')::r else (k,b)::Xp r l b'
def St.Gf (st:St) (l:Nat) (b:OB):St:= {st with heap:=Xp st.heap l b}
structure Tab where
 ty:TypeId->Option Ty
 elem:TypeId->Option TypeId
 mapOf:TypeId->Option Ty
 off:TypeId->Nat->Option (Nat×TypeId)
 mK:Bool:=true
 ur:Bool:=false
 marks:List Nat:= []
 parts:List Nat:= []
 SR:List TypeId:= []
def Ty.zero:(τ:Ty)->τ.den
 | .int _=>(0:Int)
 | .bool=>false
 | .str=>(ByteArray.empty)
 | .slice _=> []
 | .oslice _=>none
 | .ptr a=>a.zero
 | .optr _=>none
 | .smap _=> λ_=>none
 | .clo _ c=>c.zero
 | .unit=>()
 | .pair a r=>(a.zero,r.zero)
def Lx (fr:Bool):(τ:Ty)->τ.den->List AC
 | .unit,_=> []
 | .pair a r,x=>Lx fr a x.1++Lx fr r x.2
 |τ,x=> [.data fr τ x]
def cb (fr:Bool):(τ Ji:Ty)->Ji.den->Option (Bool×τ.den)
 | .slice e, .oslice e',x=>if h:e'=e then some (fr,((h▸x:Option (List e.den)).getD [])) else none
 | .optr a, .ptr a',x=>if h:a'=a then some (fr,some (h▸x:a.den)) else none
 |_,_,_=>none
def Bm (st:St):(τ:Ty)->AC->Option (Bool×τ.den)
 |τ, .data fr Ji x=>if h:Ji=τ then some (fr||τ.flat,h▸x) else cb fr τ Ji x
 | .slice _, .Hk=>some (true,[])
 | .oslice _, .Hk=>some (true,none)
 | .optr _, .Pw=>some (true,none)
 | .slice e, .own l off len=>match st.at l with
  |some (.arr fr _ e' _ xs)=>if h:e'=e then some (fr,((h▸xs:List e.den).drop off).take len) else none
  |some (.Dj e' _ xs)=>if h:e'=e then some (true,((h▸xs:List e.den).drop off).take len) else none
  |some (.Ak e' _ rows none _)=>if h: .slice e'=e then some (false,((h▸(rows:List (Ty.slice e').den):List e.den).drop off).take len) else none
  |_=>none
 | .slice e, .sub l i _=>match st.at l with
  |some (.Ak e' _ rows none _)=>if h:e'=e then some (false,(h▸(rows.getD i []:List e'.den):List e.den)) else none
  |_=>none
 | .smap v, .Gi l=>match st.at l with
  |some (.On v' m)=>if h:v'=v then some (true,h▸m) else none
  |_=>none
 |_,_=>none
def Cp (st:St):(τ:Ty)->List AC->Option (Bool×τ.den)
 | .unit,[]=>some (true,())
 | .unit,_::_=>none
 | .pair a r,cs=>
  match Cp st a (cs.take a.size),Cp st r (cs.drop a.size) with
  |some (f1,x),some (f2,y)=>some (f1&&f2,(x,y))
  |_,_=>none
 |τ,[c]=>Bm st τ c
 |_,_=>none
def Nm (st:St) (a:Ty) (l i:Nat):Option (Bool×a.den):=
 match st.at l with
 |some (.var _ vs)=>Cp st a ((vs.drop i).take a.size)
 |_=>none
def Gr (st:St):(τ:Ty)->List (Nat×Nat)->Option (Bool×τ.den)
 | .unit,[]=>some (true,())
 | .pair (.ptr a) r,(l,i)::cs=>
  match Nm st a l i,Gr st r cs with
  |some (f1,x),some (f2,y)=>some (f1&&f2,(x,y))
  |_,_=>none
 |_,_=>none
def Fu (st:St):(τ:Ty)->AC->Option (Bool×τ.den)
 | .ptr a, .Dz l i=>Nm st a l i
 | .optr a, .Dz l i=>(Nm st a l i).map λp=>(p.1,some p.2)
 | .clo f τ, .clo g Bx=>if g=f/\f<1000000000 then Gr st τ Bx else none
 |τ,c=>Bm st τ c
def Ct (st:St) (τ:Ty):AV->Option (Bool×τ.den)
 | .at (.data fr Ji x)=>if h:Ji=τ then some (fr||τ.flat,h▸x) else if τ.Ac then none else Fu st τ (.data fr Ji x)
 | .at a=>if τ.Ac then none else Fu st τ a
 | .agg cs=>if τ.Ac then Cp st τ cs else none
 |_=>none
def Bs (st:St):(τ:Ty)->List AV->Option (Bool×τ.den)
 | .unit,[]=>some (true,())
 | .pair a r,v::vs=>
  match Ct st a v,Bs st r vs with
  |some (f1,x),some (f2,y)=>some (f1&&f2,(x,y))
  |_,_=>none
 |_,_=>none
def AC.settled:AC->Bool
 | .data _ _ _| .Hk| .Pw=>true
 |_=>false
def AV.settled:AV->Bool
 | .at a=>a.settled
 | .agg cs=>cs.all (·.settled)
 | .Uk _ _ _=>true
 | .Jg _=>false
inductive CK where
 |Gt (τ:Ty)
 |row (e:Ty) (te:TypeId)
 |Dx (e:Ty) (te:TypeId)
 |part (e:Ty) (te:TypeId)
 |Ak (e:Ty) (te:TypeId) (kp:Bool)
@[reducible] def CK.den:CK->Type
 | .Gt τ=>τ.den
 | .row e _=>List e.den
 | .Dx e _=>List e.den
 | .part e _=>List e.den×Nat×Nat
 | .Ak e _ _=>List (List e.den)
def CK.flat:CK->Bool
 | .Gt τ=>τ.flat
 | .row e _=>e.flat
 | .Dx _ _=>true
 | .part e _=>e.flat
 | .Ak _ _ _=>false
def CK.UB:CK->Bool
 | .Dx _ _=>true
 |_=>false
@[reducible] def CKs.den:List CK->Type
 | []=>Unit
 |c::r=>c.den×CKs.den r
@[reducible] def IOs.den:List (Bool×CK)->Type
 | []=>Unit
 |(true, .Gt _)::r=>IOs.den r
 |(true, .row e _)::r=>List e.den×IOs.den r
 |(true, .Dx e _)::r=>List e.den×IOs.den r
 |(true, .part e _)::r=>List e.den×IOs.den r
 |(true, .Ak _ _ _)::r=>IOs.den r
 |(false,_)::r=>IOs.den r
@[reducible] def Ins.den:List (Bool×CK)->Type
 | []=>Unit
 |p::r=>p.2.den×Ins.den r
structure MSpec where
 ptr:Option (TypeId×Nat):=none
 Hf:List (Option Nat)
 ins:List (Bool×CK)
 Gg:Bool
 Gj:List (Option Nat)
 outs:List CK
 fn:Ins.den ins->Option (CKs.den outs×IOs.den ins)
 keeps:List (Nat×Nat):= []
 Cr:Ins.den ins->Nat:= λ_=>0
 rp:Option TypeId:=none
structure Spec where
 arg:Ty
 res:Ty
 Gg:Bool
 fresh:Bool
 fn:arg.den->Option res.den
inductive gB where
 |q (s:Spec)
 |m (s:MSpec)
 |b (s:Spec) (m:MSpec)
def MSpec.flat (s:MSpec):Bool:=s.outs.all (·.flat)&&s.ins.all λp=>!p.1||p.2.flat
def MSpec.LD (s:MSpec):Bool:=s.flat||s.outs.all λc=>!c.UB
abbrev Env:=FuncId->Option gB
def gN:Value->AV
 | .int k n=> .at (.data true (.int k) n)
 | .bool b=> .at (.data true .bool b)
 | .string s=> .at (.data true .str s)
 | .slice none 0 0=> .at .Hk
 | .pointer none=> .at .Pw
 |_=> .undef
def St.ev (st:St):Operand->AV
 | .tmp t=>st.get t
 | .const v=>gN v
 | .func f=> .at (.clo f [])
 |_=> .undef
def idx {α:Type} (xs:List α) (i:Int):Option α:=if 0<=i then xs[i.toNat]? else none
def UA (n:Int) (len:Nat):Bool:=decide (0<=n)&&decide (n<len)
theorem Ng {n:Int} {len:Nat} :UA n len=true↔0<=n/\n<len:=by simp [UA]
def Tg (k:IntKind) (n:Int):Option AV:=some (.at (.data true (.int k) n))
def Jx (b:Bool):Option AV:=some (.at (.data true .bool b))
def nf (op:BinOp) (k:IntKind) (a b:Int):Option AV:=
 match op with
 | .add=>Tg k (k.wrap (a+b))
 | .sub=>Tg k (k.wrap (a-b))
 | .mul=>Tg k (k.wrap (a*b))
 | .quo=>if b=0 then none else Tg k (k.wrap (a.tdiv b))
 | .rem=>if b=0 then none else Tg k (a.tmod b)
 | .and=>Tg k (k.wrap (BitVec.ofInt k.bits a&&&BitVec.ofInt k.bits b).toNat)
 | .or=>Tg k (k.wrap (BitVec.ofInt k.bits a|||BitVec.ofInt k.bits b).toNat)
 | .eql=>Jx (a==b)
 | .neq=>Jx (a !=b)
 | .lss=>Jx (decide (a<b))
 | .leq=>Jx (decide (a<=b))
 | .gtr=>Jx (decide (a>b))
 | .geq=>Jx (decide (a>=b))
 |_=>none
def evalBin (op:BinOp) (x y:AV):Option AV:=
 match x,y with
 | .at (.data _ (.int k) a), .at (.data _ (.int k') b)=>
  match op with
  | .shl=>if b<0 then none else Tg k (k.wrap (a*2^(min b.toNat k.bits)))
  | .shr=>if b<0 then none else Tg k (a.fdiv (2^(min b.toNat k.bits)))
  |_=>if k=k' then nf op k a b else none
 | .at (.data _ .str a), .at (.data _ .str b)=>
  match op with
  | .eql=>Jx (a.toList==b.toList)
  | .neq=>Jx (!(a.toList==b.toList))
  | .add=>if a.size+b.size<=4294967296 then some (.at (.data true .str (a++b))) else none
  |_=>none
 |_,_=>none
def ss (op:UnOp) (x:AV):Option AV:=
 match op,x with
 | .not, .at (.data _ .bool b)=>Jx (!b)
 | .neg, .at (.data _ (.int k) n)=>Tg k (k.wrap (0-n))
 |_,_=>none
def Yf (c x y:AV):Option AV:=
 match c with
 | .at (.data _ .bool b)=>some (if b then x else y)
 |_=>none
def wg:AV->Option Int
 | .at .Hk=>some 0
 | .at (.data _ (.slice _) xs)=>some xs.length
 | .at (.data _ .str s)=>some s.size
 | .at (.own _ _ len)=>some (len:Int)
 |_=>none
def KU:AV->Option Int
 | .at .Hk=>some 0
 | .at (.data _ (.slice _) xs)=>some xs.length
 | .at (.own _ _ len)=>some (len:Int)
 |_=>none
def wj (st:St):AV->Option Int
 | .at (.sub l i _)=>match st.at l with
  |some (.Ak _ _ rows none _)=>some (rows.getD i []).length
  |_=>none
 |v=>KU v
def CF:AV->Option Int
 | .at (.data _ .str s)=>some s.size
 |_=>none
def Gu:(τ:Ty)->τ.den->Nat->(ρ:Ty)->Option ρ.den
 | .pair a r,x,o,ρ=>if o=0 then (if h:a=ρ then some (h▸x.1) else none) else if o<a.size then none else Gu r x.2 (o-a.size) ρ
 |_,_,_,_=>none
def aQ (l i:Nat):(c:Nat)->(τ:Ty)->τ.den->List AC
 |_, .unit,_=> []
 |c, .pair a r,x=>aQ l i c a x.1++aQ l i (c+a.size) r x.2
 |c,τ,x=> [if τ.flat then .data true τ x else .sub l i c]
variable (T:Tab)
def Kk (st:St) (t:TypeId) (p:AV):Option AV:=
 match T.ty t,p with
 |some τ, .at (.data fr (.ptr Ji) x)=>if Ji=τ then some (.at (.data (fr||Ji.flat) Ji x)) else none
 |some τ, .at (.data fr (.optr Ji) (some x))=>if Ji=τ then some (.at (.data (fr||Ji.flat) Ji x)) else none
 |some τ, .at (.Dz l i)=>match st.at l with
  |some (.var _ vs)=>if τ.Ac then (if i+τ.size<=vs.length then some (.agg ((vs.drop i).take τ.size)) else none) else vs[i]?.map .at
  |_=>none
 |some τ, .at (.Gc l i)=>match st.at l with
  |some (.arr fr _ e _ xs)=>if e=τ then xs[i]?.map λx=> .at (.data (fr||e.flat) e x) else none
  |some (.Dj e _ xs)=>if e=τ then xs[i]?.map λx=>if e.Ac then .agg (aQ l i 0 e x) else .at ((aQ l i 0 e x).headD .undef) else none
  |some (.Ak _ _ _ none _)=>if τ.Ac then none else some (.at (.sub l i 0))
  |_=>none
 |some τ, .at (.Ga l i j)=>match st.at l with
  |some (.Ak e _ rows none _)=>if e=τ then some (.at (.data e.flat e ((rows.getD i []).getD j e.zero))) else none
  |_=>none
 |_,_=>none
def Gh (st:St) (t:TypeId) (x i:AV):Option AV:=
 match x,i with
 | .at (.data fr (.slice e) xs), .at (.data _ (.int _) n)=>if (T.elem t).bind T.ty=some e then (idx xs n).map λx=> .at (.data fr (.ptr e) x) else none
 | .at (.own l off len), .at (.data _ (.int _) n)=>match st.at l with
  |some (.arr _ _ e tid _)=>if T.elem t=some tid/\T.ty tid=some e/\UA n len=true then some (.at (.Gc l (off+n.toNat))) else none
  |some (.Dj e tid _)=>if T.elem t=some tid/\T.ty tid=some e/\UA n len=true then some (.at (.Gc l (off+n.toNat))) else none
  |some (.Ak _ te _ _ _)=>if T.elem t=some te/\(T.ty te).map Ty.size=some 1/\UA n len=true then some (.at (.Gc l (off+n.toNat))) else none
  |_=>none
 | .at (.sub l i _), .at (.data _ (.int _) n)=>match st.at l with
  |some (.Ak e _ rows none _)=>if ((T.elem t).bind T.ty).map Ty.size=some e.size/\UA n (rows.getD i []).length=true then some (.at (.Ga l i n.toNat)) else none
  |_=>none
 |_,_=>none
def Iz (s:TypeId) (x:AV) (f:Nat):Option AV:=
 match T.off s f,x with
 |some (o,_), .at (.Dz l i)=>some (.at (.Dz l (i+o)))
 |some (o,t), .at (.data fr (.ptr τ) x)=>if T.ty s=some τ then (T.ty t).bind λρ=>(Gu τ x o ρ).map λy=> .at (.data fr (.ptr ρ) y) else none
 |some (o,t), .at (.data fr (.optr τ) (some x))=>if T.ty s=some τ then (T.ty t).bind λρ=>(Gu τ x o ρ).map λy=> .at (.data fr (.ptr ρ) y) else none
 |_,_=>none
def jg (s:TypeId) (x:AV) (f:Nat):Option AV:=
 match T.off s f,x with
 |some (o,t), .agg cs=>(T.ty t).bind λρ=>if ρ.Ac then none else cs[o]?.map .at
 |some (o,t), .at (.data fr τ x)=>if T.ty s=some τ then (T.ty t).bind λρ=>(Gu τ x o ρ).map λy=> .at (.data fr ρ y) else none
 |_,_=>none
def HU (v:Option AV) (d:Int):Option Int:=
 match v with
 |none=>some d
 |some (.at (.data _ (.int _) n))=>some n
 |_=>none
def Yg (st:St) (t:TypeId) (x:AV) (lo hi:Option AV):Option AV:=
 match wg x with
 |none=>none
 |some n=>
  match HU lo 0,HU hi n with
  |some l,some h=>
   if 0<=l/\l<=h/\h<=n then
    match x with
    | .at (.data fr (.slice e) xs)=>if (T.elem t).bind T.ty=some e then some (.at (.data fr (.slice e) ((xs.take h.toNat).drop l.toNat))) else none
    | .at (.own k off _)=>match st.at k with
     |some (.arr _ _ e tid _)=>if T.elem t=some tid/\T.ty tid=some e then some (.at (.own k (off+l.toNat) (h.toNat-l.toNat))) else none
     |_=>none
    | .at (.data _ .str s)=>if T.ty t=some .str then some (.at (.data true .str (s.extract l.toNat h.toNat))) else none
    |_=>none
   else none
  |_,_=>none
def dH (t:TypeId) (x i:AV):Option AV:=
 match x,i with
 | .at (.data _ .str s), .at (.data _ (.int _) n)=>if T.ty t=some .str then (if 0<=n then s[n.toNat]?.map λb=> .at (.data true (.int .u8) b.toNat) else none) else none
 |_,_=>none
def Jp (Γ:Env) (st:St) (f:FuncId) (args:List AV):Option AV:=
 match Γ f with
 |some (.q s)=>
  if s.fresh||s.res.flat||args.all (·.settled) then
   match Bs st s.arg args with
   |none=>none
   |some (_,x)=>(s.fn x).map λy=>if s.Gg then .Uk (s.fresh||s.res.flat) s.res y else .at (.data (s.fresh||s.res.flat) s.res y)
  else none
 |_=>none
def Ty.chain:Ty->Bool
 | .unit=>true
 | .pair a r=>!a.Ac&&r.chain
 |_=>false
def Ur (fr:Bool):(τ:Ty)->τ.den->List AV
 | .pair a r,x=> .at (.data fr a x.1)::Ur fr r x.2
 |_,_=> []
def Qi (Γ:Env) (st:St) (v:AV) (args:List AV):Option AV:=
 match v with
 | .at (.data fr (.clo f τ) x)=>if τ.chain then (if f<1000000000 then Jp Γ st f (args++Ur fr τ x) else Jp Γ st (f-1000000000) (Ur fr τ x++args)) else none
 | .at (.clo f Bx)=>Jp Γ st f (args++Bx.map λp=> .at (.Dz p.1 p.2))
 |_=>none
def fz:List AV->Option (List (Nat×Nat))
 | []=>some []
 | .at (.Dz l i)::r=>(fz r).map λc=>(l,i)::c
 |_=>none
def Zy (st:St) (t:TypeId) (m k:AV) (ok:Bool):Option AV:=
 match T.mapOf t,k with
 |some v, .at (.data _ .str s)=>
  match Ct st (.smap v) m with
  |some (_,f)=>some (if ok then .Uk true (.pair v (.pair .bool .unit)) (((f s).getD v.zero),(f s).isSome,()) else .at (.data true v ((f s).getD v.zero)))
  |none=>none
 |_,_=>none
def Ye (x:AV):Option Bool:=
 match x with
 | .at .Hk=>some true
 | .at (.data _ (.oslice _) x)=>some x.isNone
 |_=>none
def Yd (x:AV):Option Bool:=
 match x with
 | .at .Pw=>some true
 | .at (.Dz _ _)=>some false
 | .at (.data _ (.optr _) x)=>some x.isNone
 | .at (.data _ (.ptr _) _)=>some false
 |_=>none
def KQ:Option Ty->Bool
 |some (.ptr _)=>true
 |some (.optr _)=>true
 |_=>false
def Wx (fr:Bool):(τ:Ty)->τ.den->Nat->Option AV
 | .pair a _,x,0=>some (.at (.data (fr||a.flat) a x.1))
 | .pair _ r,x,n+1=>Wx fr r x.2 n
 |_,_,_=>none
def ZS:Bool×List AC->Option AV
 |(true,cs)=>some (.agg cs)
 |(false,[a])=>some (.at a)
 |_=>none
def NG (l:List (Bool×List AC)) (i:Nat):Option AV:=(l[i]?).bind ZS
def sq (mx:Bool):List AV->Option AV
 | [.at (.data _ (.int k) a), .at (.data _ (.int k') b)]=>if k=k' then Tg k (if mx then (if b>a then b else a) else (if b<a then b else a)) else none
 |_=>none
def Mz (op:BinOp) (t:TypeId) (x y:AV):Option AV:=
 match op,x,y with
 | .eql,x, .at .Hk=>if (T.elem t).isSome then (Ye x).bind Jx else none
 | .eql,x, .at .Pw=>if KQ (T.ty t) then (Yd x).bind Jx else none
 | .neq,x, .at .Hk=>if (T.elem t).isSome then (Ye x).bind λb=>Jx (!b) else none
 | .neq,x, .at .Pw=>if KQ (T.ty t) then (Yd x).bind λb=>Jx (!b) else none
 | .eql, .at (.data _ .bool a), .at (.data _ .bool b)=>if T.ty t=some .bool then Jx (a==b) else none
 | .neq, .at (.data _ .bool a), .at (.data _ .bool b)=>if T.ty t=some .bool then Jx (!(a==b)) else none
 |op,x,y=>evalBin op x y
def bytesOf (l:List Int):ByteArray:=⟨(l.map λn=>UInt8.ofNat n.toNat).toArray⟩
def jP:AV->AV
 | .at (.data fr (.oslice e) x)=> .at (.data fr (.slice e) (x.getD []))
 |v=>v
def Ck (Γ:Env) (st:St) (o:Oper):Option AV:=
 match o.op with
 | .move x=>some (st.ev x)
 | .assign x=>some (st.ev x)
 | .pick c a b=>Yf (st.ev c) (st.ev a) (st.ev b)
 | .load t a=>Kk T st t (st.ev a)
 | .nilCheck x=>match st.ev x with
  | .at (.data fr (.ptr τ) x)=>some (.at (.data fr (.ptr τ) x))
  | .at (.data fr (.optr τ) (some x))=>some (.at (.data fr (.ptr τ) x))
  | .at (.Dz l i)=>some (.at (.Dz l i))
  | .at (.Gc l i)=>some (.at (.Gc l i))
  |_=>none
 | .binOp op t x y _=>Mz T op t (st.ev x) (st.ev y)
 | .unOp op _ x=>ss op (st.ev x)
 | .convert s t x=>match T.ty s,T.ty t,st.ev x with
  |some _,some (.int k), .at (.data _ (.int _) n)=>Tg k (k.wrap n)
  |some (.slice (.int .u8)),some .str,_=>(Ct st (.slice (.int .u8)) (st.ev x)).map λp=> .at (.data true .str (bytesOf p.2))
  |_,_,_=>none
 | .slice t x lo hi mx=>if mx.isSome then none else Yg T st t (st.ev x) (lo.map st.ev) (hi.map st.ev)
 | .fieldAddr s x f=>Iz T s (st.ev x) f
 | .field s x f=>jg T s (st.ev x) f
 | .indexAddr t x i=>Gh T st t (jP (st.ev x)) (st.ev i)
 | .index t x i=>dH T t (st.ev x) (st.ev i)
 | .extract x i=>match st.ev x with
  | .Uk fr τ y=>Wx fr τ y i
  | .Jg l=>NG l i
  |_=>none
 | .call {callee:= .value (.func f),args, .. } =>Jp Γ st f (args.toList.map st.ev)
 | .call {callee:= .value (.tmp t),args, .. } =>Qi Γ st (st.get t) (args.toList.map st.ev)
 | .makeFunc (.func f) first Bx=>match first.toList.map st.ev with
  | []=>(fz (Bx.toList.map st.ev)).map λc=> .at (.clo f c)
  | [.at (.data fr τ x)]=>if Bx.isEmpty&&!τ.Ac then some (.at (.data fr (.clo (f+1000000000) (.pair τ .unit)) (x,()))) else none
  |_=>none
 | .lookup t m k ok=>Zy T st t (st.ev m) (st.ev k) ok
 | .call {callee:= .builtin .len,args,argTypes} =>match args.toList,argTypes.toList with
  | [x],[t]=>match T.ty t with
   |some (.slice _)=>(wj st (st.ev x)).bind (Tg .i64)
   |some (.oslice _)=>(wj st (jP (st.ev x))).bind (Tg .i64)
   |some .str=>(CF (st.ev x)).bind (Tg .i64)
   |_=>none
  |_,_=>none
 | .call {callee:= .builtin .min,args, .. } =>sq false (args.toList.map st.ev)
 | .call {callee:= .builtin .max,args, .. } =>sq true (args.toList.map st.ev)
 |_=>none
def Qc (st:St) (t:Option Tmp):Option (Option Bool):=
 match t with
 |some t=>match st.get t with
  | .at (.data _ .bool b)=>some (some b)
  | .at .skip=>some none
  |_=>none
 |none=>none
end Go.Proofs.Ytjbdmibbbpdnnaa
