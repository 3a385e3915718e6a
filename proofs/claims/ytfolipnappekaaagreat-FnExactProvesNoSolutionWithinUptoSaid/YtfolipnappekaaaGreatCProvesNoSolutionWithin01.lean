/-
  Part 2 of the proof that the statement FnExactProvesNoSolutionWithin holds.
-/
import Derived.Test.YtfolipnappekaaaGreatCProvesNoSolutionWithin00
namespace Go.Proofs.YtfolipnappekaaaGreat
open Go.RowKit
inductive AC where
 |undef
 |skip
 |Hr
 |Rp
 |data (fr:Bool) (τ:Ty) (x:τ.den)
 |own (l off len:Nat)
 |Dt (l i:Nat)
 |Fy (l i:Nat)
 |clo (f:Nat) (Ca:List (Nat×Nat))
 |Gd (l:Nat)
 |sub (l i c:Nat)
 |Fu (l i j:Nat)
inductive AV where
 |at (a:AC)
 |agg (cs:List AC)
 |Xa (fr:Bool) (τ:Ty) (x:τ.den)
 |Ih (l:List (Bool×List AC))
@[reducible] def AV.undef:AV:= .at .undef
inductive OB where
 |arr (fr tr:Bool) (e:Ty) (tid:TypeId) (xs:List e.den)
 |Dg (e:Ty) (tid:TypeId) (xs:List e.den)
 |var (tid:TypeId) (vs:List AC)
 |Al (e:Ty) (te:TypeId) (rows:List (List e.den)) (out:Option Nat) (kp:Option (Nat×Nat))
 |Qi (v:Ty) (m:ByteArray->Option v.den)
structure St where
 tmps:List AV
 heap:List (Nat×OB)
def Ad:List (Nat×OB)->Nat->Option OB
 | [],_=>none
 |(k,b)::r,l=>if k=l then some b else Ad r l
def St.get (st:St) (t:Nat):AV:=st.tmps.getD t .undef
def St.at (st:St) (l:Nat):Option OB:=Ad st.heap l
def Nm {α:Type} :List α->Nat->α->List α
 | [],_,_=> []
 |_::r,0,y=>y::r
 |x::r,n+1,y=>x::Nm r n y
def St.put (st:St) (dst:Option Tmp) (v:AV):St:=
 match dst with
 |some d=> {st with tmps:=Nm st.tmps d v}
 |none=>st
def AV.map (f:AC->AC):AV->AV
 | .at a=> .at (f a)
 | .agg cs=> .agg (cs.map f)
 | .Xa fr τ x=> .Xa fr τ x
 | .Ih l=> .Ih (l.map λp=>(p.1,p.2.map f))
def OB.map (f:AC->AC):OB->OB
 | .arr fr tr e t xs=> .arr fr tr e t xs
 | .Dg e t xs=> .Dg e t xs
 | .var t vs=> .var t (vs.map f)
 | .Al e te rows out kp=> .Al e te rows out kp
 | .Qi v m=> .Qi v m
def Vo:List (Nat×OB)->Nat->List (Nat×OB)
 | [],_=> []
 |(k,b)::r,l=>if k=l then Vo r l else (k,b)::Vo r l
def St.Gl (st:St) (f:AC->AC):St:= {tmps:=st.tmps.map (·.map f),heap:=st.heap.map λp=>(p.1,p.2.map f)}
def Bd (l:Nat):AC->AC
 | .own k off len=>if k=l then .undef else .own k off len
 | .Dt k i=>if k=l then .undef else .Dt k i
 | .Fy k i=>if k=l then .undef else .Fy k i
 | .clo f Ca=>if (Ca.map (·.1)).contains l then .undef else .clo f Ca
 | .Gd k=>if k=l then .undef else .Gd k
 | .sub k i c=>if k=l then .undef else .sub k i c
 | .Fu k i c=>if k=l then .undef else .Fu k i c
 |a=>a
def St.forget (st:St) (l:Nat):St:=let s:=st.Gl (Bd l); {s with heap:=Vo s.heap l}
def Bh (l:Nat) (fr:Bool) (e:Ty) (xs:List e.den):AC->AC
 | .own k off len=>if k=l then .data fr (.slice e) ((xs.drop off).take len) else .own k off len
 | .Fy k i=>if k=l then .undef else .Fy k i
 | .Dt k i=>if k=l then .undef else .Dt k i
 | .clo f Ca=>if (Ca.map (·.1)).contains l then .undef else .clo f Ca
 | .Gd k=>if k=l then .undef else .Gd k
 | .sub k i c=>if k=l then .undef else .sub k i c
 | .Fu k i c=>if k=l then .undef else .Fu k i c
 |a=>a
def St.freeze (st:St) (l:Nat) (fr:Bool) (e:Ty) (xs:List e.den):St:=let s:=st.Gl (Bh l fr e xs); {s with heap:=Vo s.heap l}
def Dl (l:Nat) (v:Ty) (m:ByteArray->Option v.den):AC->AC
 | .Gd k=>if k=l then .data false (.smap v) m else .Gd k
 | .own k off len=>if k=l then .undef else .own k off len
 | .Fy k i=>if k=l then .undef else .Fy k i
 | .Dt k i=>if k=l then .undef else .Dt k i
 | .clo f Ca=>if (Ca.map (·.1)).contains l then .undef else .clo f Ca
 | .sub k i c=>if k=l then .undef else .sub k i c
 | .Fu k i c=>if k=l then .undef else .Fu k i c
 |a=>a
def St.Eo (st:St) (l:Nat) (v:Ty) (m:ByteArray->Option v.den):St:=let s:=st.Gl (Dl l v m); {s with heap:=Vo s.heap l}
def Jt:List (Nat×OB)->Nat->OB->List (Nat×OB)
 | [],l,b=> [(l,b)]
 |(k,c)::r,l,b=>if l<k then (l,b)::(k,c)::r else (k,c)::Jt r l b
def St.new (st:St) (l:Nat) (b:OB):St:=let s:=st.forget l; {s with heap:=Jt s.heap l b}
def Vi:List (Nat×OB)->Nat->OB->List (Nat×OB)
 | [],_,_=> []
 |(k,b)::r,l,b'=>if k=l then (k,b')::r else (k,b)::Vi r l b'
def St.Ft (st:St) (l:Nat) (b:OB):St:= {st with heap:=Vi st.heap l b}
structure Tab where
 ty:TypeId->Option Ty
 elem:TypeId->Option TypeId
 mapOf:TypeId->Option Ty
 off:TypeId->Nat->Option (Nat×TypeId)
 pK:Bool:=true
 xK:Bool:=false
 marks:List Nat:= []
 parts:List Nat:= []
 RD:List TypeId:= []
def Ty.zero:(τ:Ty)->τ.den
 | .int _=>(0:Int)
 | .bool=>false
 | .str=>(ByteArray.empty)
 | .slice _=> []
 | .oslice _=>none
 | .ptr a=>a.zero
 | .optr _=>none
 | .smap _=> λ_=>none
 | .clo _ c=>c.zero
 | .unit=>()
 | .pair a r=>(a.zero,r.zero)
def Nf (fr:Bool):(τ:Ty)->τ.den->List AC
 | .unit,_=> []
 | .pair a r,x=>Nf fr a x.1++Nf fr r x.2
 |τ,x=> [.data fr τ x]
def dw (fr:Bool):(τ Jr:Ty)->Jr.den->Option (Bool×τ.den)
 | .slice e, .oslice e',x=>if h:e'=e then some (fr,((h▸x:Option (List e.den)).getD [])) else none
 | .optr a, .ptr a',x=>if h:a'=a then some (fr,some (h▸x:a.den)) else none
 |_,_,_=>none
def Bp (st:St):(τ:Ty)->AC->Option (Bool×τ.den)
 |τ, .data fr Jr x=>if h:Jr=τ then some (fr||τ.flat,h▸x) else dw fr τ Jr x
 | .slice _, .Hr=>some (true,[])
 | .oslice _, .Hr=>some (true,none)
 | .optr _, .Rp=>some (true,none)
 | .slice e, .own l off len=>match st.at l with
  |some (.arr fr _ e' _ xs)=>if h:e'=e then some (fr,((h▸xs:List e.den).drop off).take len) else none
  |some (.Dg e' _ xs)=>if h:e'=e then some (true,((h▸xs:List e.den).drop off).take len) else none
  |some (.Al e' _ rows none _)=>if h: .slice e'=e then some (false,((h▸(rows:List (Ty.slice e').den):List e.den).drop off).take len) else none
  |_=>none
 | .slice e, .sub l i _=>match st.at l with
  |some (.Al e' _ rows none _)=>if h:e'=e then some (false,(h▸(rows.getD i []:List e'.den):List e.den)) else none
  |_=>none
 | .smap v, .Gd l=>match st.at l with
  |some (.Qi v' m)=>if h:v'=v then some (true,h▸m) else none
  |_=>none
 |_,_=>none
def Cu (st:St):(τ:Ty)->List AC->Option (Bool×τ.den)
 | .unit,[]=>some (true,())
 | .unit,_::_=>none
 | .pair a r,cs=>
  match Cu st a (cs.take a.size),Cu st r (cs.drop a.size) with
  |some (f1,x),some (f2,y)=>some (f1&&f2,(x,y))
  |_,_=>none
 |τ,[c]=>Bp st τ c
 |_,_=>none
def Oz (st:St) (a:Ty) (l i:Nat):Option (Bool×a.den):=
 match st.at l with
 |some (.var _ vs)=>Cu st a ((vs.drop i).take a.size)
 |_=>none
def Gp (st:St):(τ:Ty)->List (Nat×Nat)->Option (Bool×τ.den)
 | .unit,[]=>some (true,())
 | .pair (.ptr a) r,(l,i)::cs=>
  match Oz st a l i,Gp st r cs with
  |some (f1,x),some (f2,y)=>some (f1&&f2,(x,y))
  |_,_=>none
 |_,_=>none
def Fp (st:St):(τ:Ty)->AC->Option (Bool×τ.den)
 | .ptr a, .Dt l i=>Oz st a l i
 | .optr a, .Dt l i=>(Oz st a l i).map λp=>(p.1,some p.2)
 | .clo f τ, .clo g Ca=>if g=f/\f<1000000000 then Gp st τ Ca else none
 |τ,c=>Bp st τ c
def Cv (st:St) (τ:Ty):AV->Option (Bool×τ.den)
 | .at (.data fr Jr x)=>if h:Jr=τ then some (fr||τ.flat,h▸x) else if τ.Ac then none else Fp st τ (.data fr Jr x)
 | .at a=>if τ.Ac then none else Fp st τ a
 | .agg cs=>if τ.Ac then Cu st τ cs else none
 |_=>none
def Bt (st:St):(τ:Ty)->List AV->Option (Bool×τ.den)
 | .unit,[]=>some (true,())
 | .pair a r,v::vs=>
  match Cv st a v,Bt st r vs with
  |some (f1,x),some (f2,y)=>some (f1&&f2,(x,y))
  |_,_=>none
 |_,_=>none
def AC.settled:AC->Bool
 | .data _ _ _| .Hr| .Rp=>true
 |_=>false
def AV.settled:AV->Bool
 | .at a=>a.settled
 | .agg cs=>cs.all (·.settled)
 | .Xa _ _ _=>true
 | .Ih _=>false
inductive CK where
 |Dm (τ:Ty)
 |row (e:Ty) (te:TypeId)
 |Du (e:Ty) (te:TypeId)
 |part (e:Ty) (te:TypeId)
 |Al (e:Ty) (te:TypeId) (kp:Bool)
@[reducible] def CK.den:CK->Type
 | .Dm τ=>τ.den
 | .row e _=>List e.den
 | .Du e _=>List e.den
 | .part e _=>List e.den×Nat×Nat
 | .Al e _ _=>List (List e.den)
def CK.flat:CK->Bool
 | .Dm τ=>τ.flat
 | .row e _=>e.flat
 | .Du _ _=>true
 | .part e _=>e.flat
 | .Al _ _ _=>false
def CK.isX:CK->Bool
 | .Du _ _=>true
 |_=>false
@[reducible] def CKs.den:List CK->Type
 | []=>Unit
 |c::r=>c.den×CKs.den r
@[reducible] def IOs.den:List (Bool×CK)->Type
 | []=>Unit
 |(true, .Dm _)::r=>IOs.den r
 |(true, .row e _)::r=>List e.den×IOs.den r
 |(true, .Du e _)::r=>List e.den×IOs.den r
 |(true, .part e _)::r=>List e.den×IOs.den r
 |(true, .Al _ _ _)::r=>IOs.den r
 |(false,_)::r=>IOs.den r
@[reducible] def Ins.den:List (Bool×CK)->Type
 | []=>Unit
 |p::r=>p.2.den×Ins.den r
structure MSpec where
 ptr:Option (TypeId×Nat):=none
 Eh:List (Option Nat)
 ins:List (Bool×CK)
 Ct:Bool
 Di:List (Option Nat)
 outs:List CK
 fn:Ins.den ins->Option (CKs.den outs×IOs.den ins)
 keeps:List (Nat×Nat):= []
 Cn:Ins.den ins->Nat:= λ_=>0
 rp:Option TypeId:=none
structure Spec where
 arg:Ty
 res:Ty
 Ct:Bool
 fresh:Bool
 fn:arg.den->Option res.den
inductive Ql where
 |q (s:Spec)
 |m (s:MSpec)
 |b (s:Spec) (m:MSpec)
def MSpec.flat (s:MSpec):Bool:=s.outs.all (·.flat)&&s.ins.all λp=>!p.1||p.2.flat
def MSpec.TL (s:MSpec):Bool:=s.flat||s.outs.all λc=>!c.isX
abbrev Env:=FuncId->Option Ql
def jB:Value->AV
 | .int k n=> .at (.data true (.int k) n)
 | .bool b=> .at (.data true .bool b)
 | .string s=> .at (.data true .str s)
 | .slice none 0 0=> .at .Hr
 | .pointer none=> .at .Rp
 |_=> .undef
def St.ev (st:St):Operand->AV
 | .tmp t=>st.get t
 | .const v=>jB v
 | .func f=> .at (.clo f [])
 |_=> .undef
def idx {α:Type} (xs:List α) (i:Int):Option α:=if 0<=i then xs[i.toNat]? else none
def inb (n:Int) (len:Nat):Bool:=decide (0<=n)&&decide (n<len)
theorem Ot {n:Int} {len:Nat} :inb n len=true↔0<=n/\n<len:=by simp [inb]
def Vv (k:IntKind) (n:Int):Option AV:=some (.at (.data true (.int k) n))
def Kk (b:Bool):Option AV:=some (.at (.data true .bool b))
def qa (op:BinOp) (k:IntKind) (a b:Int):Option AV:=
 match op with
 | .add=>Vv k (k.wrap (a+b))
 | .sub=>Vv k (k.wrap (a-b))
 | .mul=>Vv k (k.wrap (a*b))
 | .quo=>if b=0 then none else Vv k (k.wrap (a.tdiv b))
 | .rem=>if b=0 then none else Vv k (a.tmod b)
 | .and=>Vv k (k.wrap (BitVec.ofInt k.bits a&&&BitVec.ofInt k.bits b).toNat)
 | .or=>Vv k (k.wrap (BitVec.ofInt k.bits a|||BitVec.ofInt k.bits b).toNat)
 | .eql=>Kk (a==b)
 | .neq=>Kk (a !=b)
 | .lss=>Kk (decide (a<b))
 | .leq=>Kk (decide (a<=b))
 | .gtr=>Kk (decide (a>b))
 | .geq=>Kk (decide (a>=b))
 |_=>none
def evalBin (op:BinOp) (x y:AV):Option AV:=
 match x,y with
 | .at (.data _ (.int k) a), .at (.data _ (.int k') b)=>
  match op with
  | .shl=>if b<0 then none else Vv k (k.wrap (a*2^(min b.toNat k.bits)))
  | .shr=>if b<0 then none else Vv k (a.fdiv (2^(min b.toNat k.bits)))
  |_=>if k=k' then qa op k a b else none
 | .at (.data _ .str a), .at (.data _ .str b)=>
  match op with
  | .eql=>Kk (a.toList==b.toList)
  | .neq=>Kk (!(a.toList==b.toList))
  | .add=>if a.size+b.size<=4294967296 then some (.at (.data true .str (a++b))) else none
  |_=>none
 |_,_=>none
def vZ (op:UnOp) (x:AV):Option AV:=
 match op,x with
 | .not, .at (.data _ .bool b)=>Kk (!b)
 | .neg, .at (.data _ (.int k) n)=>Vv k (k.wrap (0-n))
 |_,_=>none
def aC (c x y:AV):Option AV:=
 match c with
 | .at (.data _ .bool b)=>some (if b then x else y)
 |_=>none
def zw:AV->Option Int
 | .at .Hr=>some 0
 | .at (.data _ (.slice _) xs)=>some xs.length
 | .at (.data _ .str s)=>some s.size
 | .at (.own _ _ len)=>some (len:Int)
 |_=>none
def TD:AV->Option Int
 | .at .Hr=>some 0
 | .at (.data _ (.slice _) xs)=>some xs.length
 | .at (.own _ _ len)=>some (len:Int)
 |_=>none
def zy (st:St):AV->Option Int
 | .at (.sub l i _)=>match st.at l with
  |some (.Al _ _ rows none _)=>some (rows.getD i []).length
  |_=>none
 |v=>TD v
def KD:AV->Option Int
 | .at (.data _ .str s)=>some s.size
 |_=>none
def Gr:(τ:Ty)->τ.den->Nat->(ρ:Ty)->Option ρ.den
 | .pair a r,x,o,ρ=>if o=0 then (if h:a=ρ then some (h▸x.1) else none) else if o<a.size then none else Gr r x.2 (o-a.size) ρ
 |_,_,_,_=>none
def cc (l i:Nat):(c:Nat)->(τ:Ty)->τ.den->List AC
 |_, .unit,_=> []
 |c, .pair a r,x=>cc l i c a x.1++cc l i (c+a.size) r x.2
 |c,τ,x=> [if τ.flat then .data true τ x else .sub l i c]
variable (T:Tab)
def Lg (st:St) (t:TypeId) (p:AV):Option AV:=
 match T.ty t,p with
 |some τ, .at (.data fr (.ptr Jr) x)=>if Jr=τ then some (.at (.data (fr||Jr.flat) Jr x)) else none
 |some τ, .at (.data fr (.optr Jr) (some x))=>if Jr=τ then some (.at (.data (fr||Jr.flat) Jr x)) else none
 |some τ, .at (.Dt l i)=>match st.at l with
  |some (.var _ vs)=>if τ.Ac then (if i+τ.size<=vs.length then some (.agg ((vs.drop i).take τ.size)) else none) else vs[i]?.map .at
  |_=>none
 |some τ, .at (.Fy l i)=>match st.at l with
  |some (.arr fr _ e _ xs)=>if e=τ then xs[i]?.map λx=> .at (.data (fr||e.flat) e x) else none
  |some (.Dg e _ xs)=>if e=τ then xs[i]?.map λx=>if e.Ac then .agg (cc l i 0 e x) else .at ((cc l i 0 e x).headD .undef) else none
  |some (.Al _ _ _ none _)=>if τ.Ac then none else some (.at (.sub l i 0))
  |_=>none
 |some τ, .at (.Fu l i j)=>match st.at l with
  |some (.Al e _ rows none _)=>if e=τ then some (.at (.data e.flat e ((rows.getD i []).getD j e.zero))) else none
  |_=>none
 |_,_=>none
def Gf (st:St) (t:TypeId) (x i:AV):Option AV:=
 match x,i with
 | .at (.data fr (.slice e) xs), .at (.data _ (.int _) n)=>if (T.elem t).bind T.ty=some e then (idx xs n).map λx=> .at (.data fr (.ptr e) x) else none
 | .at (.own l off len), .at (.data _ (.int _) n)=>match st.at l with
  |some (.arr _ _ e tid _)=>if T.elem t=some tid/\T.ty tid=some e/\inb n len=true then some (.at (.Fy l (off+n.toNat))) else none
  |some (.Dg e tid _)=>if T.elem t=some tid/\T.ty tid=some e/\inb n len=true then some (.at (.Fy l (off+n.toNat))) else none
  |some (.Al _ te _ _ _)=>if T.elem t=some te/\(T.ty te).map Ty.size=some 1/\inb n len=true then some (.at (.Fy l (off+n.toNat))) else none
  |_=>none
 | .at (.sub l i _), .at (.data _ (.int _) n)=>match st.at l with
  |some (.Al e _ rows none _)=>if ((T.elem t).bind T.ty).map Ty.size=some e.size/\inb n (rows.getD i []).length=true then some (.at (.Fu l i n.toNat)) else none
  |_=>none
 |_,_=>none
def Jk (s:TypeId) (x:AV) (f:Nat):Option AV:=
 match T.off s f,x with
 |some (o,_), .at (.Dt l i)=>some (.at (.Dt l (i+o)))
 |some (o,t), .at (.data fr (.ptr τ) x)=>if T.ty s=some τ then (T.ty t).bind λρ=>(Gr τ x o ρ).map λy=> .at (.data fr (.ptr ρ) y) else none
 |some (o,t), .at (.data fr (.optr τ) (some x))=>if T.ty s=some τ then (T.ty t).bind λρ=>(Gr τ x o ρ).map λy=> .at (.data fr (.ptr ρ) y) else none
 |_,_=>none
def lD (s:TypeId) (x:AV) (f:Nat):Option AV:=
 match T.off s f,x with
 |some (o,t), .agg cs=>(T.ty t).bind λρ=>if ρ.Ac then none else cs[o]?.map .at
 |some (o,t), .at (.data fr τ x)=>if T.ty s=some τ then (T.ty t).bind λρ=>(Gr τ x o ρ).map λy=> .at (.data fr ρ y) else none
 |_,_=>none
def PS (v:Option AV) (d:Int):Option Int:=
 match v with
 |none=>some d
 |some (.at (.data _ (.int _) n))=>some n
 |_=>none
def aD (st:St) (t:TypeId) (x:AV) (lo hi:Option AV):Option AV:=
 match zw x with
 |none=>none
 |some n=>
  match PS lo 0,PS hi n with
  |some l,some h=>
   if 0<=l/\l<=h/\h<=n then
    match x with
    | .at (.data fr (.slice e) xs)=>if (T.elem t).bind T.ty=some e then some (.at (.data fr (.slice e) ((xs.take h.toNat).drop l.toNat))) else none
    | .at (.own k off _)=>match st.at k with
     |some (.arr _ _ e tid _)=>if T.elem t=some tid/\T.ty tid=some e then some (.at (.own k (off+l.toNat) (h.toNat-l.toNat))) else none
     |_=>none
    | .at (.data _ .str s)=>if T.ty t=some .str then some (.at (.data true .str (s.extract l.toNat h.toNat))) else none
    |_=>none
   else none
  |_,_=>none
def fe (t:TypeId) (x i:AV):Option AV:=
 match x,i with
 | .at (.data _ .str s), .at (.data _ (.int _) n)=>if T.ty t=some .str then (if 0<=n then s[n.toNat]?.map λb=> .at (.data true (.int .u8) b.toNat) else none) else none
 |_,_=>none
def Kc (Γ:Env) (st:St) (f:FuncId) (args:List AV):Option AV:=
 match Γ f with
 |some (.q s)=>
  if s.fresh||s.res.flat||args.all (·.settled) then
   match Bt st s.arg args with
   |none=>none
   |some (_,x)=>(s.fn x).map λy=>if s.Ct then .Xa (s.fresh||s.res.flat) s.res y else .at (.data (s.fresh||s.res.flat) s.res y)
  else none
 |_=>none
def Ty.chain:Ty->Bool
 | .unit=>true
 | .pair a r=>!a.Ac&&r.chain
 |_=>false
def Xg (fr:Bool):(τ:Ty)->τ.den->List AV
 | .pair a r,x=> .at (.data fr a x.1)::Xg fr r x.2
 |_,_=> []
def Sm (Γ:Env) (st:St) (v:AV) (args:List AV):Option AV:=
 match v with
 | .at (.data fr (.clo f τ) x)=>if τ.chain then (if f<1000000000 then Kc Γ st f (args++Xg fr τ x) else Kc Γ st (f-1000000000) (Xg fr τ x++args)) else none
 | .at (.clo f Ca)=>Kc Γ st f (args++Ca.map λp=> .at (.Dt p.1 p.2))
 |_=>none
def iE:List AV->Option (List (Nat×Nat))
 | []=>some []
 | .at (.Dt l i)::r=>(iE r).map λc=>(l,i)::c
 |_=>none
def bz (st:St) (t:TypeId) (m k:AV) (ok:Bool):Option AV:=
 match T.mapOf t,k with
 |some v, .at (.data _ .str s)=>
  match Cv st (.smap v) m with
  |some (_,f)=>some (if ok then .Xa true (.pair v (.pair .bool .unit)) (((f s).getD v.zero),(f s).isSome,()) else .at (.data true v ((f s).getD v.zero)))
  |none=>none
 |_,_=>none
def aB (x:AV):Option Bool:=
 match x with
 | .at .Hr=>some true
 | .at (.data _ (.oslice _) x)=>some x.isNone
 |_=>none
def aA (x:AV):Option Bool:=
 match x with
 | .at .Rp=>some true
 | .at (.Dt _ _)=>some false
 | .at (.data _ (.optr _) x)=>some x.isNone
 | .at (.data _ (.ptr _) _)=>some false
 |_=>none
def SY:Option Ty->Bool
 |some (.ptr _)=>true
 |some (.optr _)=>true
 |_=>false
def Zr (fr:Bool):(τ:Ty)->τ.den->Nat->Option AV
 | .pair a _,x,0=>some (.at (.data (fr||a.flat) a x.1))
 | .pair _ r,x,n+1=>Zr fr r x.2 n
 |_,_,_=>none
def Aft:Bool×List AC->Option AV
 |(true,cs)=>some (.agg cs)
 |(false,[a])=>some (.at a)
 |_=>none
def VU (l:List (Bool×List AC)) (i:Nat):Option AV:=(l[i]?).bind Aft
def vX (mx:Bool):List AV->Option AV
 | [.at (.data _ (.int k) a), .at (.data _ (.int k') b)]=>if k=k' then Vv k (if mx then (if b>a then b else a) else (if b<a then b else a)) else none
 |_=>none
def Oh (op:BinOp) (t:TypeId) (x y:AV):Option AV:=
 match op,x,y with
 | .eql,x, .at .Hr=>if (T.elem t).isSome then (aB x).bind Kk else none
 | .eql,x, .at .Rp=>if SY (T.ty t) then (aA x).bind Kk else none
 | .neq,x, .at .Hr=>if (T.elem t).isSome then (aB x).bind λb=>Kk (!b) else none
 | .neq,x, .at .Rp=>if SY (T.ty t) then (aA x).bind λb=>Kk (!b) else none
 | .eql, .at (.data _ .bool a), .at (.data _ .bool b)=>if T.ty t=some .bool then Kk (a==b) else none
 | .neq, .at (.data _ .bool a), .at (.data _ .bool b)=>if T.ty t=some .bool then Kk (!(a==b)) else none
 |op,x,y=>evalBin op x y
def bytesOf (l:List Int):ByteArray:=⟨(l.map λn=>UInt8.ofNat n.toNat).toArray⟩
def m6:AV->AV
 | .at (.data fr (.oslice e) x)=> .at (.data fr (.slice e) (x.getD []))
 |v=>v
def Cm (Γ:Env) (st:St) (o:Oper):Option AV:=
 match o.op with
 | .move x=>some (st.ev x)
 | .assign x=>some (st.ev x)
 | .pick c a b=>aC (st.ev c) (st.ev a) (st.ev b)
 | .load t a=>Lg T st t (st.ev a)
 | .nilCheck x=>match st.ev x with
  | .at (.data fr (.ptr τ) x)=>some (.at (.data fr (.ptr τ) x))
  | .at (.data fr (.optr τ) (some x))=>some (.at (.data fr (.ptr τ) x))
  | .at (.Dt l i)=>some (.at (.Dt l i))
  | .at (.Fy l i)=>some (.at (.Fy l i))
  |_=>none
 | .binOp op t x y _=>Oh T op t (st.ev x) (st.ev y)
 | .unOp op _ x=>vZ op (st.ev x)
 | .convert s t x=>match T.ty s,T.ty t,st.ev x with
  |some _,some (.int k), .at (.data _ (.int _) n)=>Vv k (k.wrap n)
  |some (.slice (.int .u8)),some .str,_=>(Cv st (.slice (.int .u8)) (st.ev x)).map λp=> .at (.data true .str (bytesOf p.2))
  |_,_,_=>none
 | .slice t x lo hi mx=>if mx.isSome then none else aD T st t (st.ev x) (lo.map st.ev) (hi.map st.ev)
 | .fieldAddr s x f=>Jk T s (st.ev x) f
 | .field s x f=>lD T s (st.ev x) f
 | .indexAddr t x i=>Gf T st t (m6 (st.ev x)) (st.ev i)
 | .index t x i=>fe T t (st.ev x) (st.ev i)
 | .extract x i=>match st.ev x with
  | .Xa fr τ y=>Zr fr τ y i
  | .Ih l=>VU l i
  |_=>none
 | .call {callee:= .value (.func f),args, .. } =>Kc Γ st f (args.toList.map st.ev)
 | .call {callee:= .value (.tmp t),args, .. } =>Sm Γ st (st.get t) (args.toList.map st.ev)
 | .makeFunc (.func f) first Ca=>match first.toList.map st.ev with
  | []=>(iE (Ca.toList.map st.ev)).map λc=> .at (.clo f c)
  | [.at (.data fr τ x)]=>if Ca.isEmpty&&!τ.Ac then some (.at (.data fr (.clo (f+1000000000) (.pair τ .unit)) (x,()))) else none
  |_=>none
 | .lookup t m k ok=>bz T st t (st.ev m) (st.ev k) ok
 | .call {callee:= .builtin .len,args,argTypes} =>match args.toList,argTypes.toList with
  | [x],[t]=>match T.ty t with
   |some (.slice _)=>(zy st (st.ev x)).bind (Vv .i64)
   |some (.oslice _)=>(zy st (m6 (st.ev x))).bind (Vv .i64)
   |some .str=>(KD (st.ev x)).bind (Vv .i64)
   |_=>none
  |_,_=>none
 | .call {callee:= .builtin .min,args, .. } =>vX false (args.toList.map st.ev)
 | .call {callee:= .builtin .max,args, .. } =>vX true (args.toList.map st.ev)
 |_=>none
def Sb (st:St) (t:Option Tmp):Option (Option Bool):=
 match t with
 |some t=>match st.get t with
  | .at (.data _ .bool b)=>some (some b)
  | .at .skip=>some none
  |_=>none
 |none=>none
end Go.Proofs.YtfolipnappekaaaGreat
