/-
  Part 2 of the proof that the statement FnExactBestTableIndex holds.
-/
import Derived.Test.YtfolipnappekaaaGreatCBestTableIndex00
namespace Go.Proofs.YtfolipnappekaaaGreat
open Go.RowKit
inductive AC where
 |undef
 |skip
 |Hf
 |Pr
 |data (fr:Bool) (τ:Ty) (x:τ.den)
 |own (l off len:Nat)
 |Dn (l i:Nat)
 |Fo (l i:Nat)
 |clo (f:Nat) (Bu:List (Nat×Nat))
 |Fw (l:Nat)
 |sub (l i c:Nat)
 |Fk (l i j:Nat)
inductive AV where
 |at (a:AC)
 |agg (cs:List AC)
 |Uo (fr:Bool) (τ:Ty) (x:τ.den)
 |Ht (l:List (Bool×List AC))
@[reducible] def AV.undef:AV:= .at .undef
inductive OB where
 |arr (fr tr:Bool) (e:Ty) (tid:TypeId) (xs:List e.den)
 |Cz (e:Ty) (tid:TypeId) (xs:List e.den)
 |var (tid:TypeId) (vs:List AC)
 |Ai (e:Ty) (te:TypeId) (rows:List (List e.den)) (out:Option Nat) (kp:Option (Nat×Nat))
 |Ol (v:Ty) (m:ByteArray->Option v.den)
structure St where
 tmps:List AV
 heap:List (Nat×OB)
def Ad:List (Nat×OB)->Nat->Option OB
 | [],_=>none
 |(k,b)::r,l=>if k=l then some b else Ad r l
def St.get (st:St) (t:Nat):AV:=st.tmps.getD t .undef
def St.at (st:St) (l:Nat):Option OB:=Ad st.heap l
def Ns {α:Type} :List α->Nat->α->List α
 | [],_,_=> []
 |_::r,0,y=>y::r
 |x::r,n+1,y=>x::Ns r n y
def St.put (st:St) (dst:Option Tmp) (v:AV):St:=
 match dst with
 |some d=> {st with tmps:=Ns st.tmps d v}
 |none=>st
def AV.map (f:AC->AC):AV->AV
 | .at a=> .at (f a)
 | .agg cs=> .agg (cs.map f)
 | .Uo fr τ x=> .Uo fr τ x
 | .Ht l=> .Ht (l.map λp=>(p.1,p.2.map f))
def OB.map (f:AC->AC):OB->OB
 | .arr fr tr e t xs=> .arr fr tr e t xs
 | .Cz e t xs=> .Cz e t xs
 | .var t vs=> .var t (vs.map f)
 | .Ai e te rows out kp=> .Ai e te rows out kp
 | .Ol v m=> .Ol v m
def Td:List (Nat×OB)->Nat->List (Nat×OB)
 | [],_=> []
 |(k,b)::r,l=>if k=l then Td r l else (k,b)::Td r l
def St.Gg (st:St) (f:AC->AC):St:= {tmps:=st.tmps.map (·.map f),heap:=st.heap.map λp=>(p.1,p.2.map f)}
def Ay (l:Nat):AC->AC
 | .own k off len=>if k=l then .undef else .own k off len
 | .Dn k i=>if k=l then .undef else .Dn k i
 | .Fo k i=>if k=l then .undef else .Fo k i
 | .clo f Bu=>if (Bu.map (·.1)).contains l then .undef else .clo f Bu
 | .Fw k=>if k=l then .undef else .Fw k
 | .sub k i c=>if k=l then .undef else .sub k i c
 | .Fk k i c=>if k=l then .undef else .Fk k i c
 |a=>a
def St.forget (st:St) (l:Nat):St:=let s:=st.Gg (Ay l); {s with heap:=Td s.heap l}
def Bc (l:Nat) (fr:Bool) (e:Ty) (xs:List e.den):AC->AC
 | .own k off len=>if k=l then .data fr (.slice e) ((xs.drop off).take len) else .own k off len
 | .Fo k i=>if k=l then .undef else .Fo k i
 | .Dn k i=>if k=l then .undef else .Dn k i
 | .clo f Bu=>if (Bu.map (·.1)).contains l then .undef else .clo f Bu
 | .Fw k=>if k=l then .undef else .Fw k
 | .sub k i c=>if k=l then .undef else .sub k i c
 | .Fk k i c=>if k=l then .undef else .Fk k i c
 |a=>a
def St.freeze (st:St) (l:Nat) (fr:Bool) (e:Ty) (xs:List e.den):St:=let s:=st.Gg (Bc l fr e xs); {s with heap:=Td s.heap l}
def Df (l:Nat) (v:Ty) (m:ByteArray->Option v.den):AC->AC
 | .Fw k=>if k=l then .data false (.smap v) m else .Fw k
 | .own k off len=>if k=l then .undef else .own k off len
 | .Fo k i=>if k=l then .undef else .Fo k i
 | .Dn k i=>if k=l then .undef else .Dn k i
 | .clo f Bu=>if (Bu.map (·.1)).contains l then .undef else .clo f Bu
 | .sub k i c=>if k=l then .undef else .sub k i c
 | .Fk k i c=>if k=l then .undef else .Fk k i c
 |a=>a
def St.Eh (st:St) (l:Nat) (v:Ty) (m:ByteArray->Option v.den):St:=let s:=st.Gg (Df l v m); {s with heap:=Td s.heap l}
def Iw:List (Nat×OB)->Nat->OB->List (Nat×OB)
 | [],l,b=> [(l,b)]
 |(k,c)::r,l,b=>if l<k then (l,b)::(k,c)::r else (k,c)::Iw r l b
def St.new (st:St) (l:Nat) (b:OB):St:=let s:=st.forget l; {s with heap:=Iw s.heap l b}
def Sy:List (Nat×OB)->Nat->OB->List (Nat×OB)
 | [],_,_=> []
 |(k,b)::r,l,b'=>if k=l then (k,b')::r else (k,b)::Sy r l b'
def St.Fh (st:St) (l:Nat) (b:OB):St:= {st with heap:=Sy st.heap l b}
structure Tab where
 ty:TypeId->Option Ty
 elem:TypeId->Option TypeId
 mapOf:TypeId->Option Ty
 off:TypeId->Nat->Option (Nat×TypeId)
 ng:Bool:=true
 uP:Bool:=false
 marks:List Nat:= []
 parts:List Nat:= []
 JS:List TypeId:= []
def Ty.zero:(τ:Ty)->τ.den
 | .int _=>(0:Int)
 | .bool=>false
 | .str=>(ByteArray.empty)
 | .slice _=> []
 | .oslice _=>none
 | .ptr a=>a.zero
 | .optr _=>none
 | .smap _=> λ_=>none
 | .clo _ c=>c.zero
 | .unit=>()
 | .pair a r=>(a.zero,r.zero)
def Lw (fr:Bool):(τ:Ty)->τ.den->List AC
 | .unit,_=> []
 | .pair a r,x=>Lw fr a x.1++Lw fr r x.2
 |τ,x=> [.data fr τ x]
def c6 (fr:Bool):(τ Iu:Ty)->Iu.den->Option (Bool×τ.den)
 | .slice e, .oslice e',x=>if h:e'=e then some (fr,((h▸x:Option (List e.den)).getD [])) else none
 | .optr a, .ptr a',x=>if h:a'=a then some (fr,some (h▸x:a.den)) else none
 |_,_,_=>none
def Bm (st:St):(τ:Ty)->AC->Option (Bool×τ.den)
 |τ, .data fr Iu x=>if h:Iu=τ then some (fr||τ.flat,h▸x) else c6 fr τ Iu x
 | .slice _, .Hf=>some (true,[])
 | .oslice _, .Hf=>some (true,none)
 | .optr _, .Pr=>some (true,none)
 | .slice e, .own l off len=>match st.at l with
  |some (.arr fr _ e' _ xs)=>if h:e'=e then some (fr,((h▸xs:List e.den).drop off).take len) else none
  |some (.Cz e' _ xs)=>if h:e'=e then some (true,((h▸xs:List e.den).drop off).take len) else none
  |some (.Ai e' _ rows none _)=>if h: .slice e'=e then some (false,((h▸(rows:List (Ty.slice e').den):List e.den).drop off).take len) else none
  |_=>none
 | .slice e, .sub l i _=>match st.at l with
  |some (.Ai e' _ rows none _)=>if h:e'=e then some (false,(h▸(rows.getD i []:List e'.den):List e.den)) else none
  |_=>none
 | .smap v, .Fw l=>match st.at l with
  |some (.Ol v' m)=>if h:v'=v then some (true,h▸m) else none
  |_=>none
 |_,_=>none
def Cn (st:St):(τ:Ty)->List AC->Option (Bool×τ.den)
 | .unit,[]=>some (true,())
 | .unit,_::_=>none
 | .pair a r,cs=>
  match Cn st a (cs.take a.size),Cn st r (cs.drop a.size) with
  |some (f1,x),some (f2,y)=>some (f1&&f2,(x,y))
  |_,_=>none
 |τ,[c]=>Bm st τ c
 |_,_=>none
def Ni (st:St) (a:Ty) (l i:Nat):Option (Bool×a.den):=
 match st.at l with
 |some (.var _ vs)=>Cn st a ((vs.drop i).take a.size)
 |_=>none
def Gi (st:St):(τ:Ty)->List (Nat×Nat)->Option (Bool×τ.den)
 | .unit,[]=>some (true,())
 | .pair (.ptr a) r,(l,i)::cs=>
  match Ni st a l i,Gi st r cs with
  |some (f1,x),some (f2,y)=>some (f1&&f2,(x,y))
  |_,_=>none
 |_,_=>none
def Fe (st:St):(τ:Ty)->AC->Option (Bool×τ.den)
 | .ptr a, .Dn l i=>Ni st a l i
 | .optr a, .Dn l i=>(Ni st a l i).map λp=>(p.1,some p.2)
 | .clo f τ, .clo g Bu=>if g=f/\f<1000000000 then Gi st τ Bu else none
 |τ,c=>Bm st τ c
def Cq (st:St) (τ:Ty):AV->Option (Bool×τ.den)
 | .at (.data fr Iu x)=>if h:Iu=τ then some (fr||τ.flat,h▸x) else if τ.Ab then none else Fe st τ (.data fr Iu x)
 | .at a=>if τ.Ab then none else Fe st τ a
 | .agg cs=>if τ.Ab then Cn st τ cs else none
 |_=>none
def Bp (st:St):(τ:Ty)->List AV->Option (Bool×τ.den)
 | .unit,[]=>some (true,())
 | .pair a r,v::vs=>
  match Cq st a v,Bp st r vs with
  |some (f1,x),some (f2,y)=>some (f1&&f2,(x,y))
  |_,_=>none
 |_,_=>none
def AC.settled:AC->Bool
 | .data _ _ _| .Hf| .Pr=>true
 |_=>false
def AV.settled:AV->Bool
 | .at a=>a.settled
 | .agg cs=>cs.all (·.settled)
 | .Uo _ _ _=>true
 | .Ht _=>false
inductive CK where
 |Ee (τ:Ty)
 |row (e:Ty) (te:TypeId)
 |Dp (e:Ty) (te:TypeId)
 |part (e:Ty) (te:TypeId)
 |Ai (e:Ty) (te:TypeId) (kp:Bool)
@[reducible] def CK.den:CK->Type
 | .Ee τ=>τ.den
 | .row e _=>List e.den
 | .Dp e _=>List e.den
 | .part e _=>List e.den×Nat×Nat
 | .Ai e _ _=>List (List e.den)
def CK.flat:CK->Bool
 | .Ee τ=>τ.flat
 | .row e _=>e.flat
 | .Dp _ _=>true
 | .part e _=>e.flat
 | .Ai _ _ _=>false
def CK.TU:CK->Bool
 | .Dp _ _=>true
 |_=>false
@[reducible] def CKs.den:List CK->Type
 | []=>Unit
 |c::r=>c.den×CKs.den r
@[reducible] def IOs.den:List (Bool×CK)->Type
 | []=>Unit
 |(true, .Ee _)::r=>IOs.den r
 |(true, .row e _)::r=>List e.den×IOs.den r
 |(true, .Dp e _)::r=>List e.den×IOs.den r
 |(true, .part e _)::r=>List e.den×IOs.den r
 |(true, .Ai _ _ _)::r=>IOs.den r
 |(false,_)::r=>IOs.den r
@[reducible] def Ins.den:List (Bool×CK)->Type
 | []=>Unit
 |p::r=>p.2.den×Ins.den r
structure MSpec where
 ptr:Option (TypeId×Nat):=none
 Fb:List (Option Nat)
 ins:List (Bool×CK)
 Dh:Bool
 Ef:List (Option Nat)
 outs:List CK
 fn:Ins.den ins->Option (CKs.den outs×IOs.den ins)
 keeps:List (Nat×Nat):= []
 Ci:Ins.den ins->Nat:= λ_=>0
 rp:Option TypeId:=none
structure Spec where
 arg:Ty
 res:Ty
 Dh:Bool
 fresh:Bool
 fn:arg.den->Option res.den
inductive Up where
 |q (s:Spec)
 |m (s:MSpec)
 |b (s:Spec) (m:MSpec)
def MSpec.flat (s:MSpec):Bool:=s.outs.all (·.flat)&&s.ins.all λp=>!p.1||p.2.flat
def MSpec.LU (s:MSpec):Bool:=s.flat||s.outs.all λc=>!c.TU
abbrev Env:=FuncId->Option Up
def gP:Value->AV
 | .int k n=> .at (.data true (.int k) n)
 | .bool b=> .at (.data true .bool b)
 | .string s=> .at (.data true .str s)
 | .slice none 0 0=> .at .Hf
 | .pointer none=> .at .Pr
 |_=> .undef
def St.ev (st:St):Operand->AV
 | .tmp t=>st.get t
 | .const v=>gP v
 | .func f=> .at (.clo f [])
 |_=> .undef
def idx {α:Type} (xs:List α) (i:Int):Option α:=if 0<=i then xs[i.toNat]? else none
def TS (n:Int) (len:Nat):Bool:=decide (0<=n)&&decide (n<len)
theorem Nc {n:Int} {len:Nat} :TS n len=true↔0<=n/\n<len:=by simp [TS]
def Tl (k:IntKind) (n:Int):Option AV:=some (.at (.data true (.int k) n))
def Jm (b:Bool):Option AV:=some (.at (.data true .bool b))
def nF (op:BinOp) (k:IntKind) (a b:Int):Option AV:=
 match op with
 | .add=>Tl k (k.wrap (a+b))
 | .sub=>Tl k (k.wrap (a-b))
 | .mul=>Tl k (k.wrap (a*b))
 | .quo=>if b=0 then none else Tl k (k.wrap (a.tdiv b))
 | .rem=>if b=0 then none else Tl k (a.tmod b)
 | .and=>Tl k (k.wrap (BitVec.ofInt k.bits a&&&BitVec.ofInt k.bits b).toNat)
 | .or=>Tl k (k.wrap (BitVec.ofInt k.bits a|||BitVec.ofInt k.bits b).toNat)
 | .eql=>Jm (a==b)
 | .neq=>Jm (a !=b)
 | .lss=>Jm (decide (a<b))
 | .leq=>Jm (decide (a<=b))
 | .gtr=>Jm (decide (a>b))
 | .geq=>Jm (decide (a>=b))
 |_=>none
def evalBin (op:BinOp) (x y:AV):Option AV:=
 match x,y with
 | .at (.data _ (.int k) a), .at (.data _ (.int k') b)=>
  match op with
  | .shl=>if b<0 then none else Tl k (k.wrap (a*2^(min b.toNat k.bits)))
  | .shr=>if b<0 then none else Tl k (a.fdiv (2^(min b.toNat k.bits)))
  |_=>if k=k' then nF op k a b else none
 | .at (.data _ .str a), .at (.data _ .str b)=>
  match op with
  | .eql=>Jm (a.toList==b.toList)
  | .neq=>Jm (!(a.toList==b.toList))
  | .add=>if a.size+b.size<=4294967296 then some (.at (.data true .str (a++b))) else none
  |_=>none
 |_,_=>none
def sV (op:UnOp) (x:AV):Option AV:=
 match op,x with
 | .not, .at (.data _ .bool b)=>Jm (!b)
 | .neg, .at (.data _ (.int k) n)=>Tl k (k.wrap (0-n))
 |_,_=>none
def Yj (c x y:AV):Option AV:=
 match c with
 | .at (.data _ .bool b)=>some (if b then x else y)
 |_=>none
def wV:AV->Option Int
 | .at .Hf=>some 0
 | .at (.data _ (.slice _) xs)=>some xs.length
 | .at (.data _ .str s)=>some s.size
 | .at (.own _ _ len)=>some (len:Int)
 |_=>none
def LL:AV->Option Int
 | .at .Hf=>some 0
 | .at (.data _ (.slice _) xs)=>some xs.length
 | .at (.own _ _ len)=>some (len:Int)
 |_=>none
def wX (st:St):AV->Option Int
 | .at (.sub l i _)=>match st.at l with
  |some (.Ai _ _ rows none _)=>some (rows.getD i []).length
  |_=>none
 |v=>LL v
def DW:AV->Option Int
 | .at (.data _ .str s)=>some s.size
 |_=>none
def Gj:(τ:Ty)->τ.den->Nat->(ρ:Ty)->Option ρ.den
 | .pair a r,x,o,ρ=>if o=0 then (if h:a=ρ then some (h▸x.1) else none) else if o<a.size then none else Gj r x.2 (o-a.size) ρ
 |_,_,_,_=>none
def aL (l i:Nat):(c:Nat)->(τ:Ty)->τ.den->List AC
 |_, .unit,_=> []
 |c, .pair a r,x=>aL l i c a x.1++aL l i (c+a.size) r x.2
 |c,τ,x=> [if τ.flat then .data true τ x else .sub l i c]
variable (T:Tab)
def Kh (st:St) (t:TypeId) (p:AV):Option AV:=
 match T.ty t,p with
 |some τ, .at (.data fr (.ptr Iu) x)=>if Iu=τ then some (.at (.data (fr||Iu.flat) Iu x)) else none
 |some τ, .at (.data fr (.optr Iu) (some x))=>if Iu=τ then some (.at (.data (fr||Iu.flat) Iu x)) else none
 |some τ, .at (.Dn l i)=>match st.at l with
  |some (.var _ vs)=>if τ.Ab then (if i+τ.size<=vs.length then some (.agg ((vs.drop i).take τ.size)) else none) else vs[i]?.map .at
  |_=>none
 |some τ, .at (.Fo l i)=>match st.at l with
  |some (.arr fr _ e _ xs)=>if e=τ then xs[i]?.map λx=> .at (.data (fr||e.flat) e x) else none
  |some (.Cz e _ xs)=>if e=τ then xs[i]?.map λx=>if e.Ab then .agg (aL l i 0 e x) else .at ((aL l i 0 e x).headD .undef) else none
  |some (.Ai _ _ _ none _)=>if τ.Ab then none else some (.at (.sub l i 0))
  |_=>none
 |some τ, .at (.Fk l i j)=>match st.at l with
  |some (.Ai e _ rows none _)=>if e=τ then some (.at (.data e.flat e ((rows.getD i []).getD j e.zero))) else none
  |_=>none
 |_,_=>none
def Ga (st:St) (t:TypeId) (x i:AV):Option AV:=
 match x,i with
 | .at (.data fr (.slice e) xs), .at (.data _ (.int _) n)=>if (T.elem t).bind T.ty=some e then (idx xs n).map λx=> .at (.data fr (.ptr e) x) else none
 | .at (.own l off len), .at (.data _ (.int _) n)=>match st.at l with
  |some (.arr _ _ e tid _)=>if T.elem t=some tid/\T.ty tid=some e/\TS n len=true then some (.at (.Fo l (off+n.toNat))) else none
  |some (.Cz e tid _)=>if T.elem t=some tid/\T.ty tid=some e/\TS n len=true then some (.at (.Fo l (off+n.toNat))) else none
  |some (.Ai _ te _ _ _)=>if T.elem t=some te/\(T.ty te).map Ty.size=some 1/\TS n len=true then some (.at (.Fo l (off+n.toNat))) else none
  |_=>none
 | .at (.sub l i _), .at (.data _ (.int _) n)=>match st.at l with
  |some (.Ai e _ rows none _)=>if ((T.elem t).bind T.ty).map Ty.size=some e.size/\TS n (rows.getD i []).length=true then some (.at (.Fk l i n.toNat)) else none
  |_=>none
 |_,_=>none
def Ip (s:TypeId) (x:AV) (f:Nat):Option AV:=
 match T.off s f,x with
 |some (o,_), .at (.Dn l i)=>some (.at (.Dn l (i+o)))
 |some (o,t), .at (.data fr (.ptr τ) x)=>if T.ty s=some τ then (T.ty t).bind λρ=>(Gj τ x o ρ).map λy=> .at (.data fr (.ptr ρ) y) else none
 |some (o,t), .at (.data fr (.optr τ) (some x))=>if T.ty s=some τ then (T.ty t).bind λρ=>(Gj τ x o ρ).map λy=> .at (.data fr (.ptr ρ) y) else none
 |_,_=>none
def jt (s:TypeId) (x:AV) (f:Nat):Option AV:=
 match T.off s f,x with
 |some (o,t), .agg cs=>(T.ty t).bind λρ=>if ρ.Ab then none else cs[o]?.map .at
 |some (o,t), .at (.data fr τ x)=>if T.ty s=some τ then (T.ty t).bind λρ=>(Gj τ x o ρ).map λy=> .at (.data fr ρ y) else none
 |_,_=>none
def IQ (v:Option AV) (d:Int):Option Int:=
 match v with
 |none=>some d
 |some (.at (.data _ (.int _) n))=>some n
 |_=>none
def Yk (st:St) (t:TypeId) (x:AV) (lo hi:Option AV):Option AV:=
 match wV x with
 |none=>none
 |some n=>
  match IQ lo 0,IQ hi n with
  |some l,some h=>
   if 0<=l/\l<=h/\h<=n then
    match x with
    | .at (.data fr (.slice e) xs)=>if (T.elem t).bind T.ty=some e then some (.at (.data fr (.slice e) ((xs.take h.toNat).drop l.toNat))) else none
    | .at (.own k off _)=>match st.at k with
     |some (.arr _ _ e tid _)=>if T.elem t=some tid/\T.ty tid=some e then some (.at (.own k (off+l.toNat) (h.toNat-l.toNat))) else none
     |_=>none
    | .at (.data _ .str s)=>if T.ty t=some .str then some (.at (.data true .str (s.extract l.toNat h.toNat))) else none
    |_=>none
   else none
  |_,_=>none
def dA (t:TypeId) (x i:AV):Option AV:=
 match x,i with
 | .at (.data _ .str s), .at (.data _ (.int _) n)=>if T.ty t=some .str then (if 0<=n then s[n.toNat]?.map λb=> .at (.data true (.int .u8) b.toNat) else none) else none
 |_,_=>none
def Je (Γ:Env) (st:St) (f:FuncId) (args:List AV):Option AV:=
 match Γ f with
 |some (.q s)=>
  if s.fresh||s.res.flat||args.all (·.settled) then
   match Bp st s.arg args with
   |none=>none
   |some (_,x)=>(s.fn x).map λy=>if s.Dh then .Uo (s.fresh||s.res.flat) s.res y else .at (.data (s.fresh||s.res.flat) s.res y)
  else none
 |_=>none
def Ty.chain:Ty->Bool
 | .unit=>true
 | .pair a r=>!a.Ab&&r.chain
 |_=>false
def Uu (fr:Bool):(τ:Ty)->τ.den->List AV
 | .pair a r,x=> .at (.data fr a x.1)::Uu fr r x.2
 |_,_=> []
def Qf (Γ:Env) (st:St) (v:AV) (args:List AV):Option AV:=
 match v with
 | .at (.data fr (.clo f τ) x)=>if τ.chain then (if f<1000000000 then Je Γ st f (args++Uu fr τ x) else Je Γ st (f-1000000000) (Uu fr τ x++args)) else none
 | .at (.clo f Bu)=>Je Γ st f (args++Bu.map λp=> .at (.Dn p.1 p.2))
 |_=>none
def fJ:List AV->Option (List (Nat×Nat))
 | []=>some []
 | .at (.Dn l i)::r=>(fJ r).map λc=>(l,i)::c
 |_=>none
def a6 (st:St) (t:TypeId) (m k:AV) (ok:Bool):Option AV:=
 match T.mapOf t,k with
 |some v, .at (.data _ .str s)=>
  match Cq st (.smap v) m with
  |some (_,f)=>some (if ok then .Uo true (.pair v (.pair .bool .unit)) (((f s).getD v.zero),(f s).isSome,()) else .at (.data true v ((f s).getD v.zero)))
  |none=>none
 |_,_=>none
def Yi (x:AV):Option Bool:=
 match x with
 | .at .Hf=>some true
 | .at (.data _ (.oslice _) x)=>some x.isNone
 |_=>none
def Yh (x:AV):Option Bool:=
 match x with
 | .at .Pr=>some true
 | .at (.Dn _ _)=>some false
 | .at (.data _ (.optr _) x)=>some x.isNone
 | .at (.data _ (.ptr _) _)=>some false
 |_=>none
def LG:Option Ty->Bool
 |some (.ptr _)=>true
 |some (.optr _)=>true
 |_=>false
def Xf (fr:Bool):(τ:Ty)->τ.den->Nat->Option AV
 | .pair a _,x,0=>some (.at (.data (fr||a.flat) a x.1))
 | .pair _ r,x,n+1=>Xf fr r x.2 n
 |_,_,_=>none
def ZV:Bool×List AC->Option AV
 |(true,cs)=>some (.agg cs)
 |(false,[a])=>some (.at a)
 |_=>none
def OA (l:List (Bool×List AC)) (i:Nat):Option AV:=(l[i]?).bind ZV
def sT (mx:Bool):List AV->Option AV
 | [.at (.data _ (.int k) a), .at (.data _ (.int k') b)]=>if k=k' then Tl k (if mx then (if b>a then b else a) else (if b<a then b else a)) else none
 |_=>none
def Mx (op:BinOp) (t:TypeId) (x y:AV):Option AV:=
 match op,x,y with
 | .eql,x, .at .Hf=>if (T.elem t).isSome then (Yi x).bind Jm else none
 | .eql,x, .at .Pr=>if LG (T.ty t) then (Yh x).bind Jm else none
 | .neq,x, .at .Hf=>if (T.elem t).isSome then (Yi x).bind λb=>Jm (!b) else none
 | .neq,x, .at .Pr=>if LG (T.ty t) then (Yh x).bind λb=>Jm (!b) else none
 | .eql, .at (.data _ .bool a), .at (.data _ .bool b)=>if T.ty t=some .bool then Jm (a==b) else none
 | .neq, .at (.data _ .bool a), .at (.data _ .bool b)=>if T.ty t=some .bool then Jm (!(a==b)) else none
 |op,x,y=>evalBin op x y
def bytesOf (l:List Int):ByteArray:=⟨(l.map λn=>UInt8.ofNat n.toNat).toArray⟩
def jU:AV->AV
 | .at (.data fr (.oslice e) x)=> .at (.data fr (.slice e) (x.getD []))
 |v=>v
def Cg (Γ:Env) (st:St) (o:Oper):Option AV:=
 match o.op with
 | .move x=>some (st.ev x)
 | .assign x=>some (st.ev x)
 | .pick c a b=>Yj (st.ev c) (st.ev a) (st.ev b)
 | .load t a=>Kh T st t (st.ev a)
 | .nilCheck x=>match st.ev x with
  | .at (.data fr (.ptr τ) x)=>some (.at (.data fr (.ptr τ) x))
  | .at (.data fr (.optr τ) (some x))=>some (.at (.data fr (.ptr τ) x))
  | .at (.Dn l i)=>some (.at (.Dn l i))
  | .at (.Fo l i)=>some (.at (.Fo l i))
  |_=>none
 | .binOp op t x y _=>Mx T op t (st.ev x) (st.ev y)
 | .unOp op _ x=>sV op (st.ev x)
 | .convert s t x=>match T.ty s,T.ty t,st.ev x with
  |some _,some (.int k), .at (.data _ (.int _) n)=>Tl k (k.wrap n)
  |some (.slice (.int .u8)),some .str,_=>(Cq st (.slice (.int .u8)) (st.ev x)).map λp=> .at (.data true .str (bytesOf p.2))
  |_,_,_=>none
 | .slice t x lo hi mx=>if mx.isSome then none else Yk T st t (st.ev x) (lo.map st.ev) (hi.map st.ev)
 | .fieldAddr s x f=>Ip T s (st.ev x) f
 | .field s x f=>jt T s (st.ev x) f
 | .indexAddr t x i=>Ga T st t (jU (st.ev x)) (st.ev i)
 | .index t x i=>dA T t (st.ev x) (st.ev i)
 | .extract x i=>match st.ev x with
  | .Uo fr τ y=>Xf fr τ y i
  | .Ht l=>OA l i
  |_=>none
 | .call {callee:= .value (.func f),args, .. } =>Je Γ st f (args.toList.map st.ev)
 | .call {callee:= .value (.tmp t),args, .. } =>Qf Γ st (st.get t) (args.toList.map st.ev)
 | .makeFunc (.func f) first Bu=>match first.toList.map st.ev with
  | []=>(fJ (Bu.toList.map st.ev)).map λc=> .at (.clo f c)
  | [.at (.data fr τ x)]=>if Bu.isEmpty&&!τ.Ab then some (.at (.data fr (.clo (f+1000000000) (.pair τ .unit)) (x,()))) else none
  |_=>none
 | .lookup t m k ok=>a6 T st t (st.ev m) (st.ev k) ok
 | .call {callee:= .builtin .len,args,argTypes} =>match args.toList,argTypes.toList with
  | [x],[t]=>match T.ty t with
   |some (.slice _)=>(wX st (st.ev x)).bind (Tl .i64)
   |some (.oslice _)=>(wX st (jU (st.ev x))).bind (Tl .i64)
   |some .str=>(DW (st.ev x)).bind (Tl .i64)
   |_=>none
  |_,_=>none
 | .call {callee:= .builtin .min,args, .. } =>sT false (args.toList.map st.ev)
 | .call {callee:= .builtin .max,args, .. } =>sT true (args.toList.map st.ev)
 |_=>none
def Py (st:St) (t:Option Tmp):Option (Option Bool):=
 match t with
 |some t=>match st.get t with
  | .at (.data _ .bool b)=>some (some b)
  | .at .skip=>some none
  |_=>none
 |none=>none
end Go.Proofs.YtfolipnappekaaaGreat
