/-
  Part 2 of the proof that the statement FnExactSubgroupCosetCount holds.
-/
import Derived.Test.YtjbdmibbbpdnnaaCSubgroupCosetCount00
namespace Go.Proofs.Ytjbdmibbbpdnnaa
open Go.RowKit
inductive AC where
 |undef
 |skip
 |Gr
 |Ox
 |data (fr:Bool) (τ:Ty) (x:τ.den)
 |own (l off len:Nat)
 |Df (l i:Nat)
 |Ey (l i:Nat)
 |clo (f:Nat) (Bn:List (Nat×Nat))
 |Fm (l:Nat)
 |sub (l i c:Nat)
 |Ew (l i j:Nat)
inductive AV where
 |at (a:AC)
 |agg (cs:List AC)
 |Si (fr:Bool) (τ:Ty) (x:τ.den)
 |Hv (l:List (Bool×List AC))
@[reducible] def AV.undef:AV:= .at .undef
inductive OB where
 |arr (fr tr:Bool) (e:Ty) (tid:TypeId) (xs:List e.den)
 |Cq (e:Ty) (tid:TypeId) (xs:List e.den)
 |var (tid:TypeId) (vs:List AC)
 |Ah (e:Ty) (te:TypeId) (rows:List (List e.den)) (out:Option Nat) (kp:Option (Nat×Nat))
 |Mz (v:Ty) (m:ByteArray->Option v.den)
structure St where
 tmps:List AV
 heap:List (Nat×OB)
def Ad:List (Nat×OB)->Nat->Option OB
 | [],_=>none
 |(k,b)::r,l=>if k=l then some b else Ad r l
def St.get (st:St) (t:Nat):AV:=st.tmps.getD t .undef
def St.at (st:St) (l:Nat):Option OB:=Ad st.heap l
def Mj {α:Type} :List α->Nat->α->List α
 | [],_,_=> []
 |_::r,0,y=>y::r
 |x::r,n+1,y=>x::Mj r n y
def St.put (st:St) (dst:Option Tmp) (v:AV):St:=
 match dst with
 |some d=> {st with tmps:=Mj st.tmps d v}
 |none=>st
def AV.map (f:AC->AC):AV->AV
 | .at a=> .at (f a)
 | .agg cs=> .agg (cs.map f)
 | .Si fr τ x=> .Si fr τ x
 | .Hv l=> .Hv (l.map λp=>(p.1,p.2.map f))
def OB.map (f:AC->AC):OB->OB
 | .arr fr tr e t xs=> .arr fr tr e t xs
 | .Cq e t xs=> .Cq e t xs
 | .var t vs=> .var t (vs.map f)
 | .Ah e te rows out kp=> .Ah e te rows out kp
 | .Mz v m=> .Mz v m
def Qz:List (Nat×OB)->Nat->List (Nat×OB)
 | [],_=> []
 |(k,b)::r,l=>if k=l then Qz r l else (k,b)::Qz r l
def St.Fl (st:St) (f:AC->AC):St:= {tmps:=st.tmps.map (·.map f),heap:=st.heap.map λp=>(p.1,p.2.map f)}
def As (l:Nat):AC->AC
 | .own k off len=>if k=l then .undef else .own k off len
 | .Df k i=>if k=l then .undef else .Df k i
 | .Ey k i=>if k=l then .undef else .Ey k i
 | .clo f Bn=>if (Bn.map (·.1)).contains l then .undef else .clo f Bn
 | .Fm k=>if k=l then .undef else .Fm k
 | .sub k i c=>if k=l then .undef else .sub k i c
 | .Ew k i c=>if k=l then .undef else .Ew k i c
 |a=>a
def St.forget (st:St) (l:Nat):St:=let s:=st.Fl (As l); {s with heap:=Qz s.heap l}
def At (l:Nat) (fr:Bool) (e:Ty) (xs:List e.den):AC->AC
 | .own k off len=>if k=l then .data fr (.slice e) ((xs.drop off).take len) else .own k off len
 | .Ey k i=>if k=l then .undef else .Ey k i
 | .Df k i=>if k=l then .undef else .Df k i
 | .clo f Bn=>if (Bn.map (·.1)).contains l then .undef else .clo f Bn
 | .Fm k=>if k=l then .undef else .Fm k
 | .sub k i c=>if k=l then .undef else .sub k i c
 | .Ew k i c=>if k=l then .undef else .Ew k i c
 |a=>a
def St.freeze (st:St) (l:Nat) (fr:Bool) (e:Ty) (xs:List e.den):St:=let s:=st.Fl (At l fr e xs); {s with heap:=Qz s.heap l}
def Cs (l:Nat) (v:Ty) (m:ByteArray->Option v.den):AC->AC
 | .Fm k=>if k=l then .data false (.smap v) m else .Fm k
 | .own k off len=>if k=l then .undef else .own k off len
 | .Ey k i=>if k=l then .undef else .Ey k i
 | .Df k i=>if k=l then .undef else .Df k i
 | .clo f Bn=>if (Bn.map (·.1)).contains l then .undef else .clo f Bn
 | .sub k i c=>if k=l then .undef else .sub k i c
 | .Ew k i c=>if k=l then .undef else .Ew k i c
 |a=>a
def St.Dw (st:St) (l:Nat) (v:Ty) (m:ByteArray->Option v.den):St:=let s:=st.Fl (Cs l v m); {s with heap:=Qz s.heap l}
def Ib:List (Nat×OB)->Nat->OB->List (Nat×OB)
 | [],l,b=> [(l,b)]
 |(k,c)::r,l,b=>if l<k then (l,b)::(k,c)::r else (k,c)::Ib r l b
def St.new (st:St) (l:Nat) (b:OB):St:=let s:=st.forget l; {s with heap:=Ib s.heap l b}
def Ve:List (Nat×OB)->Nat->OB->List (Nat×OB)
 | [],_,_=> []
 |(k,b)::r,l,b'=>if k=l then (k,b')::r else (k,b)::Ve r l b'
def St.Fb (st:St) (l:Nat) (b:OB):St:= {st with heap:=Ve st.heap l b}
structure Tab where
 ty:TypeId->Option Ty
 elem:TypeId->Option TypeId
 mapOf:TypeId->Option Ty
 off:TypeId->Nat->Option (Nat×TypeId)
 lX:Bool:=true
 qR:Bool:=false
 marks:List Nat:= []
 parts:List Nat:= []
 GQ:List TypeId:= []
def Ty.zero:(τ:Ty)->τ.den
 | .int _=>(0:Int)
 | .bool=>false
 | .str=>(ByteArray.empty)
 | .slice _=> []
 | .oslice _=>none
 | .ptr a=>a.zero
 | .optr _=>none
 | .smap _=> λ_=>none
 | .clo _ c=>c.zero
 | .unit=>()
 | .pair a r=>(a.zero,r.zero)
def Po (fr:Bool):(τ:Ty)->τ.den->List AC
 | .unit,_=> []
 | .pair a r,x=>Po fr a x.1++Po fr r x.2
 |τ,x=> [.data fr τ x]
def ar (fr:Bool):(τ Hz:Ty)->Hz.den->Option (Bool×τ.den)
 | .slice e, .oslice e',x=>if h:e'=e then some (fr,((h▸x:Option (List e.den)).getD [])) else none
 | .optr a, .ptr a',x=>if h:a'=a then some (fr,some (h▸x:a.den)) else none
 |_,_,_=>none
def Bf (st:St):(τ:Ty)->AC->Option (Bool×τ.den)
 |τ, .data fr Hz x=>if h:Hz=τ then some (fr||τ.flat,h▸x) else ar fr τ Hz x
 | .slice _, .Gr=>some (true,[])
 | .oslice _, .Gr=>some (true,none)
 | .optr _, .Ox=>some (true,none)
 | .slice e, .own l off len=>match st.at l with
  |some (.arr fr _ e' _ xs)=>if h:e'=e then some (fr,((h▸xs:List e.den).drop off).take len) else none
  |some (.Cq e' _ xs)=>if h:e'=e then some (true,((h▸xs:List e.den).drop off).take len) else none
  |some (.Ah e' _ rows none _)=>if h: .slice e'=e then some (false,((h▸(rows:List (Ty.slice e').den):List e.den).drop off).take len) else none
  |_=>none
 | .slice e, .sub l i _=>match st.at l with
  |some (.Ah e' _ rows none _)=>if h:e'=e then some (false,(h▸(rows.getD i []:List e'.den):List e.den)) else none
  |_=>none
 | .smap v, .Fm l=>match st.at l with
  |some (.Mz v' m)=>if h:v'=v then some (true,h▸m) else none
  |_=>none
 |_,_=>none
def Ce (st:St):(τ:Ty)->List AC->Option (Bool×τ.den)
 | .unit,[]=>some (true,())
 | .unit,_::_=>none
 | .pair a r,cs=>
  match Ce st a (cs.take a.size),Ce st r (cs.drop a.size) with
  |some (f1,x),some (f2,y)=>some (f1&&f2,(x,y))
  |_,_=>none
 |τ,[c]=>Bf st τ c
 |_,_=>none
def Ma (st:St) (a:Ty) (l i:Nat):Option (Bool×a.den):=
 match st.at l with
 |some (.var _ vs)=>Ce st a ((vs.drop i).take a.size)
 |_=>none
def Fp (st:St):(τ:Ty)->List (Nat×Nat)->Option (Bool×τ.den)
 | .unit,[]=>some (true,())
 | .pair (.ptr a) r,(l,i)::cs=>
  match Ma st a l i,Fp st r cs with
  |some (f1,x),some (f2,y)=>some (f1&&f2,(x,y))
  |_,_=>none
 |_,_=>none
def Ep (st:St):(τ:Ty)->AC->Option (Bool×τ.den)
 | .ptr a, .Df l i=>Ma st a l i
 | .optr a, .Df l i=>(Ma st a l i).map λp=>(p.1,some p.2)
 | .clo f τ, .clo g Bn=>if g=f/\f<1000000000 then Fp st τ Bn else none
 |τ,c=>Bf st τ c
def Cg (st:St) (τ:Ty):AV->Option (Bool×τ.den)
 | .at (.data fr Hz x)=>if h:Hz=τ then some (fr||τ.flat,h▸x) else if τ.Ab then none else Ep st τ (.data fr Hz x)
 | .at a=>if τ.Ab then none else Ep st τ a
 | .agg cs=>if τ.Ab then Ce st τ cs else none
 |_=>none
def Bj (st:St):(τ:Ty)->List AV->Option (Bool×τ.den)
 | .unit,[]=>some (true,())
 | .pair a r,v::vs=>
  match Cg st a v,Bj st r vs with
  |some (f1,x),some (f2,y)=>some (f1&&f2,(x,y))
  |_,_=>none
 |_,_=>none
def AC.settled:AC->Bool
 | .data _ _ _| .Gr| .Ox=>true
 |_=>false
def AV.settled:AV->Bool
 | .at a=>a.settled
 | .agg cs=>cs.all (·.settled)
 | .Si _ _ _=>true
 | .Hv _=>false
inductive CK where
 |Gd (τ:Ty)
 |row (e:Ty) (te:TypeId)
 |Dc (e:Ty) (te:TypeId)
 |part (e:Ty) (te:TypeId)
 |Ah (e:Ty) (te:TypeId) (kp:Bool)
@[reducible] def CK.den:CK->Type
 | .Gd τ=>τ.den
 | .row e _=>List e.den
 | .Dc e _=>List e.den
 | .part e _=>List e.den×Nat×Nat
 | .Ah e _ _=>List (List e.den)
def CK.flat:CK->Bool
 | .Gd τ=>τ.flat
 | .row e _=>e.flat
 | .Dc _ _=>true
 | .part e _=>e.flat
 | .Ah _ _ _=>false
def CK.IC:CK->Bool
 | .Dc _ _=>true
 |_=>false
@[reducible] def CKs.den:List CK->Type
 | []=>Unit
 |c::r=>c.den×CKs.den r
@[reducible] def IOs.den:List (Bool×CK)->Type
 | []=>Unit
 |(true, .Gd _)::r=>IOs.den r
 |(true, .row e _)::r=>List e.den×IOs.den r
 |(true, .Dc e _)::r=>List e.den×IOs.den r
 |(true, .part e _)::r=>List e.den×IOs.den r
 |(true, .Ah _ _ _)::r=>IOs.den r
 |(false,_)::r=>IOs.den r
@[reducible] def Ins.den:List (Bool×CK)->Type
 | []=>Unit
 |p::r=>p.2.den×Ins.den r
structure MSpec where
 ptr:Option (TypeId×Nat):=none
 Gc:List (Option Nat)
 ins:List (Bool×CK)
 Dp:Bool
 Fg:List (Option Nat)
 outs:List CK
 fn:Ins.den ins->Option (CKs.den outs×IOs.den ins)
 keeps:List (Nat×Nat):= []
 Ch:Ins.den ins->Nat:= λ_=>0
 rp:Option TypeId:=none
structure Spec where
 arg:Ty
 res:Ty
 Dp:Bool
 fresh:Bool
 fn:arg.den->Option res.den
inductive eg where
 |q (s:Spec)
 |m (s:MSpec)
 |b (s:Spec) (m:MSpec)
def MSpec.flat (s:MSpec):Bool:=s.outs.all (·.flat)&&s.ins.all λp=>!p.1||p.2.flat
def MSpec.BI (s:MSpec):Bool:=s.flat||s.outs.all λc=>!c.IC
abbrev Env:=FuncId->Option eg
def eA:Value->AV
 | .int k n=> .at (.data true (.int k) n)
 | .bool b=> .at (.data true .bool b)
 | .string s=> .at (.data true .str s)
 | .slice none 0 0=> .at .Gr
 | .pointer none=> .at .Ox
 |_=> .undef
def St.ev (st:St):Operand->AV
 | .tmp t=>st.get t
 | .const v=>eA v
 | .func f=> .at (.clo f [])
 |_=> .undef
def idx {α:Type} (xs:List α) (i:Int):Option α:=if 0<=i then xs[i.toNat]? else none
def IB (n:Int) (len:Nat):Bool:=decide (0<=n)&&decide (n<len)
theorem Lw {n:Int} {len:Nat} :IB n len=true↔0<=n/\n<len:=by simp [IB]
def Rg (k:IntKind) (n:Int):Option AV:=some (.at (.data true (.int k) n))
def Iq (b:Bool):Option AV:=some (.at (.data true .bool b))
def kF (op:BinOp) (k:IntKind) (a b:Int):Option AV:=
 match op with
 | .add=>Rg k (k.wrap (a+b))
 | .sub=>Rg k (k.wrap (a-b))
 | .mul=>Rg k (k.wrap (a*b))
 | .quo=>if b=0 then none else Rg k (k.wrap (a.tdiv b))
 | .rem=>if b=0 then none else Rg k (a.tmod b)
 | .and=>Rg k (k.wrap (BitVec.ofInt k.bits a&&&BitVec.ofInt k.bits b).toNat)
 | .or=>Rg k (k.wrap (BitVec.ofInt k.bits a|||BitVec.ofInt k.bits b).toNat)
 | .eql=>Iq (a==b)
 | .neq=>Iq (a !=b)
 | .lss=>Iq (decide (a<b))
 | .leq=>Iq (decide (a<=b))
 | .gtr=>Iq (decide (a>b))
 | .geq=>Iq (decide (a>=b))
 |_=>none
def evalBin (op:BinOp) (x y:AV):Option AV:=
 match x,y with
 | .at (.data _ (.int k) a), .at (.data _ (.int k') b)=>
  match op with
  | .shl=>if b<0 then none else Rg k (k.wrap (a*2^(min b.toNat k.bits)))
  | .shr=>if b<0 then none else Rg k (a.fdiv (2^(min b.toNat k.bits)))
  |_=>if k=k' then kF op k a b else none
 | .at (.data _ .str a), .at (.data _ .str b)=>
  match op with
  | .eql=>Iq (a.toList==b.toList)
  | .neq=>Iq (!(a.toList==b.toList))
  | .add=>if a.size+b.size<=4294967296 then some (.at (.data true .str (a++b))) else none
  |_=>none
 |_,_=>none
def oU (op:UnOp) (x:AV):Option AV:=
 match op,x with
 | .not, .at (.data _ .bool b)=>Iq (!b)
 | .neg, .at (.data _ (.int k) n)=>Rg k (k.wrap (0-n))
 |_,_=>none
def Vt (c x y:AV):Option AV:=
 match c with
 | .at (.data _ .bool b)=>some (if b then x else y)
 |_=>none
def sn:AV->Option Int
 | .at .Gr=>some 0
 | .at (.data _ (.slice _) xs)=>some xs.length
 | .at (.data _ .str s)=>some s.size
 | .at (.own _ _ len)=>some (len:Int)
 |_=>none
def BC:AV->Option Int
 | .at .Gr=>some 0
 | .at (.data _ (.slice _) xs)=>some xs.length
 | .at (.own _ _ len)=>some (len:Int)
 |_=>none
def sq (st:St):AV->Option Int
 | .at (.sub l i _)=>match st.at l with
  |some (.Ah _ _ rows none _)=>some (rows.getD i []).length
  |_=>none
 |v=>BC v
def xl:AV->Option Int
 | .at (.data _ .str s)=>some s.size
 |_=>none
def Fq:(τ:Ty)->τ.den->Nat->(ρ:Ty)->Option ρ.den
 | .pair a r,x,o,ρ=>if o=0 then (if h:a=ρ then some (h▸x.1) else none) else if o<a.size then none else Fq r x.2 (o-a.size) ρ
 |_,_,_,_=>none
def Yo (l i:Nat):(c:Nat)->(τ:Ty)->τ.den->List AC
 |_, .unit,_=> []
 |c, .pair a r,x=>Yo l i c a x.1++Yo l i (c+a.size) r x.2
 |c,τ,x=> [if τ.flat then .data true τ x else .sub l i c]
variable (T:Tab)
def Jh (st:St) (t:TypeId) (p:AV):Option AV:=
 match T.ty t,p with
 |some τ, .at (.data fr (.ptr Hz) x)=>if Hz=τ then some (.at (.data (fr||Hz.flat) Hz x)) else none
 |some τ, .at (.data fr (.optr Hz) (some x))=>if Hz=τ then some (.at (.data (fr||Hz.flat) Hz x)) else none
 |some τ, .at (.Df l i)=>match st.at l with
  |some (.var _ vs)=>if τ.Ab then (if i+τ.size<=vs.length then some (.agg ((vs.drop i).take τ.size)) else none) else vs[i]?.map .at
  |_=>none
 |some τ, .at (.Ey l i)=>match st.at l with
  |some (.arr fr _ e _ xs)=>if e=τ then xs[i]?.map λx=> .at (.data (fr||e.flat) e x) else none
  |some (.Cq e _ xs)=>if e=τ then xs[i]?.map λx=>if e.Ab then .agg (Yo l i 0 e x) else .at ((Yo l i 0 e x).headD .undef) else none
  |some (.Ah _ _ _ none _)=>if τ.Ab then none else some (.at (.sub l i 0))
  |_=>none
 |some τ, .at (.Ew l i j)=>match st.at l with
  |some (.Ah e _ rows none _)=>if e=τ then some (.at (.data e.flat e ((rows.getD i []).getD j e.zero))) else none
  |_=>none
 |_,_=>none
def Ff (st:St) (t:TypeId) (x i:AV):Option AV:=
 match x,i with
 | .at (.data fr (.slice e) xs), .at (.data _ (.int _) n)=>if (T.elem t).bind T.ty=some e then (idx xs n).map λx=> .at (.data fr (.ptr e) x) else none
 | .at (.own l off len), .at (.data _ (.int _) n)=>match st.at l with
  |some (.arr _ _ e tid _)=>if T.elem t=some tid/\T.ty tid=some e/\IB n len=true then some (.at (.Ey l (off+n.toNat))) else none
  |some (.Cq e tid _)=>if T.elem t=some tid/\T.ty tid=some e/\IB n len=true then some (.at (.Ey l (off+n.toNat))) else none
  |some (.Ah _ te _ _ _)=>if T.elem t=some te/\(T.ty te).map Ty.size=some 1/\IB n len=true then some (.at (.Ey l (off+n.toNat))) else none
  |_=>none
 | .at (.sub l i _), .at (.data _ (.int _) n)=>match st.at l with
  |some (.Ah e _ rows none _)=>if ((T.elem t).bind T.ty).map Ty.size=some e.size/\IB n (rows.getD i []).length=true then some (.at (.Ew l i n.toNat)) else none
  |_=>none
 |_,_=>none
def Hq (s:TypeId) (x:AV) (f:Nat):Option AV:=
 match T.off s f,x with
 |some (o,_), .at (.Df l i)=>some (.at (.Df l (i+o)))
 |some (o,t), .at (.data fr (.ptr τ) x)=>if T.ty s=some τ then (T.ty t).bind λρ=>(Fq τ x o ρ).map λy=> .at (.data fr (.ptr ρ) y) else none
 |some (o,t), .at (.data fr (.optr τ) (some x))=>if T.ty s=some τ then (T.ty t).bind λρ=>(Fq τ x o ρ).map λy=> .at (.data fr (.ptr ρ) y) else none
 |_,_=>none
def fV (s:TypeId) (x:AV) (f:Nat):Option AV:=
 match T.off s f,x with
 |some (o,t), .agg cs=>(T.ty t).bind λρ=>if ρ.Ab then none else cs[o]?.map .at
 |some (o,t), .at (.data fr τ x)=>if T.ty s=some τ then (T.ty t).bind λρ=>(Fq τ x o ρ).map λy=> .at (.data fr ρ y) else none
 |_,_=>none
def zo (v:Option AV) (d:Int):Option Int:=
 match v with
 |none=>some d
 |some (.at (.data _ (.int _) n))=>some n
 |_=>none
def Vu (st:St) (t:TypeId) (x:AV) (lo hi:Option AV):Option AV:=
 match sn x with
 |none=>none
 |some n=>
  match zo lo 0,zo hi n with
  |some l,some h=>
   if 0<=l/\l<=h/\h<=n then
    match x with
    | .at (.data fr (.slice e) xs)=>if (T.elem t).bind T.ty=some e then some (.at (.data fr (.slice e) ((xs.take h.toNat).drop l.toNat))) else none
    | .at (.own k off _)=>match st.at k with
     |some (.arr _ _ e tid _)=>if T.elem t=some tid/\T.ty tid=some e then some (.at (.own k (off+l.toNat) (h.toNat-l.toNat))) else none
     |_=>none
    | .at (.data _ .str s)=>if T.ty t=some .str then some (.at (.data true .str (s.extract l.toNat h.toNat))) else none
    |_=>none
   else none
  |_,_=>none
def bQ (t:TypeId) (x i:AV):Option AV:=
 match x,i with
 | .at (.data _ .str s), .at (.data _ (.int _) n)=>if T.ty t=some .str then (if 0<=n then s[n.toNat]?.map λb=> .at (.data true (.int .u8) b.toNat) else none) else none
 |_,_=>none
def Ii (Γ:Env) (st:St) (f:FuncId) (args:List AV):Option AV:=
 match Γ f with
 |some (.q s)=>
  if s.fresh||s.res.flat||args.all (·.settled) then
   match Bj st s.arg args with
   |none=>none
   |some (_,x)=>(s.fn x).map λy=>if s.Dp then .Si (s.fresh||s.res.flat) s.res y else .at (.data (s.fresh||s.res.flat) s.res y)
  else none
 |_=>none
def Ty.chain:Ty->Bool
 | .unit=>true
 | .pair a r=>!a.Ab&&r.chain
 |_=>false
def Sp (fr:Bool):(τ:Ty)->τ.den->List AV
 | .pair a r,x=> .at (.data fr a x.1)::Sp fr r x.2
 |_,_=> []
def Om (Γ:Env) (st:St) (v:AV) (args:List AV):Option AV:=
 match v with
 | .at (.data fr (.clo f τ) x)=>if τ.chain then (if f<1000000000 then Ii Γ st f (args++Sp fr τ x) else Ii Γ st (f-1000000000) (Sp fr τ x++args)) else none
 | .at (.clo f Bn)=>Ii Γ st f (args++Bn.map λp=> .at (.Df p.1 p.2))
 |_=>none
def dx:List AV->Option (List (Nat×Nat))
 | []=>some []
 | .at (.Df l i)::r=>(dx r).map λc=>(l,i)::c
 |_=>none
def Xk (st:St) (t:TypeId) (m k:AV) (ok:Bool):Option AV:=
 match T.mapOf t,k with
 |some v, .at (.data _ .str s)=>
  match Cg st (.smap v) m with
  |some (_,f)=>some (if ok then .Si true (.pair v (.pair .bool .unit)) (((f s).getD v.zero),(f s).isSome,()) else .at (.data true v ((f s).getD v.zero)))
  |none=>none
 |_,_=>none
def Vs (x:AV):Option Bool:=
 match x with
 | .at .Gr=>some true
 | .at (.data _ (.oslice _) x)=>some x.isNone
 |_=>none
def Vr (x:AV):Option Bool:=
 match x with
 | .at .Ox=>some true
 | .at (.Df _ _)=>some false
 | .at (.data _ (.optr _) x)=>some x.isNone
 | .at (.data _ (.ptr _) _)=>some false
 |_=>none
def AY:Option Ty->Bool
 |some (.ptr _)=>true
 |some (.optr _)=>true
 |_=>false
def Um (fr:Bool):(τ:Ty)->τ.den->Nat->Option AV
 | .pair a _,x,0=>some (.at (.data fr a x.1))
 | .pair _ r,x,n+1=>Um fr r x.2 n
 |_,_,_=>none
def NM:Bool×List AC->Option AV
 |(true,cs)=>some (.agg cs)
 |(false,[a])=>some (.at a)
 |_=>none
def CX (l:List (Bool×List AC)) (i:Nat):Option AV:=(l[i]?).bind NM
def oS (mx:Bool):List AV->Option AV
 | [.at (.data _ (.int k) a), .at (.data _ (.int k') b)]=>if k=k' then Rg k (if mx then (if b>a then b else a) else (if b<a then b else a)) else none
 |_=>none
def Lp (op:BinOp) (t:TypeId) (x y:AV):Option AV:=
 match op,x,y with
 | .eql,x, .at .Gr=>if (T.elem t).isSome then (Vs x).bind Iq else none
 | .eql,x, .at .Ox=>if AY (T.ty t) then (Vr x).bind Iq else none
 | .neq,x, .at .Gr=>if (T.elem t).isSome then (Vs x).bind λb=>Iq (!b) else none
 | .neq,x, .at .Ox=>if AY (T.ty t) then (Vr x).bind λb=>Iq (!b) else none
 | .eql, .at (.data _ .bool a), .at (.data _ .bool b)=>if T.ty t=some .bool then Iq (a==b) else none
 | .neq, .at (.data _ .bool a), .at (.data _ .bool b)=>if T.ty t=some .bool then Iq (!(a==b)) else none
 |op,x,y=>evalBin op x y
def bytesOf (l:List Int):ByteArray:=⟨(l.map λn=>UInt8.ofNat n.toNat).toArray⟩
def gH:AV->AV
 | .at (.data fr (.oslice e) x)=> .at (.data fr (.slice e) (x.getD []))
 |v=>v
def Bz (Γ:Env) (st:St) (o:Oper):Option AV:=
 match o.op with
 | .move x=>some (st.ev x)
 | .assign x=>some (st.ev x)
 | .pick c a b=>Vt (st.ev c) (st.ev a) (st.ev b)
 | .load t a=>Jh T st t (st.ev a)
 | .nilCheck x=>match st.ev x with
  | .at (.data fr (.ptr τ) x)=>some (.at (.data fr (.ptr τ) x))
  | .at (.data fr (.optr τ) (some x))=>some (.at (.data fr (.ptr τ) x))
  | .at (.Df l i)=>some (.at (.Df l i))
  | .at (.Ey l i)=>some (.at (.Ey l i))
  |_=>none
 | .binOp op t x y _=>Lp T op t (st.ev x) (st.ev y)
 | .unOp op _ x=>oU op (st.ev x)
 | .convert s t x=>match T.ty s,T.ty t,st.ev x with
  |some _,some (.int k), .at (.data _ (.int _) n)=>Rg k (k.wrap n)
  |some (.slice (.int .u8)),some .str,_=>(Cg st (.slice (.int .u8)) (st.ev x)).map λp=> .at (.data true .str (bytesOf p.2))
  |_,_,_=>none
 | .slice t x lo hi mx=>if mx.isSome then none else Vu T st t (st.ev x) (lo.map st.ev) (hi.map st.ev)
 | .fieldAddr s x f=>Hq T s (st.ev x) f
 | .field s x f=>fV T s (st.ev x) f
 | .indexAddr t x i=>Ff T st t (gH (st.ev x)) (st.ev i)
 | .index t x i=>bQ T t (st.ev x) (st.ev i)
 | .extract x i=>match st.ev x with
  | .Si fr τ y=>Um fr τ y i
  | .Hv l=>CX l i
  |_=>none
 | .call {callee:= .value (.func f),args, .. } =>Ii Γ st f (args.toList.map st.ev)
 | .call {callee:= .value (.tmp t),args, .. } =>Om Γ st (st.get t) (args.toList.map st.ev)
 | .makeFunc (.func f) first Bn=>match first.toList.map st.ev with
  | []=>(dx (Bn.toList.map st.ev)).map λc=> .at (.clo f c)
  | [.at (.data fr τ x)]=>if Bn.isEmpty&&!τ.Ab then some (.at (.data fr (.clo (f+1000000000) (.pair τ .unit)) (x,()))) else none
  |_=>none
 | .lookup t m k ok=>Xk T st t (st.ev m) (st.ev k) ok
 | .call {callee:= .builtin .len,args,argTypes} =>match args.toList,argTypes.toList with
  | [x],[t]=>match T.ty t with
   |some (.slice _)=>(sq st (st.ev x)).bind (Rg .i64)
   |some (.oslice _)=>(sq st (gH (st.ev x))).bind (Rg .i64)
   |some .str=>(xl (st.ev x)).bind (Rg .i64)
   |_=>none
  |_,_=>none
 | .call {callee:= .builtin .min,args, .. } =>oS false (args.toList.map st.ev)
 | .call {callee:= .builtin .max,args, .. } =>oS true (args.toList.map st.ev)
 |_=>none
def Og (st:St) (t:Option Tmp):Option (Option Bool):=
 match t with
 |some t=>match st.get t with
  | .at (.data _ .bool b)=>some (some b)
  | .at .skip=>some none
  |_=>none
 |none=>none
end Go.Proofs.Ytjbdmibbbpdnnaa
