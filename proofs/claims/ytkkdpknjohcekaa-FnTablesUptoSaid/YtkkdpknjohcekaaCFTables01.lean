/-
  Part 2 of the proof that the statement FnTables holds.
-/
import Derived.Test.YtkkdpknjohcekaaCFTables00
namespace Go.Proofs.Ytkkdpknjohcekaa
open Go.RowKit
inductive AC where
 |undef
 |skip
 |Le
 |Ua
 |data (fr:Bool) (τ:Ty) (x:τ.den)
 |own (l off len:Nat)
 |Gs (l i:Nat)
 |Jl (l i:Nat)
 |clo (f:Nat) (Dy:List (Nat×Nat))
 |Jw (l:Nat)
 |sub (l i c:Nat)
 |Ji (l i j:Nat)
inductive AV where
 |at (a:AC)
 |agg (cs:List AC)
 |Zw (fr:Bool) (τ:Ty) (x:τ.den)
 |Mb (l:List (Bool×List AC))
@[reducible] def AV.undef:AV:= .at .undef
inductive OB where
 |arr (fr tr:Bool) (e:Ty) (tid:TypeId) (xs:List e.den)
 |Gl (e:Ty) (tid:TypeId) (xs:List e.den)
 |var (tid:TypeId) (vs:List AC)
 |Bm (e:Ty) (te:TypeId) (rows:List (List e.den)) (out:Option Nat) (kp:Option (Nat×Nat))
 |Ub (v:Ty) (m:ByteArray->Option v.den)
structure St where
 tmps:List AV
 heap:List (Nat×OB)
def Aq:List (Nat×OB)->Nat->Option OB
 | [],_=>none
 |(k,b)::r,l=>if k=l then some b else Aq r l
def St.get (st:St) (t:Nat):AV:=st.tmps.getD t .undef
def St.at (st:St) (l:Nat):Option OB:=Aq st.heap l
def Rg {α:Type} :List α->Nat->α->List α
 | [],_,_=> []
 |_::r,0,y=>y::r
 |x::r,n+1,y=>x::Rg r n y
def St.put (st:St) (dst:Option Tmp) (v:AV):St:=
 match dst with
 |some d=> {st with tmps:=Rg st.tmps d v}
 |none=>st
def AV.map (f:AC->AC):AV->AV
 | .at a=> .at (f a)
 | .agg cs=> .agg (cs.map f)
 | .Zw fr τ x=> .Zw fr τ x
 | .Mb l=> .Mb (l.map λp=>(p.1,p.2.map f))
def OB.map (f:AC->AC):OB->OB
 | .arr fr tr e t xs=> .arr fr tr e t xs
 | .Gl e t xs=> .Gl e t xs
 | .var t vs=> .var t (vs.map f)
 | .Bm e te rows out kp=> .Bm e te rows out kp
 | .Ub v m=> .Ub v m
def Yn:List (Nat×OB)->Nat->List (Nat×OB)
 | [],_=> []
 |(k,b)::r,l=>if k=l then Yn r l else (k,b)::Yn r l
def St.Kh (st:St) (f:AC->AC):St:= {tmps:=st.tmps.map (·.map f),heap:=st.heap.map λp=>(p.1,p.2.map f)}
def Cb (l:Nat):AC->AC
 | .own k off len=>if k=l then .undef else .own k off len
 | .Gs k i=>if k=l then .undef else .Gs k i
 | .Jl k i=>if k=l then .undef else .Jl k i
 | .clo f Dy=>if (Dy.map (·.1)).contains l then .undef else .clo f Dy
 | .Jw k=>if k=l then .undef else .Jw k
 | .sub k i c=>if k=l then .undef else .sub k i c
 | .Ji k i c=>if k=l then .undef else .Ji k i c
 |a=>a
def St.forget (st:St) (l:Nat):St:=let s:=st.Kh (Cb l); {s with heap:=Yn s.heap l}
def Co (l:Nat) (fr:Bool) (e:Ty) (xs:List e.den):AC->AC
 | .own k off len=>if k=l then .data fr (.slice e) ((xs.drop off).take len) else .own k off len
 | .Jl k i=>if k=l then .undef else .Jl k i
 | .Gs k i=>if k=l then .undef else .Gs k i
 | .clo f Dy=>if (Dy.map (·.1)).contains l then .undef else .clo f Dy
 | .Jw k=>if k=l then .undef else .Jw k
 | .sub k i c=>if k=l then .undef else .sub k i c
 | .Ji k i c=>if k=l then .undef else .Ji k i c
 |a=>a
def St.freeze (st:St) (l:Nat) (fr:Bool) (e:Ty) (xs:List e.den):St:=let s:=st.Kh (Co l fr e xs); {s with heap:=Yn s.heap l}
def Gq (l:Nat) (v:Ty) (m:ByteArray->Option v.den):AC->AC
 | .Jw k=>if k=l then .data false (.smap v) m else .Jw k
 | .own k off len=>if k=l then .undef else .own k off len
 | .Jl k i=>if k=l then .undef else .Jl k i
 | .Gs k i=>if k=l then .undef else .Gs k i
 | .clo f Dy=>if (Dy.map (·.1)).contains l then .undef else .clo f Dy
 | .sub k i c=>if k=l then .undef else .sub k i c
 | .Ji k i c=>if k=l then .undef else .Ji k i c
 |a=>a
def St.Ie (st:St) (l:Nat) (v:Ty) (m:ByteArray->Option v.den):St:=let s:=st.Kh (Gq l v m); {s with heap:=Yn s.heap l}
def Nj:List (Nat×OB)->Nat->OB->List (Nat×OB)
 | [],l,b=> [(l,b)]
 |(k,c)::r,l,b=>if l<k then (l,b)::(k,c)::r else (k,c)::Nj r l b
def St.new (st:St) (l:Nat) (b:OB):St:=let s:=st.forget l; {s with heap:=Nj s.heap l b}
def Yj:List (Nat×OB)->Nat->OB->List (Nat×OB)
 | [],_,_=> []
 |(k,b)::r,l,b'=>if k=l then (k,b')::r else (k,b)::Yj r l b'
def St.Jh (st:St) (l:Nat) (b:OB):St:= {st with heap:=Yj st.heap l b}
structure Tab where
 ty:TypeId->Option Ty
 elem:TypeId->Option TypeId
 mapOf:TypeId->Option Ty
 off:TypeId->Nat->Option (Nat×TypeId)
 sv:Bool:=true
 AQ:Bool:=false
 marks:List Nat:= []
 parts:List Nat:= []
 Ack:List TypeId:= []
def Ty.zero:(τ:Ty)->τ.den
 | .int _=>(0:Int)
 | .bool=>false
 | .str=>(ByteArray.empty)
 | .slice _=> []
 | .oslice _=>none
 | .ptr a=>a.zero
 | .optr _=>none
 | .smap _=> λ_=>none
 | .clo _ c=>c.zero
 | .unit=>()
 | .pair a r=>(a.zero,r.zero)
def Qy (fr:Bool):(τ:Ty)->τ.den->List AC
 | .unit,_=> []
 | .pair a r,x=>Qy fr a x.1++Qy fr r x.2
 |τ,x=> [.data fr τ x]
def fD (fr:Bool):(τ Nh:Ty)->Nh.den->Option (Bool×τ.den)
 | .slice e, .oslice e',x=>if h:e'=e then some (fr,((h▸x:Option (List e.den)).getD [])) else none
 | .optr a, .ptr a',x=>if h:a'=a then some (fr,some (h▸x:a.den)) else none
 |_,_,_=>none
def Dj (st:St):(τ:Ty)->AC->Option (Bool×τ.den)
 |τ, .data fr Nh x=>if h:Nh=τ then some (fr||τ.flat,h▸x) else fD fr τ Nh x
 | .slice _, .Le=>some (true,[])
 | .oslice _, .Le=>some (true,none)
 | .optr _, .Ua=>some (true,none)
 | .slice e, .own l off len=>match st.at l with
  |some (.arr fr _ e' _ xs)=>if h:e'=e then some (fr,((h▸xs:List e.den).drop off).take len) else none
  |some (.Gl e' _ xs)=>if h:e'=e then some (true,((h▸xs:List e.den).drop off).take len) else none
  |some (.Bm e' _ rows none _)=>if h: .slice e'=e then some (false,((h▸(rows:List (Ty.slice e').den):List e.den).drop off).take len) else none
  |_=>none
 | .slice e, .sub l i _=>match st.at l with
  |some (.Bm e' _ rows none _)=>if h:e'=e then some (false,(h▸(rows.getD i []:List e'.den):List e.den)) else none
  |_=>none
 | .smap v, .Jw l=>match st.at l with
  |some (.Ub v' m)=>if h:v'=v then some (true,h▸m) else none
  |_=>none
 |_,_=>none
def Er (st:St):(τ:Ty)->List AC->Option (Bool×τ.den)
 | .unit,[]=>some (true,())
 | .unit,_::_=>none
 | .pair a r,cs=>
  match Er st a (cs.take a.size),Er st r (cs.drop a.size) with
  |some (f1,x),some (f2,y)=>some (f1&&f2,(x,y))
  |_,_=>none
 |τ,[c]=>Dj st τ c
 |_,_=>none
def Sx (st:St) (a:Ty) (l i:Nat):Option (Bool×a.den):=
 match st.at l with
 |some (.var _ vs)=>Er st a ((vs.drop i).take a.size)
 |_=>none
def Kk (st:St):(τ:Ty)->List (Nat×Nat)->Option (Bool×τ.den)
 | .unit,[]=>some (true,())
 | .pair (.ptr a) r,(l,i)::cs=>
  match Sx st a l i,Kk st r cs with
  |some (f1,x),some (f2,y)=>some (f1&&f2,(x,y))
  |_,_=>none
 |_,_=>none
def Jf (st:St):(τ:Ty)->AC->Option (Bool×τ.den)
 | .ptr a, .Gs l i=>Sx st a l i
 | .optr a, .Gs l i=>(Sx st a l i).map λp=>(p.1,some p.2)
 | .clo f τ, .clo g Dy=>if g=f/\f<1000000000 then Kk st τ Dy else none
 |τ,c=>Dj st τ c
def Fe (st:St) (τ:Ty):AV->Option (Bool×τ.den)
 | .at (.data fr Nh x)=>if h:Nh=τ then some (fr||τ.flat,h▸x) else if τ.Am then none else Jf st τ (.data fr Nh x)
 | .at a=>if τ.Am then none else Jf st τ a
 | .agg cs=>if τ.Am then Er st τ cs else none
 |_=>none
def Dr (st:St):(τ:Ty)->List AV->Option (Bool×τ.den)
 | .unit,[]=>some (true,())
 | .pair a r,v::vs=>
  match Fe st a v,Dr st r vs with
  |some (f1,x),some (f2,y)=>some (f1&&f2,(x,y))
  |_,_=>none
 |_,_=>none
def AC.settled:AC->Bool
 | .data _ _ _| .Le| .Ua=>true
 |_=>false
def AV.settled:AV->Bool
 | .at a=>a.settled
 | .agg cs=>cs.all (·.settled)
 | .Zw _ _ _=>true
 | .Mb _=>false
inductive CK where
 |Fp (τ:Ty)
 |row (e:Ty) (te:TypeId)
 |Hb (e:Ty) (te:TypeId)
 |part (e:Ty) (te:TypeId)
 |Bm (e:Ty) (te:TypeId) (kp:Bool)
@[reducible] def CK.den:CK->Type
 | .Fp τ=>τ.den
 | .row e _=>List e.den
 | .Hb e _=>List e.den
 | .part e _=>List e.den×Nat×Nat
 | .Bm e _ _=>List (List e.den)
def CK.flat:CK->Bool
 | .Fp τ=>τ.flat
 | .row e _=>e.flat
 | .Hb _ _=>true
 | .part e _=>e.flat
 | .Bm _ _ _=>false
def CK.YL:CK->Bool
 | .Hb _ _=>true
 |_=>false
@[reducible] def CKs.den:List CK->Type
 | []=>Unit
 |c::r=>c.den×CKs.den r
@[reducible] def IOs.den:List (Bool×CK)->Type
 | []=>Unit
 |(true, .Fp _)::r=>IOs.den r
 |(true, .row e _)::r=>List e.den×IOs.den r
 |(true, .Hb e _)::r=>List e.den×IOs.den r
 |(true, .part e _)::r=>List e.den×IOs.den r
 |(true, .Bm _ _ _)::r=>IOs.den r
 |(false,_)::r=>IOs.den r
@[reducible] def Ins.den:List (Bool×CK)->Type
 | []=>Unit
 |p::r=>p.2.den×Ins.den r
structure MSpec where
 ptr:Option (TypeId×Nat):=none
 Jn:List (Option Nat)
 ins:List (Bool×CK)
 Hx:Bool
 Im:List (Option Nat)
 outs:List CK
 fn:Ins.den ins->Option (CKs.den outs×IOs.den ins)
 keeps:List (Nat×Nat):= []
 Gg:Ins.den ins->Nat:= λ_=>0
 rp:Option TypeId:=none
structure Spec where
 arg:Ty
 res:Ty
 Hx:Bool
 fresh:Bool
 fn:arg.den->Option res.den
inductive pv where
 |q (s:Spec)
 |m (s:MSpec)
 |b (s:Spec) (m:MSpec)
def MSpec.flat (s:MSpec):Bool:=s.outs.all (·.flat)&&s.ins.all λp=>!p.1||p.2.flat
def MSpec.QU (s:MSpec):Bool:=s.flat||s.outs.all λc=>!c.YL
abbrev Env:=FuncId->Option pv
def kO:Value->AV
 | .int k n=> .at (.data true (.int k) n)
 | .bool b=> .at (.data true .bool b)
 | .string s=> .at (.data true .str s)
 | .slice none 0 0=> .at .Le
 | .pointer none=> .at .Ua
 |_=> .undef
def St.ev (st:St):Operand->AV
 | .tmp t=>st.get t
 | .const v=>kO v
 | .func f=> .at (.clo f [])
 |_=> .undef
def idx {α:Type} (xs:List α) (i:Int):Option α:=if 0<=i then xs[i.toNat]? else none
def YK (n:Int) (len:Nat):Bool:=decide (0<=n)&&decide (n<len)
theorem So {n:Int} {len:Nat} :YK n len=true↔0<=n/\n<len:=by simp [YK]
def Yx (k:IntKind) (n:Int):Option AV:=some (.at (.data true (.int k) n))
def Oh (b:Bool):Option AV:=some (.at (.data true .bool b))
def qx (op:BinOp) (k:IntKind) (a b:Int):Option AV:=
 match op with
 | .add=>Yx k (k.wrap (a+b))
 | .sub=>Yx k (k.wrap (a-b))
 | .mul=>Yx k (k.wrap (a*b))
 | .quo=>if b=0 then none else Yx k (k.wrap (a.tdiv b))
 | .rem=>if b=0 then none else Yx k (a.tmod b)
 | .and=>Yx k (k.wrap (BitVec.ofInt k.bits a&&&BitVec.ofInt k.bits b).toNat)
 | .or=>Yx k (k.wrap (BitVec.ofInt k.bits a|||BitVec.ofInt k.bits b).toNat)
 | .eql=>Oh (a==b)
 | .neq=>Oh (a !=b)
 | .lss=>Oh (decide (a<b))
 | .leq=>Oh (decide (a<=b))
 | .gtr=>Oh (decide (a>b))
 | .geq=>Oh (decide (a>=b))
 |_=>none
def evalBin (op:BinOp) (x y:AV):Option AV:=
 match x,y with
 | .at (.data _ (.int k) a), .at (.data _ (.int k') b)=>
  match op with
  | .shl=>if b<0 then none else Yx k (k.wrap (a*2^(min b.toNat k.bits)))
  | .shr=>if b<0 then none else Yx k (a.fdiv (2^(min b.toNat k.bits)))
  |_=>if k=k' then qx op k a b else none
 | .at (.data _ .str a), .at (.data _ .str b)=>
  match op with
  | .eql=>Oh (a.toList==b.toList)
  | .neq=>Oh (!(a.toList==b.toList))
  | .add=>if a.size+b.size<=4294967296 then some (.at (.data true .str (a++b))) else none
  |_=>none
 |_,_=>none
def vS (op:UnOp) (x:AV):Option AV:=
 match op,x with
 | .not, .at (.data _ .bool b)=>Oh (!b)
 | .neg, .at (.data _ (.int k) n)=>Yx k (k.wrap (0-n))
 |_,_=>none
def ck (c x y:AV):Option AV:=
 match c with
 | .at (.data _ .bool b)=>some (if b then x else y)
 |_=>none
def za:AV->Option Int
 | .at .Le=>some 0
 | .at (.data _ (.slice _) xs)=>some xs.length
 | .at (.data _ .str s)=>some s.size
 | .at (.own _ _ len)=>some (len:Int)
 |_=>none
def QN:AV->Option Int
 | .at .Le=>some 0
 | .at (.data _ (.slice _) xs)=>some xs.length
 | .at (.own _ _ len)=>some (len:Int)
 |_=>none
def zc (st:St):AV->Option Int
 | .at (.sub l i _)=>match st.at l with
  |some (.Bm _ _ rows none _)=>some (rows.getD i []).length
  |_=>none
 |v=>QN v
def HY:AV->Option Int
 | .at (.data _ .str s)=>some s.size
 |_=>none
def Ko:(τ:Ty)->τ.den->Nat->(ρ:Ty)->Option ρ.den
 | .pair a r,x,o,ρ=>if o=0 then (if h:a=ρ then some (h▸x.1) else none) else if o<a.size then none else Ko r x.2 (o-a.size) ρ
 |_,_,_,_=>none
def dO (l i:Nat):(c:Nat)->(τ:Ty)->τ.den->List AC
 |_, .unit,_=> []
 |c, .pair a r,x=>dO l i c a x.1++dO l i (c+a.size) r x.2
 |c,τ,x=> [if τ.flat then .data true τ x else .sub l i c]
variable (T:Tab)
def Pe (st:St) (t:TypeId) (p:AV):Option AV:=
 match T.ty t,p with
 |some τ, .at (.data fr (.ptr Nh) x)=>if Nh=τ then some (.at (.data (fr||Nh.flat) Nh x)) else none
 |some τ, .at (.data fr (.optr Nh) (some x))=>if Nh=τ then some (.at (.data (fr||Nh.flat) Nh x)) else none
 |some τ, .at (.Gs l i)=>match st.at l with
  |some (.var _ vs)=>if τ.Am then (if i+τ.size<=vs.length then some (.agg ((vs.drop i).take τ.size)) else none) else vs[i]?.map .at
  |_=>none
 |some τ, .at (.Jl l i)=>match st.at l with
  |some (.arr fr _ e _ xs)=>if e=τ then xs[i]?.map λx=> .at (.data (fr||e.flat) e x) else none
  |some (.Gl e _ xs)=>if e=τ then xs[i]?.map λx=>if e.Am then .agg (dO l i 0 e x) else .at ((dO l i 0 e x).headD .undef) else none
  |some (.Bm _ _ _ none _)=>if τ.Am then none else some (.at (.sub l i 0))
  |_=>none
 |some τ, .at (.Ji l i j)=>match st.at l with
  |some (.Bm e _ rows none _)=>if e=τ then some (.at (.data e.flat e ((rows.getD i []).getD j e.zero))) else none
  |_=>none
 |_,_=>none
def Ka (st:St) (t:TypeId) (x i:AV):Option AV:=
 match x,i with
 | .at (.data fr (.slice e) xs), .at (.data _ (.int _) n)=>if (T.elem t).bind T.ty=some e then (idx xs n).map λx=> .at (.data fr (.ptr e) x) else none
 | .at (.own l off len), .at (.data _ (.int _) n)=>match st.at l with
  |some (.arr _ _ e tid _)=>if T.elem t=some tid/\T.ty tid=some e/\YK n len=true then some (.at (.Jl l (off+n.toNat))) else none
  |some (.Gl e tid _)=>if T.elem t=some tid/\T.ty tid=some e/\YK n len=true then some (.at (.Jl l (off+n.toNat))) else none
  |some (.Bm _ te _ _ _)=>if T.elem t=some te/\(T.ty te).map Ty.size=some 1/\YK n len=true then some (.at (.Jl l (off+n.toNat))) else none
  |_=>none
 | .at (.sub l i _), .at (.data _ (.int _) n)=>match st.at l with
  |some (.Bm e _ rows none _)=>if ((T.elem t).bind T.ty).map Ty.size=some e.size/\YK n (rows.getD i []).length=true then some (.at (.Ji l i n.toNat)) else none
  |_=>none
 |_,_=>none
def Nc (s:TypeId) (x:AV) (f:Nat):Option AV:=
 match T.off s f,x with
 |some (o,_), .at (.Gs l i)=>some (.at (.Gs l (i+o)))
 |some (o,t), .at (.data fr (.ptr τ) x)=>if T.ty s=some τ then (T.ty t).bind λρ=>(Ko τ x o ρ).map λy=> .at (.data fr (.ptr ρ) y) else none
 |some (o,t), .at (.data fr (.optr τ) (some x))=>if T.ty s=some τ then (T.ty t).bind λρ=>(Ko τ x o ρ).map λy=> .at (.data fr (.ptr ρ) y) else none
 |_,_=>none
def mf (s:TypeId) (x:AV) (f:Nat):Option AV:=
 match T.off s f,x with
 |some (o,t), .agg cs=>(T.ty t).bind λρ=>if ρ.Am then none else cs[o]?.map .at
 |some (o,t), .at (.data fr τ x)=>if T.ty s=some τ then (T.ty t).bind λρ=>(Ko τ x o ρ).map λy=> .at (.data fr ρ y) else none
 |_,_=>none
def NK (v:Option AV) (d:Int):Option Int:=
 match v with
 |none=>some d
 |some (.at (.data _ (.int _) n))=>some n
 |_=>none
def cm (st:St) (t:TypeId) (x:AV) (lo hi:Option AV):Option AV:=
 match za x with
 |none=>none
 |some n=>
  match NK lo 0,NK hi n with
  |some l,some h=>
   if 0<=l/\l<=h/\h<=n then
    match x with
    | .at (.data fr (.slice e) xs)=>if (T.elem t).bind T.ty=some e then some (.at (.data fr (.slice e) ((xs.take h.toNat).drop l.toNat))) else none
    | .at (.own k off _)=>match st.at k with
     |some (.arr _ _ e tid _)=>if T.elem t=some tid/\T.ty tid=some e then some (.at (.own k (off+l.toNat) (h.toNat-l.toNat))) else none
     |_=>none
    | .at (.data _ .str s)=>if T.ty t=some .str then some (.at (.data true .str (s.extract l.toNat h.toNat))) else none
    |_=>none
   else none
  |_,_=>none
def ic (t:TypeId) (x i:AV):Option AV:=
 match x,i with
 | .at (.data _ .str s), .at (.data _ (.int _) n)=>if T.ty t=some .str then (if 0<=n then s[n.toNat]?.map λb=> .at (.data true (.int .u8) b.toNat) else none) else none
 |_,_=>none
def Nq (Γ:Env) (st:St) (f:FuncId) (args:List AV):Option AV:=
 match Γ f with
 |some (.q s)=>
  if s.fresh||s.res.flat||args.all (·.settled) then
   match Dr st s.arg args with
   |none=>none
   |some (_,x)=>(s.fn x).map λy=>if s.Hx then .Zw (s.fresh||s.res.flat) s.res y else .at (.data (s.fresh||s.res.flat) s.res y)
  else none
 |_=>none
def Ty.chain:Ty->Bool
 | .unit=>true
 | .pair a r=>!a.Am&&r.chain
 |_=>false
def a8 (fr:Bool):(τ:Ty)->τ.den->List AV
 | .pair a r,x=> .at (.data fr a x.1)::a8 fr r x.2
 |_,_=> []
def Wb (Γ:Env) (st:St) (v:AV) (args:List AV):Option AV:=
 match v with
 | .at (.data fr (.clo f τ) x)=>if τ.chain then (if f<1000000000 then Nq Γ st f (args++a8 fr τ x) else Nq Γ st (f-1000000000) (a8 fr τ x++args)) else none
 | .at (.clo f Dy)=>Nq Γ st f (args++Dy.map λp=> .at (.Gs p.1 p.2))
 |_=>none
def jQ:List AV->Option (List (Nat×Nat))
 | []=>some []
 | .at (.Gs l i)::r=>(jQ r).map λc=>(l,i)::c
 |_=>none
def da (st:St) (t:TypeId) (m k:AV) (ok:Bool):Option AV:=
 match T.mapOf t,k with
 |some v, .at (.data _ .str s)=>
  match Fe st (.smap v) m with
  |some (_,f)=>some (if ok then .Zw true (.pair v (.pair .bool .unit)) (((f s).getD v.zero),(f s).isSome,()) else .at (.data true v ((f s).getD v.zero)))
  |none=>none
 |_,_=>none
def cj (x:AV):Option Bool:=
 match x with
 | .at .Le=>some true
 | .at (.data _ (.oslice _) x)=>some x.isNone
 |_=>none
def cg (x:AV):Option Bool:=
 match x with
 | .at .Ua=>some true
 | .at (.Gs _ _)=>some false
 | .at (.data _ (.optr _) x)=>some x.isNone
 | .at (.data _ (.ptr _) _)=>some false
 |_=>none
def QJ:Option Ty->Bool
 |some (.ptr _)=>true
 |some (.optr _)=>true
 |_=>false
def bA (fr:Bool):(τ:Ty)->τ.den->Nat->Option AV
 | .pair a _,x,0=>some (.at (.data (fr||a.flat) a x.1))
 | .pair _ r,x,n+1=>bA fr r x.2 n
 |_,_,_=>none
def Ach:Bool×List AC->Option AV
 |(true,cs)=>some (.agg cs)
 |(false,[a])=>some (.at a)
 |_=>none
def SZ (l:List (Bool×List AC)) (i:Nat):Option AV:=(l[i]?).bind Ach
def vQ (mx:Bool):List AV->Option AV
 | [.at (.data _ (.int k) a), .at (.data _ (.int k') b)]=>if k=k' then Yx k (if mx then (if b>a then b else a) else (if b<a then b else a)) else none
 |_=>none
def Se (op:BinOp) (t:TypeId) (x y:AV):Option AV:=
 match op,x,y with
 | .eql,x, .at .Le=>if (T.elem t).isSome then (cj x).bind Oh else none
 | .eql,x, .at .Ua=>if QJ (T.ty t) then (cg x).bind Oh else none
 | .neq,x, .at .Le=>if (T.elem t).isSome then (cj x).bind λb=>Oh (!b) else none
 | .neq,x, .at .Ua=>if QJ (T.ty t) then (cg x).bind λb=>Oh (!b) else none
 | .eql, .at (.data _ .bool a), .at (.data _ .bool b)=>if T.ty t=some .bool then Oh (a==b) else none
 | .neq, .at (.data _ .bool a), .at (.data _ .bool b)=>if T.ty t=some .bool then Oh (!(a==b)) else none
 |op,x,y=>evalBin op x y
def bytesOf (l:List Int):ByteArray:=⟨(l.map λn=>UInt8.ofNat n.toNat).toArray⟩
def mO:AV->AV
 | .at (.data fr (.oslice e) x)=> .at (.data fr (.slice e) (x.getD []))
 |v=>v
def Es (Γ:Env) (st:St) (o:Oper):Option AV:=
 match o.op with
 | .move x=>some (st.ev x)
 | .assign x=>some (st.ev x)
 | .pick c a b=>ck (st.ev c) (st.ev a) (st.ev b)
 | .load t a=>Pe T st t (st.ev a)
 | .nilCheck x=>match st.ev x with
  | .at (.data fr (.ptr τ) x)=>some (.at (.data fr (.ptr τ) x))
  | .at (.data fr (.optr τ) (some x))=>some (.at (.data fr (.ptr τ) x))
  | .at (.Gs l i)=>some (.at (.Gs l i))
  | .at (.Jl l i)=>some (.at (.Jl l i))
  |_=>none
 | .binOp op t x y _=>Se T op t (st.ev x) (st.ev y)
 | .unOp op _ x=>vS op (st.ev x)
 | .convert s t x=>match T.ty s,T.ty t,st.ev x with
  |some _,some (.int k), .at (.data _ (.int _) n)=>Yx k (k.wrap n)
  |some (.slice (.int .u8)),some .str,_=>(Fe st (.slice (.int .u8)) (st.ev x)).map λp=> .at (.data true .str (bytesOf p.2))
  |_,_,_=>none
 | .slice t x lo hi mx=>if mx.isSome then none else cm T st t (st.ev x) (lo.map st.ev) (hi.map st.ev)
 | .fieldAddr s x f=>Nc T s (st.ev x) f
 | .field s x f=>mf T s (st.ev x) f
 | .indexAddr t x i=>Ka T st t (mO (st.ev x)) (st.ev i)
 | .index t x i=>ic T t (st.ev x) (st.ev i)
 | .extract x i=>match st.ev x with
  | .Zw fr τ y=>bA fr τ y i
  | .Mb l=>SZ l i
  |_=>none
 | .call {callee:= .value (.func f),args, .. } =>Nq Γ st f (args.toList.map st.ev)
 | .call {callee:= .value (.tmp t),args, .. } =>Wb Γ st (st.get t) (args.toList.map st.ev)
 | .makeFunc (.func f) first Dy=>match first.toList.map st.ev with
  | []=>(jQ (Dy.toList.map st.ev)).map λc=> .at (.clo f c)
  | [.at (.data fr τ x)]=>if Dy.isEmpty&&!τ.Am then some (.at (.data fr (.clo (f+1000000000) (.pair τ .unit)) (x,()))) else none
  |_=>none
 | .lookup t m k ok=>da T st t (st.ev m) (st.ev k) ok
 | .call {callee:= .builtin .len,args,argTypes} =>match args.toList,argTypes.toList with
  | [x],[t]=>match T.ty t with
   |some (.slice _)=>(zc st (st.ev x)).bind (Yx .i64)
   |some (.oslice _)=>(zc st (mO (st.ev x))).bind (Yx .i64)
   |some .str=>(HY (st.ev x)).bind (Yx .i64)
   |_=>none
  |_,_=>none
 | .call {callee:= .builtin .min,args, .. } =>vQ false (args.toList.map st.ev)
 | .call {callee:= .builtin .max,args, .. } =>vQ true (args.toList.map st.ev)
 |_=>none
def Vt (st:St) (t:Option Tmp):Option (Option Bool):=
 match t with
 |some t=>match st.get t with
  | .at (.data _ .bool b)=>some (some b)
  | .at .skip=>some none
  |_=>none
 |none=>none
end Go.Proofs.Ytkkdpknjohcekaa
