/-
  Part 2 of the proof that the statement FnSubgroups holds.
-/
import Derived.Test.YtkkdpknjohcekaaCFSubgroups00
namespace Go.Proofs.Ytkkdpknjohcekaa
open Go.RowKit
inductive AC where
 |undef
 |skip
 |Lp
 |Vp
 |data (fr:Bool) (τ:Ty) (x:τ.den)
 |own (l off len:Nat)
 |He (l i:Nat)
 |Jv (l i:Nat)
 |clo (f:Nat) (Ek:List (Nat×Nat))
 |Kh (l:Nat)
 |sub (l i c:Nat)
 |Js (l i j:Nat)
inductive AV where
 |at (a:AC)
 |agg (cs:List AC)
 |bp (fr:Bool) (τ:Ty) (x:τ.den)
 |Mn (l:List (Bool×List AC))
@[reducible] def AV.undef:AV:= .at .undef
inductive OB where
 |arr (fr tr:Bool) (e:Ty) (tid:TypeId) (xs:List e.den)
 |Gx (e:Ty) (tid:TypeId) (xs:List e.den)
 |var (tid:TypeId) (vs:List AC)
 |Bo (e:Ty) (te:TypeId) (rows:List (List e.den)) (out:Option Nat) (kp:Option (Nat×Nat))
 |Vq (v:Ty) (m:ByteArray->Option v.den)
structure St where
 tmps:List AV
 heap:List (Nat×OB)
def Aw:List (Nat×OB)->Nat->Option OB
 | [],_=>none
 |(k,b)::r,l=>if k=l then some b else Aw r l
def St.get (st:St) (t:Nat):AV:=st.tmps.getD t .undef
def St.at (st:St) (l:Nat):Option OB:=Aw st.heap l
def Sn {α:Type} :List α->Nat->α->List α
 | [],_,_=> []
 |_::r,0,y=>y::r
 |x::r,n+1,y=>x::Sn r n y
def St.put (st:St) (dst:Option Tmp) (v:AV):St:=
 match dst with
 |some d=> {st with tmps:=Sn st.tmps d v}
 |none=>st
def AV.map (f:AC->AC):AV->AV
 | .at a=> .at (f a)
 | .agg cs=> .agg (cs.map f)
 | .bp fr τ x=> .bp fr τ x
 | .Mn l=> .Mn (l.map λp=>(p.1,p.2.map f))
def OB.map (f:AC->AC):OB->OB
 | .arr fr tr e t xs=> .arr fr tr e t xs
 | .Gx e t xs=> .Gx e t xs
 | .var t vs=> .var t (vs.map f)
 | .Bo e te rows out kp=> .Bo e te rows out kp
 | .Vq v m=> .Vq v m
def aF:List (Nat×OB)->Nat->List (Nat×OB)
 | [],_=> []
 |(k,b)::r,l=>if k=l then aF r l else (k,b)::aF r l
def St.Kv (st:St) (f:AC->AC):St:= {tmps:=st.tmps.map (·.map f),heap:=st.heap.map λp=>(p.1,p.2.map f)}
def Cu (l:Nat):AC->AC
 | .own k off len=>if k=l then .undef else .own k off len
 | .He k i=>if k=l then .undef else .He k i
 | .Jv k i=>if k=l then .undef else .Jv k i
 | .clo f Ek=>if (Ek.map (·.1)).contains l then .undef else .clo f Ek
 | .Kh k=>if k=l then .undef else .Kh k
 | .sub k i c=>if k=l then .undef else .sub k i c
 | .Js k i c=>if k=l then .undef else .Js k i c
 |a=>a
def St.forget (st:St) (l:Nat):St:=let s:=st.Kv (Cu l); {s with heap:=aF s.heap l}
def Dd (l:Nat) (fr:Bool) (e:Ty) (xs:List e.den):AC->AC
 | .own k off len=>if k=l then .data fr (.slice e) ((xs.drop off).take len) else .own k off len
 | .Jv k i=>if k=l then .undef else .Jv k i
 | .He k i=>if k=l then .undef else .He k i
 | .clo f Ek=>if (Ek.map (·.1)).contains l then .undef else .clo f Ek
 | .Kh k=>if k=l then .undef else .Kh k
 | .sub k i c=>if k=l then .undef else .sub k i c
 | .Js k i c=>if k=l then .undef else .Js k i c
 |a=>a
def St.freeze (st:St) (l:Nat) (fr:Bool) (e:Ty) (xs:List e.den):St:=let s:=st.Kv (Dd l fr e xs); {s with heap:=aF s.heap l}
def Ha (l:Nat) (v:Ty) (m:ByteArray->Option v.den):AC->AC
 | .Kh k=>if k=l then .data false (.smap v) m else .Kh k
 | .own k off len=>if k=l then .undef else .own k off len
 | .Jv k i=>if k=l then .undef else .Jv k i
 | .He k i=>if k=l then .undef else .He k i
 | .clo f Ek=>if (Ek.map (·.1)).contains l then .undef else .clo f Ek
 | .sub k i c=>if k=l then .undef else .sub k i c
 | .Js k i c=>if k=l then .undef else .Js k i c
 |a=>a
def St.Ik (st:St) (l:Nat) (v:Ty) (m:ByteArray->Option v.den):St:=let s:=st.Kv (Ha l v m); {s with heap:=aF s.heap l}
def Nz:List (Nat×OB)->Nat->OB->List (Nat×OB)
 | [],l,b=> [(l,b)]
 |(k,c)::r,l,b=>if l<k then (l,b)::(k,c)::r else (k,c)::Nz r l b
def St.new (st:St) (l:Nat) (b:OB):St:=let s:=st.forget l; {s with heap:=Nz s.heap l b}
def ay:List (Nat×OB)->Nat->OB->List (Nat×OB)
 | [],_,_=> []
 |(k,b)::r,l,b'=>if k=l then (k,b')::r else (k,b)::ay r l b'
def St.Jr (st:St) (l:Nat) (b:OB):St:= {st with heap:=ay st.heap l b}
structure Tab where
 ty:TypeId->Option Ty
 elem:TypeId->Option TypeId
 mapOf:TypeId->Option Ty
 off:TypeId->Nat->Option (Nat×TypeId)
 sl:Bool:=true
 yC:Bool:=false
 marks:List Nat:= []
 parts:List Nat:= []
 ZG:List TypeId:= []
def Ty.zero:(τ:Ty)->τ.den
 | .int _=>(0:Int)
 | .bool=>false
 | .str=>(ByteArray.empty)
 | .slice _=> []
 | .oslice _=>none
 | .ptr a=>a.zero
 | .optr _=>none
 | .smap _=> λ_=>none
 | .clo _ c=>c.zero
 | .unit=>()
 | .pair a r=>(a.zero,r.zero)
def Sa (fr:Bool):(τ:Ty)->τ.den->List AC
 | .unit,_=> []
 | .pair a r,x=>Sa fr a x.1++Sa fr r x.2
 |τ,x=> [.data fr τ x]
def iO (fr:Bool):(τ Nv:Ty)->Nv.den->Option (Bool×τ.den)
 | .slice e, .oslice e',x=>if h:e'=e then some (fr,((h▸x:Option (List e.den)).getD [])) else none
 | .optr a, .ptr a',x=>if h:a'=a then some (fr,some (h▸x:a.den)) else none
 |_,_,_=>none
def Dx (st:St):(τ:Ty)->AC->Option (Bool×τ.den)
 |τ, .data fr Nv x=>if h:Nv=τ then some (fr||τ.flat,h▸x) else iO fr τ Nv x
 | .slice _, .Lp=>some (true,[])
 | .oslice _, .Lp=>some (true,none)
 | .optr _, .Vp=>some (true,none)
 | .slice e, .own l off len=>match st.at l with
  |some (.arr fr _ e' _ xs)=>if h:e'=e then some (fr,((h▸xs:List e.den).drop off).take len) else none
  |some (.Gx e' _ xs)=>if h:e'=e then some (true,((h▸xs:List e.den).drop off).take len) else none
  |some (.Bo e' _ rows none _)=>if h: .slice e'=e then some (false,((h▸(rows:List (Ty.slice e').den):List e.den).drop off).take len) else none
  |_=>none
 | .slice e, .sub l i _=>match st.at l with
  |some (.Bo e' _ rows none _)=>if h:e'=e then some (false,(h▸(rows.getD i []:List e'.den):List e.den)) else none
  |_=>none
 | .smap v, .Kh l=>match st.at l with
  |some (.Vq v' m)=>if h:v'=v then some (true,h▸m) else none
  |_=>none
 |_,_=>none
def Fh (st:St):(τ:Ty)->List AC->Option (Bool×τ.den)
 | .unit,[]=>some (true,())
 | .unit,_::_=>none
 | .pair a r,cs=>
  match Fh st a (cs.take a.size),Fh st r (cs.drop a.size) with
  |some (f1,x),some (f2,y)=>some (f1&&f2,(x,y))
  |_,_=>none
 |τ,[c]=>Dx st τ c
 |_,_=>none
def Un (st:St) (a:Ty) (l i:Nat):Option (Bool×a.den):=
 match st.at l with
 |some (.var _ vs)=>Fh st a ((vs.drop i).take a.size)
 |_=>none
def Kx (st:St):(τ:Ty)->List (Nat×Nat)->Option (Bool×τ.den)
 | .unit,[]=>some (true,())
 | .pair (.ptr a) r,(l,i)::cs=>
  match Un st a l i,Kx st r cs with
  |some (f1,x),some (f2,y)=>some (f1&&f2,(x,y))
  |_,_=>none
 |_,_=>none
def Jp (st:St):(τ:Ty)->AC->Option (Bool×τ.den)
 | .ptr a, .He l i=>Un st a l i
 | .optr a, .He l i=>(Un st a l i).map λp=>(p.1,some p.2)
 | .clo f τ, .clo g Ek=>if g=f/\f<1000000000 then Kx st τ Ek else none
 |τ,c=>Dx st τ c
def Fv (st:St) (τ:Ty):AV->Option (Bool×τ.den)
 | .at (.data fr Nv x)=>if h:Nv=τ then some (fr||τ.flat,h▸x) else if τ.Ap then none else Jp st τ (.data fr Nv x)
 | .at a=>if τ.Ap then none else Jp st τ a
 | .agg cs=>if τ.Ap then Fh st τ cs else none
 |_=>none
def Ec (st:St):(τ:Ty)->List AV->Option (Bool×τ.den)
 | .unit,[]=>some (true,())
 | .pair a r,v::vs=>
  match Fv st a v,Ec st r vs with
  |some (f1,x),some (f2,y)=>some (f1&&f2,(x,y))
  |_,_=>none
 |_,_=>none
def AC.settled:AC->Bool
 | .data _ _ _| .Lp| .Vp=>true
 |_=>false
def AV.settled:AV->Bool
 | .at a=>a.settled
 | .agg cs=>cs.all (·.settled)
 | .bp _ _ _=>true
 | .Mn _=>false
inductive CK where
 |Fe (τ:Ty)
 |row (e:Ty) (te:TypeId)
 |Ho (e:Ty) (te:TypeId)
 |part (e:Ty) (te:TypeId)
 |Bo (e:Ty) (te:TypeId) (kp:Bool)
@[reducible] def CK.den:CK->Type
 | .Fe τ=>τ.den
 | .row e _=>List e.den
 | .Ho e _=>List e.den
 | .part e _=>List e.den×Nat×Nat
 | .Bo e _ _=>List (List e.den)
def CK.flat:CK->Bool
 | .Fe τ=>τ.flat
 | .row e _=>e.flat
 | .Ho _ _=>true
 | .part e _=>e.flat
 | .Bo _ _ _=>false
def CK.isX:CK->Bool
 | .Ho _ _=>true
 |_=>false
@[reducible] def CKs.den:List CK->Type
 | []=>Unit
 |c::r=>c.den×CKs.den r
@[reducible] def IOs.den:List (Bool×CK)->Type
 | []=>Unit
 |(true, .Fe _)::r=>IOs.den r
 |(true, .row e _)::r=>List e.den×IOs.den r
 |(true, .Ho e _)::r=>List e.den×IOs.den r
 |(true, .part e _)::r=>List e.den×IOs.den r
 |(true, .Bo _ _ _)::r=>IOs.den r
 |(false,_)::r=>IOs.den r
@[reducible] def Ins.den:List (Bool×CK)->Type
 | []=>Unit
 |p::r=>p.2.den×Ins.den r
structure MSpec where
 ptr:Option (TypeId×Nat):=none
 Hw:List (Option Nat)
 ins:List (Bool×CK)
 Gl:Bool
 Gz:List (Option Nat)
 outs:List CK
 fn:Ins.den ins->Option (CKs.den outs×IOs.den ins)
 keeps:List (Nat×Nat):= []
 Fm:Ins.den ins->Nat:= λ_=>0
 rp:Option TypeId:=none
structure Spec where
 arg:Ty
 res:Ty
 Gl:Bool
 fresh:Bool
 fn:arg.den->Option res.den
inductive bq where
 |q (s:Spec)
 |m (s:MSpec)
 |b (s:Spec) (m:MSpec)
def MSpec.flat (s:MSpec):Bool:=s.outs.all (·.flat)&&s.ins.all λp=>!p.1||p.2.flat
def MSpec.Aar (s:MSpec):Bool:=s.flat||s.outs.all λc=>!c.isX
abbrev Env:=FuncId->Option bq
def nz:Value->AV
 | .int k n=> .at (.data true (.int k) n)
 | .bool b=> .at (.data true .bool b)
 | .string s=> .at (.data true .str s)
 | .slice none 0 0=> .at .Lp
 | .pointer none=> .at .Vp
 |_=> .undef
def St.ev (st:St):Operand->AV
 | .tmp t=>st.get t
 | .const v=>nz v
 | .func f=> .at (.clo f [])
 |_=> .undef
def idx {α:Type} (xs:List α) (i:Int):Option α:=if 0<=i then xs[i.toNat]? else none
def inb (n:Int) (len:Nat):Bool:=decide (0<=n)&&decide (n<len)
theorem Ug {n:Int} {len:Nat} :inb n len=true↔0<=n/\n<len:=by simp [inb]
def aM (k:IntKind) (n:Int):Option AV:=some (.at (.data true (.int k) n))
def Oy (b:Bool):Option AV:=some (.at (.data true .bool b))
def tN (op:BinOp) (k:IntKind) (a b:Int):Option AV:=
 match op with
 | .add=>aM k (k.wrap (a+b))
 | .sub=>aM k (k.wrap (a-b))
 | .mul=>aM k (k.wrap (a*b))
 | .quo=>if b=0 then none else aM k (k.wrap (a.tdiv b))
 | .rem=>if b=0 then none else aM k (a.tmod b)
 | .and=>aM k (k.wrap (BitVec.ofInt k.bits a&&&BitVec.ofInt k.bits b).toNat)
 | .or=>aM k (k.wrap (BitVec.ofInt k.bits a|||BitVec.ofInt k.bits b).toNat)
 | .eql=>Oy (a==b)
 | .neq=>Oy (a !=b)
 | .lss=>Oy (decide (a<b))
 | .leq=>Oy (decide (a<=b))
 | .gtr=>Oy (decide (a>b))
 | .geq=>Oy (decide (a>=b))
 |_=>none
def evalBin (op:BinOp) (x y:AV):Option AV:=
 match x,y with
 | .at (.data _ (.int k) a), .at (.data _ (.int k') b)=>
  match op with
  | .shl=>if b<0 then none else aM k (k.wrap (a*2^(min b.toNat k.bits)))
  | .shr=>if b<0 then none else aM k (a.fdiv (2^(min b.toNat k.bits)))
  |_=>if k=k' then tN op k a b else none
 | .at (.data _ .str a), .at (.data _ .str b)=>
  match op with
  | .eql=>Oy (a.toList==b.toList)
  | .neq=>Oy (!(a.toList==b.toList))
  | .add=>if a.size+b.size<=4294967296 then some (.at (.data true .str (a++b))) else none
  |_=>none
 |_,_=>none
def zc (op:UnOp) (x:AV):Option AV:=
 match op,x with
 | .not, .at (.data _ .bool b)=>Oy (!b)
 | .neg, .at (.data _ (.int k) n)=>aM k (k.wrap (0-n))
 |_,_=>none
def eh (c x y:AV):Option AV:=
 match c with
 | .at (.data _ .bool b)=>some (if b then x else y)
 |_=>none
def GD:AV->Option Int
 | .at .Lp=>some 0
 | .at (.data _ (.slice _) xs)=>some xs.length
 | .at (.data _ .str s)=>some s.size
 | .at (.own _ _ len)=>some (len:Int)
 |_=>none
def Aaj:AV->Option Int
 | .at .Lp=>some 0
 | .at (.data _ (.slice _) xs)=>some xs.length
 | .at (.own _ _ len)=>some (len:Int)
 |_=>none
def GG (st:St):AV->Option Int
 | .at (.sub l i _)=>match st.at l with
  |some (.Bo _ _ rows none _)=>some (rows.getD i []).length
  |_=>none
 |v=>Aaj v
def RS:AV->Option Int
 | .at (.data _ .str s)=>some s.size
 |_=>none
def Kz:(τ:Ty)->τ.den->Nat->(ρ:Ty)->Option ρ.den
 | .pair a r,x,o,ρ=>if o=0 then (if h:a=ρ then some (h▸x.1) else none) else if o<a.size then none else Kz r x.2 (o-a.size) ρ
 |_,_,_,_=>none
def gf (l i:Nat):(c:Nat)->(τ:Ty)->τ.den->List AC
 |_, .unit,_=> []
 |c, .pair a r,x=>gf l i c a x.1++gf l i (c+a.size) r x.2
 |c,τ,x=> [if τ.flat then .data true τ x else .sub l i c]
variable (T:Tab)
def Px (st:St) (t:TypeId) (p:AV):Option AV:=
 match T.ty t,p with
 |some τ, .at (.data fr (.ptr Nv) x)=>if Nv=τ then some (.at (.data (fr||Nv.flat) Nv x)) else none
 |some τ, .at (.data fr (.optr Nv) (some x))=>if Nv=τ then some (.at (.data (fr||Nv.flat) Nv x)) else none
 |some τ, .at (.He l i)=>match st.at l with
  |some (.var _ vs)=>if τ.Ap then (if i+τ.size<=vs.length then some (.agg ((vs.drop i).take τ.size)) else none) else vs[i]?.map .at
  |_=>none
 |some τ, .at (.Jv l i)=>match st.at l with
  |some (.arr fr _ e _ xs)=>if e=τ then xs[i]?.map λx=> .at (.data (fr||e.flat) e x) else none
  |some (.Gx e _ xs)=>if e=τ then xs[i]?.map λx=>if e.Ap then .agg (gf l i 0 e x) else .at ((gf l i 0 e x).headD .undef) else none
  |some (.Bo _ _ _ none _)=>if τ.Ap then none else some (.at (.sub l i 0))
  |_=>none
 |some τ, .at (.Js l i j)=>match st.at l with
  |some (.Bo e _ rows none _)=>if e=τ then some (.at (.data e.flat e ((rows.getD i []).getD j e.zero))) else none
  |_=>none
 |_,_=>none
def Kn (st:St) (t:TypeId) (x i:AV):Option AV:=
 match x,i with
 | .at (.data fr (.slice e) xs), .at (.data _ (.int _) n)=>if (T.elem t).bind T.ty=some e then (idx xs n).map λx=> .at (.data fr (.ptr e) x) else none
 | .at (.own l off len), .at (.data _ (.int _) n)=>match st.at l with
  |some (.arr _ _ e tid _)=>if T.elem t=some tid/\T.ty tid=some e/\inb n len=true then some (.at (.Jv l (off+n.toNat))) else none
  |some (.Gx e tid _)=>if T.elem t=some tid/\T.ty tid=some e/\inb n len=true then some (.at (.Jv l (off+n.toNat))) else none
  |some (.Bo _ te _ _ _)=>if T.elem t=some te/\(T.ty te).map Ty.size=some 1/\inb n len=true then some (.at (.Jv l (off+n.toNat))) else none
  |_=>none
 | .at (.sub l i _), .at (.data _ (.int _) n)=>match st.at l with
  |some (.Bo e _ rows none _)=>if ((T.elem t).bind T.ty).map Ty.size=some e.size/\inb n (rows.getD i []).length=true then some (.at (.Js l i n.toNat)) else none
  |_=>none
 |_,_=>none
def Nq (s:TypeId) (x:AV) (f:Nat):Option AV:=
 match T.off s f,x with
 |some (o,_), .at (.He l i)=>some (.at (.He l (i+o)))
 |some (o,t), .at (.data fr (.ptr τ) x)=>if T.ty s=some τ then (T.ty t).bind λρ=>(Kz τ x o ρ).map λy=> .at (.data fr (.ptr ρ) y) else none
 |some (o,t), .at (.data fr (.optr τ) (some x))=>if T.ty s=some τ then (T.ty t).bind λρ=>(Kz τ x o ρ).map λy=> .at (.data fr (.ptr ρ) y) else none
 |_,_=>none
def pj (s:TypeId) (x:AV) (f:Nat):Option AV:=
 match T.off s f,x with
 |some (o,t), .agg cs=>(T.ty t).bind λρ=>if ρ.Ap then none else cs[o]?.map .at
 |some (o,t), .at (.data fr τ x)=>if T.ty s=some τ then (T.ty t).bind λρ=>(Kz τ x o ρ).map λy=> .at (.data fr ρ y) else none
 |_,_=>none
def XL (v:Option AV) (d:Int):Option Int:=
 match v with
 |none=>some d
 |some (.at (.data _ (.int _) n))=>some n
 |_=>none
def ej (st:St) (t:TypeId) (x:AV) (lo hi:Option AV):Option AV:=
 match GD x with
 |none=>none
 |some n=>
  match XL lo 0,XL hi n with
  |some l,some h=>
   if 0<=l/\l<=h/\h<=n then
    match x with
    | .at (.data fr (.slice e) xs)=>if (T.elem t).bind T.ty=some e then some (.at (.data fr (.slice e) ((xs.take h.toNat).drop l.toNat))) else none
    | .at (.own k off _)=>match st.at k with
     |some (.arr _ _ e tid _)=>if T.elem t=some tid/\T.ty tid=some e then some (.at (.own k (off+l.toNat) (h.toNat-l.toNat))) else none
     |_=>none
    | .at (.data _ .str s)=>if T.ty t=some .str then some (.at (.data true .str (s.extract l.toNat h.toNat))) else none
    |_=>none
   else none
  |_,_=>none
def kh (t:TypeId) (x i:AV):Option AV:=
 match x,i with
 | .at (.data _ .str s), .at (.data _ (.int _) n)=>if T.ty t=some .str then (if 0<=n then s[n.toNat]?.map λb=> .at (.data true (.int .u8) b.toNat) else none) else none
 |_,_=>none
def Ok (Γ:Env) (st:St) (f:FuncId) (args:List AV):Option AV:=
 match Γ f with
 |some (.q s)=>
  if s.fresh||s.res.flat||args.all (·.settled) then
   match Ec st s.arg args with
   |none=>none
   |some (_,x)=>(s.fn x).map λy=>if s.Gl then .bp (s.fresh||s.res.flat) s.res y else .at (.data (s.fresh||s.res.flat) s.res y)
  else none
 |_=>none
def Ty.chain:Ty->Bool
 | .unit=>true
 | .pair a r=>!a.Ap&&r.chain
 |_=>false
def bB (fr:Bool):(τ:Ty)->τ.den->List AV
 | .pair a r,x=> .at (.data fr a x.1)::bB fr r x.2
 |_,_=> []
def Xs (Γ:Env) (st:St) (v:AV) (args:List AV):Option AV:=
 match v with
 | .at (.data fr (.clo f τ) x)=>if τ.chain then (if f<1000000000 then Ok Γ st f (args++bB fr τ x) else Ok Γ st (f-1000000000) (bB fr τ x++args)) else none
 | .at (.clo f Ek)=>Ok Γ st f (args++Ek.map λp=> .at (.He p.1 p.2))
 |_=>none
def mf:List AV->Option (List (Nat×Nat))
 | []=>some []
 | .at (.He l i)::r=>(mf r).map λc=>(l,i)::c
 |_=>none
def fm (st:St) (t:TypeId) (m k:AV) (ok:Bool):Option AV:=
 match T.mapOf t,k with
 |some v, .at (.data _ .str s)=>
  match Fv st (.smap v) m with
  |some (_,f)=>some (if ok then .bp true (.pair v (.pair .bool .unit)) (((f s).getD v.zero),(f s).isSome,()) else .at (.data true v ((f s).getD v.zero)))
  |none=>none
 |_,_=>none
def ef (x:AV):Option Bool:=
 match x with
 | .at .Lp=>some true
 | .at (.data _ (.oslice _) x)=>some x.isNone
 |_=>none
def ee (x:AV):Option Bool:=
 match x with
 | .at .Vp=>some true
 | .at (.He _ _)=>some false
 | .at (.data _ (.optr _) x)=>some x.isNone
 | .at (.data _ (.ptr _) _)=>some false
 |_=>none
def Aae:Option Ty->Bool
 |some (.ptr _)=>true
 |some (.optr _)=>true
 |_=>false
def dg (fr:Bool):(τ:Ty)->τ.den->Nat->Option AV
 | .pair a _,x,0=>some (.at (.data (fr||a.flat) a x.1))
 | .pair _ r,x,n+1=>dg fr r x.2 n
 |_,_,_=>none
def Amp:Bool×List AC->Option AV
 |(true,cs)=>some (.agg cs)
 |(false,[a])=>some (.at a)
 |_=>none
def Acv (l:List (Bool×List AC)) (i:Nat):Option AV:=(l[i]?).bind Amp
def za (mx:Bool):List AV->Option AV
 | [.at (.data _ (.int k) a), .at (.data _ (.int k') b)]=>if k=k' then aM k (if mx then (if b>a then b else a) else (if b<a then b else a)) else none
 |_=>none
def Tr (op:BinOp) (t:TypeId) (x y:AV):Option AV:=
 match op,x,y with
 | .eql,x, .at .Lp=>if (T.elem t).isSome then (ef x).bind Oy else none
 | .eql,x, .at .Vp=>if Aae (T.ty t) then (ee x).bind Oy else none
 | .neq,x, .at .Lp=>if (T.elem t).isSome then (ef x).bind λb=>Oy (!b) else none
 | .neq,x, .at .Vp=>if Aae (T.ty t) then (ee x).bind λb=>Oy (!b) else none
 | .eql, .at (.data _ .bool a), .at (.data _ .bool b)=>if T.ty t=some .bool then Oy (a==b) else none
 | .neq, .at (.data _ .bool a), .at (.data _ .bool b)=>if T.ty t=some .bool then Oy (!(a==b)) else none
 |op,x,y=>evalBin op x y
def bytesOf (l:List Int):ByteArray:=⟨(l.map λn=>UInt8.ofNat n.toNat).toArray⟩
def pU:AV->AV
 | .at (.data fr (.oslice e) x)=> .at (.data fr (.slice e) (x.getD []))
 |v=>v
def Fl (Γ:Env) (st:St) (o:Oper):Option AV:=
 match o.op with
 | .move x=>some (st.ev x)
 | .assign x=>some (st.ev x)
 | .pick c a b=>eh (st.ev c) (st.ev a) (st.ev b)
 | .load t a=>Px T st t (st.ev a)
 | .nilCheck x=>match st.ev x with
  | .at (.data fr (.ptr τ) x)=>some (.at (.data fr (.ptr τ) x))
  | .at (.data fr (.optr τ) (some x))=>some (.at (.data fr (.ptr τ) x))
  | .at (.He l i)=>some (.at (.He l i))
  | .at (.Jv l i)=>some (.at (.Jv l i))
  |_=>none
 | .binOp op t x y _=>Tr T op t (st.ev x) (st.ev y)
 | .unOp op _ x=>zc op (st.ev x)
 | .convert s t x=>match T.ty s,T.ty t,st.ev x with
  |some _,some (.int k), .at (.data _ (.int _) n)=>aM k (k.wrap n)
  |some (.slice (.int .u8)),some .str,_=>(Fv st (.slice (.int .u8)) (st.ev x)).map λp=> .at (.data true .str (bytesOf p.2))
  |_,_,_=>none
 | .slice t x lo hi mx=>if mx.isSome then none else ej T st t (st.ev x) (lo.map st.ev) (hi.map st.ev)
 | .fieldAddr s x f=>Nq T s (st.ev x) f
 | .field s x f=>pj T s (st.ev x) f
 | .indexAddr t x i=>Kn T st t (pU (st.ev x)) (st.ev i)
 | .index t x i=>kh T t (st.ev x) (st.ev i)
 | .extract x i=>match st.ev x with
  | .bp fr τ y=>dg fr τ y i
  | .Mn l=>Acv l i
  |_=>none
 | .call {callee:= .value (.func f),args, .. } =>Ok Γ st f (args.toList.map st.ev)
 | .call {callee:= .value (.tmp t),args, .. } =>Xs Γ st (st.get t) (args.toList.map st.ev)
 | .makeFunc (.func f) first Ek=>match first.toList.map st.ev with
  | []=>(mf (Ek.toList.map st.ev)).map λc=> .at (.clo f c)
  | [.at (.data fr τ x)]=>if Ek.isEmpty&&!τ.Ap then some (.at (.data fr (.clo (f+1000000000) (.pair τ .unit)) (x,()))) else none
  |_=>none
 | .lookup t m k ok=>fm T st t (st.ev m) (st.ev k) ok
 | .call {callee:= .builtin .len,args,argTypes} =>match args.toList,argTypes.toList with
  | [x],[t]=>match T.ty t with
   |some (.slice _)=>(GG st (st.ev x)).bind (aM .i64)
   |some (.oslice _)=>(GG st (pU (st.ev x))).bind (aM .i64)
   |some .str=>(RS (st.ev x)).bind (aM .i64)
   |_=>none
  |_,_=>none
 | .call {callee:= .builtin .min,args, .. } =>za false (args.toList.map st.ev)
 | .call {callee:= .builtin .max,args, .. } =>za true (args.toList.map st.ev)
 |_=>none
def Xj (st:St) (t:Option Tmp):Option (Option Bool):=
 match t with
 |some t=>match st.get t with
  | .at (.data _ .bool b)=>some (some b)
  | .at .skip=>some none
  |_=>none
 |none=>none
end Go.Proofs.Ytkkdpknjohcekaa
