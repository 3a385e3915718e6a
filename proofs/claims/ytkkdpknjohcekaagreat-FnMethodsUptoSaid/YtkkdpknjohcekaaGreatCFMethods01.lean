/-
  Part 2 of the proof that the statement FnMethods holds.
-/
import Derived.Test.YtkkdpknjohcekaaGreatCFMethods00
namespace Go.Proofs.YtkkdpknjohcekaaGreat
open Go.RowKit
inductive AC where
 |undef
 |skip
 |Mx
 |Wh
 |data (fr:Bool) (τ:Ty) (x:τ.den)
 |own (l off len:Nat)
 |Ii (l i:Nat)
 |Ld (l i:Nat)
 |clo (f:Nat) (Ev:List (Nat×Nat))
 |Lk (l:Nat)
 |sub (l i c:Nat)
 |Ky (l i j:Nat)
inductive AV where
 |at (a:AC)
 |agg (cs:List AC)
 |bH (fr:Bool) (τ:Ty) (x:τ.den)
 |Nr (l:List (Bool×List AC))
@[reducible] def AV.undef:AV:= .at .undef
inductive OB where
 |arr (fr tr:Bool) (e:Ty) (tid:TypeId) (xs:List e.den)
 |Hs (e:Ty) (tid:TypeId) (xs:List e.den)
 |var (tid:TypeId) (vs:List AC)
 |Bu (e:Ty) (te:TypeId) (rows:List (List e.den)) (out:Option Nat) (kp:Option (Nat×Nat))
 |Wi (v:Ty) (m:ByteArray->Option v.den)
structure St where
 tmps:List AV
 heap:List (Nat×OB)
def Av:List (Nat×OB)->Nat->Option OB
 | [],_=>none
 |(k,b)::r,l=>if k=l then some b else Av r l
def St.get (st:St) (t:Nat):AV:=st.tmps.getD t .undef
def St.at (st:St) (l:Nat):Option OB:=Av st.heap l
def Tk {α:Type} :List α->Nat->α->List α
 | [],_,_=> []
 |_::r,0,y=>y::r
 |x::r,n+1,y=>x::Tk r n y
def St.put (st:St) (dst:Option Tmp) (v:AV):St:=
 match dst with
 |some d=> {st with tmps:=Tk st.tmps d v}
 |none=>st
def AV.map (f:AC->AC):AV->AV
 | .at a=> .at (f a)
 | .agg cs=> .agg (cs.map f)
 | .bH fr τ x=> .bH fr τ x
 | .Nr l=> .Nr (l.map λp=>(p.1,p.2.map f))
def OB.map (f:AC->AC):OB->OB
 | .arr fr tr e t xs=> .arr fr tr e t xs
 | .Hs e t xs=> .Hs e t xs
 | .var t vs=> .var t (vs.map f)
 | .Bu e te rows out kp=> .Bu e te rows out kp
 | .Wi v m=> .Wi v m
def aM:List (Nat×OB)->Nat->List (Nat×OB)
 | [],_=> []
 |(k,b)::r,l=>if k=l then aM r l else (k,b)::aM r l
def St.Lx (st:St) (f:AC->AC):St:= {tmps:=st.tmps.map (·.map f),heap:=st.heap.map λp=>(p.1,p.2.map f)}
def Cs (l:Nat):AC->AC
 | .own k off len=>if k=l then .undef else .own k off len
 | .Ii k i=>if k=l then .undef else .Ii k i
 | .Ld k i=>if k=l then .undef else .Ld k i
 | .clo f Ev=>if (Ev.map (·.1)).contains l then .undef else .clo f Ev
 | .Lk k=>if k=l then .undef else .Lk k
 | .sub k i c=>if k=l then .undef else .sub k i c
 | .Ky k i c=>if k=l then .undef else .Ky k i c
 |a=>a
def St.forget (st:St) (l:Nat):St:=let s:=st.Lx (Cs l); {s with heap:=aM s.heap l}
def Da (l:Nat) (fr:Bool) (e:Ty) (xs:List e.den):AC->AC
 | .own k off len=>if k=l then .data fr (.slice e) ((xs.drop off).take len) else .own k off len
 | .Ld k i=>if k=l then .undef else .Ld k i
 | .Ii k i=>if k=l then .undef else .Ii k i
 | .clo f Ev=>if (Ev.map (·.1)).contains l then .undef else .clo f Ev
 | .Lk k=>if k=l then .undef else .Lk k
 | .sub k i c=>if k=l then .undef else .sub k i c
 | .Ky k i c=>if k=l then .undef else .Ky k i c
 |a=>a
def St.freeze (st:St) (l:Nat) (fr:Bool) (e:Ty) (xs:List e.den):St:=let s:=st.Lx (Da l fr e xs); {s with heap:=aM s.heap l}
def Hx (l:Nat) (v:Ty) (m:ByteArray->Option v.den):AC->AC
 | .Lk k=>if k=l then .data false (.smap v) m else .Lk k
 | .own k off len=>if k=l then .undef else .own k off len
 | .Ld k i=>if k=l then .undef else .Ld k i
 | .Ii k i=>if k=l then .undef else .Ii k i
 | .clo f Ev=>if (Ev.map (·.1)).contains l then .undef else .clo f Ev
 | .sub k i c=>if k=l then .undef else .sub k i c
 | .Ky k i c=>if k=l then .undef else .Ky k i c
 |a=>a
def St.Jp (st:St) (l:Nat) (v:Ty) (m:ByteArray->Option v.den):St:=let s:=st.Lx (Hx l v m); {s with heap:=aM s.heap l}
def Pn:List (Nat×OB)->Nat->OB->List (Nat×OB)
 | [],l,b=> [(l,b)]
 |(k,c)::r,l,b=>if l<k then (l,b)::(k,c)::r else (k,c)::Pn r l b
def St.new (st:St) (l:Nat) (b:OB):St:=let s:=st.forget l; {s with heap:=Pn s.heap l b}
def aF:List (Nat×OB)->Nat->OB->List (Nat×OB)
 | [],_,_=> []
 |(k,b)::r,l,b'=>if k=l then (k,b')::r else (k,b)::aF r l b'
def St.Kx (st:St) (l:Nat) (b:OB):St:= {st with heap:=aF st.heap l b}
structure Tab where
 ty:TypeId->Option Ty
 elem:TypeId->Option TypeId
 mapOf:TypeId->Option Ty
 off:TypeId->Nat->Option (Nat×TypeId)
 tq:Bool:=true
 CY:Bool:=false
 marks:List Nat:= []
 parts:List Nat:= []
 Ahd:List TypeId:= []
def Ty.zero:(τ:Ty)->τ.den
 | .int _=>(0:Int)
 | .bool=>false
 | .str=>(ByteArray.empty)
 | .slice _=> []
 | .oslice _=>none
 | .ptr a=>a.zero
 | .optr _=>none
 | .smap _=> λ_=>none
 | .clo _ c=>c.zero
 | .unit=>()
 | .pair a r=>(a.zero,r.zero)
def Td (fr:Bool):(τ:Ty)->τ.den->List AC
 | .unit,_=> []
 | .pair a r,x=>Td fr a x.1++Td fr r x.2
 |τ,x=> [.data fr τ x]
def iW (fr:Bool):(τ Pj:Ty)->Pj.den->Option (Bool×τ.den)
 | .slice e, .oslice e',x=>if h:e'=e then some (fr,((h▸x:Option (List e.den)).getD [])) else none
 | .optr a, .ptr a',x=>if h:a'=a then some (fr,some (h▸x:a.den)) else none
 |_,_,_=>none
def Ec (st:St):(τ:Ty)->AC->Option (Bool×τ.den)
 |τ, .data fr Pj x=>if h:Pj=τ then some (fr||τ.flat,h▸x) else iW fr τ Pj x
 | .slice _, .Mx=>some (true,[])
 | .oslice _, .Mx=>some (true,none)
 | .optr _, .Wh=>some (true,none)
 | .slice e, .own l off len=>match st.at l with
  |some (.arr fr _ e' _ xs)=>if h:e'=e then some (fr,((h▸xs:List e.den).drop off).take len) else none
  |some (.Hs e' _ xs)=>if h:e'=e then some (true,((h▸xs:List e.den).drop off).take len) else none
  |some (.Bu e' _ rows none _)=>if h: .slice e'=e then some (false,((h▸(rows:List (Ty.slice e').den):List e.den).drop off).take len) else none
  |_=>none
 | .slice e, .sub l i _=>match st.at l with
  |some (.Bu e' _ rows none _)=>if h:e'=e then some (false,(h▸(rows.getD i []:List e'.den):List e.den)) else none
  |_=>none
 | .smap v, .Lk l=>match st.at l with
  |some (.Wi v' m)=>if h:v'=v then some (true,h▸m) else none
  |_=>none
 |_,_=>none
def Ge (st:St):(τ:Ty)->List AC->Option (Bool×τ.den)
 | .unit,[]=>some (true,())
 | .unit,_::_=>none
 | .pair a r,cs=>
  match Ge st a (cs.take a.size),Ge st r (cs.drop a.size) with
  |some (f1,x),some (f2,y)=>some (f1&&f2,(x,y))
  |_,_=>none
 |τ,[c]=>Ec st τ c
 |_,_=>none
def Vc (st:St) (a:Ty) (l i:Nat):Option (Bool×a.den):=
 match st.at l with
 |some (.var _ vs)=>Ge st a ((vs.drop i).take a.size)
 |_=>none
def Lz (st:St):(τ:Ty)->List (Nat×Nat)->Option (Bool×τ.den)
 | .unit,[]=>some (true,())
 | .pair (.ptr a) r,(l,i)::cs=>
  match Vc st a l i,Lz st r cs with
  |some (f1,x),some (f2,y)=>some (f1&&f2,(x,y))
  |_,_=>none
 |_,_=>none
def Kw (st:St):(τ:Ty)->AC->Option (Bool×τ.den)
 | .ptr a, .Ii l i=>Vc st a l i
 | .optr a, .Ii l i=>(Vc st a l i).map λp=>(p.1,some p.2)
 | .clo f τ, .clo g Ev=>if g=f/\f<1000000000 then Lz st τ Ev else none
 |τ,c=>Ec st τ c
def Gt (st:St) (τ:Ty):AV->Option (Bool×τ.den)
 | .at (.data fr Pj x)=>if h:Pj=τ then some (fr||τ.flat,h▸x) else if τ.Ar then none else Kw st τ (.data fr Pj x)
 | .at a=>if τ.Ar then none else Kw st τ a
 | .agg cs=>if τ.Ar then Ge st τ cs else none
 |_=>none
def Eg (st:St):(τ:Ty)->List AV->Option (Bool×τ.den)
 | .unit,[]=>some (true,())
 | .pair a r,v::vs=>
  match Gt st a v,Eg st r vs with
  |some (f1,x),some (f2,y)=>some (f1&&f2,(x,y))
  |_,_=>none
 |_,_=>none
def AC.settled:AC->Bool
 | .data _ _ _| .Mx| .Wh=>true
 |_=>false
def AV.settled:AV->Bool
 | .at a=>a.settled
 | .agg cs=>cs.all (·.settled)
 | .bH _ _ _=>true
 | .Nr _=>false
inductive CK where
 |Hw (τ:Ty)
 |row (e:Ty) (te:TypeId)
 |Iu (e:Ty) (te:TypeId)
 |part (e:Ty) (te:TypeId)
 |Bu (e:Ty) (te:TypeId) (kp:Bool)
@[reducible] def CK.den:CK->Type
 | .Hw τ=>τ.den
 | .row e _=>List e.den
 | .Iu e _=>List e.den
 | .part e _=>List e.den×Nat×Nat
 | .Bu e _ _=>List (List e.den)
def CK.flat:CK->Bool
 | .Hw τ=>τ.flat
 | .row e _=>e.flat
 | .Iu _ _=>true
 | .part e _=>e.flat
 | .Bu _ _ _=>false
def CK.isX:CK->Bool
 | .Iu _ _=>true
 |_=>false
@[reducible] def CKs.den:List CK->Type
 | []=>Unit
 |c::r=>c.den×CKs.den r
@[reducible] def IOs.den:List (Bool×CK)->Type
 | []=>Unit
 |(true, .Hw _)::r=>IOs.den r
 |(true, .row e _)::r=>List e.den×IOs.den r
 |(true, .Iu e _)::r=>List e.den×IOs.den r
 |(true, .part e _)::r=>List e.den×IOs.den r
 |(true, .Bu _ _ _)::r=>IOs.den r
 |(false,_)::r=>IOs.den r
@[reducible] def Ins.den:List (Bool×CK)->Type
 | []=>Unit
 |p::r=>p.2.den×Ins.den r
structure MSpec where
 ptr:Option (TypeId×Nat):=none
 Kn:List (Option Nat)
 ins:List (Bool×CK)
 Jy:Bool
 Ji:List (Option Nat)
 outs:List CK
 fn:Ins.den ins->Option (CKs.den outs×IOs.den ins)
 keeps:List (Nat×Nat):= []
 Gj:Ins.den ins->Nat:= λ_=>0
 rp:Option TypeId:=none
structure Spec where
 arg:Ty
 res:Ty
 Jy:Bool
 fresh:Bool
 fn:arg.den->Option res.den
inductive ng where
 |q (s:Spec)
 |m (s:MSpec)
 |b (s:Spec) (m:MSpec)
def MSpec.flat (s:MSpec):Bool:=s.outs.all (·.flat)&&s.ins.all λp=>!p.1||p.2.flat
def MSpec.Ab9 (s:MSpec):Bool:=s.flat||s.outs.all λc=>!c.isX
abbrev Env:=FuncId->Option ng
def nA:Value->AV
 | .int k n=> .at (.data true (.int k) n)
 | .bool b=> .at (.data true .bool b)
 | .string s=> .at (.data true .str s)
 | .slice none 0 0=> .at .Mx
 | .pointer none=> .at .Wh
 |_=> .undef
def St.ev (st:St):Operand->AV
 | .tmp t=>st.get t
 | .const v=>nA v
 | .func f=> .at (.clo f [])
 |_=> .undef
def idx {α:Type} (xs:List α) (i:Int):Option α:=if 0<=i then xs[i.toNat]? else none
def inb (n:Int) (len:Nat):Bool:=decide (0<=n)&&decide (n<len)
theorem Ut {n:Int} {len:Nat} :inb n len=true↔0<=n/\n<len:=by simp [inb]
def aT (k:IntKind) (n:Int):Option AV:=some (.at (.data true (.int k) n))
def Qc (b:Bool):Option AV:=some (.at (.data true .bool b))
def tX (op:BinOp) (k:IntKind) (a b:Int):Option AV:=
 match op with
 | .add=>aT k (k.wrap (a+b))
 | .sub=>aT k (k.wrap (a-b))
 | .mul=>aT k (k.wrap (a*b))
 | .quo=>if b=0 then none else aT k (k.wrap (a.tdiv b))
 | .rem=>if b=0 then none else aT k (a.tmod b)
 | .and=>aT k (k.wrap (BitVec.ofInt k.bits a&&&BitVec.ofInt k.bits b).toNat)
 | .or=>aT k (k.wrap (BitVec.ofInt k.bits a|||BitVec.ofInt k.bits b).toNat)
 | .eql=>Qc (a==b)
 | .neq=>Qc (a !=b)
 | .lss=>Qc (decide (a<b))
 | .leq=>Qc (decide (a<=b))
 | .gtr=>Qc (decide (a>b))
 | .geq=>Qc (decide (a>=b))
 |_=>none
def evalBin (op:BinOp) (x y:AV):Option AV:=
 match x,y with
 | .at (.data _ (.int k) a), .at (.data _ (.int k') b)=>
  match op with
  | .shl=>if b<0 then none else aT k (k.wrap (a*2^(min b.toNat k.bits)))
  | .shr=>if b<0 then none else aT k (a.fdiv (2^(min b.toNat k.bits)))
  |_=>if k=k' then tX op k a b else none
 | .at (.data _ .str a), .at (.data _ .str b)=>
  match op with
  | .eql=>Qc (a.toList==b.toList)
  | .neq=>Qc (!(a.toList==b.toList))
  | .add=>if a.size+b.size<=4294967296 then some (.at (.data true .str (a++b))) else none
  |_=>none
 |_,_=>none
def zy (op:UnOp) (x:AV):Option AV:=
 match op,x with
 | .not, .at (.data _ .bool b)=>Qc (!b)
 | .neg, .at (.data _ (.int k) n)=>aT k (k.wrap (0-n))
 |_,_=>none
def ej (c x y:AV):Option AV:=
 match c with
 | .at (.data _ .bool b)=>some (if b then x else y)
 |_=>none
def GK:AV->Option Int
 | .at .Mx=>some 0
 | .at (.data _ (.slice _) xs)=>some xs.length
 | .at (.data _ .str s)=>some s.size
 | .at (.own _ _ len)=>some (len:Int)
 |_=>none
def Ab1:AV->Option Int
 | .at .Mx=>some 0
 | .at (.data _ (.slice _) xs)=>some xs.length
 | .at (.own _ _ len)=>some (len:Int)
 |_=>none
def GM (st:St):AV->Option Int
 | .at (.sub l i _)=>match st.at l with
  |some (.Bu _ _ rows none _)=>some (rows.getD i []).length
  |_=>none
 |v=>Ab1 v
def SL:AV->Option Int
 | .at (.data _ .str s)=>some s.size
 |_=>none
def Md:(τ:Ty)->τ.den->Nat->(ρ:Ty)->Option ρ.den
 | .pair a r,x,o,ρ=>if o=0 then (if h:a=ρ then some (h▸x.1) else none) else if o<a.size then none else Md r x.2 (o-a.size) ρ
 |_,_,_,_=>none
def gn (l i:Nat):(c:Nat)->(τ:Ty)->τ.den->List AC
 |_, .unit,_=> []
 |c, .pair a r,x=>gn l i c a x.1++gn l i (c+a.size) r x.2
 |c,τ,x=> [if τ.flat then .data true τ x else .sub l i c]
variable (T:Tab)
def Qx (st:St) (t:TypeId) (p:AV):Option AV:=
 match T.ty t,p with
 |some τ, .at (.data fr (.ptr Pj) x)=>if Pj=τ then some (.at (.data (fr||Pj.flat) Pj x)) else none
 |some τ, .at (.data fr (.optr Pj) (some x))=>if Pj=τ then some (.at (.data (fr||Pj.flat) Pj x)) else none
 |some τ, .at (.Ii l i)=>match st.at l with
  |some (.var _ vs)=>if τ.Ar then (if i+τ.size<=vs.length then some (.agg ((vs.drop i).take τ.size)) else none) else vs[i]?.map .at
  |_=>none
 |some τ, .at (.Ld l i)=>match st.at l with
  |some (.arr fr _ e _ xs)=>if e=τ then xs[i]?.map λx=> .at (.data (fr||e.flat) e x) else none
  |some (.Hs e _ xs)=>if e=τ then xs[i]?.map λx=>if e.Ar then .agg (gn l i 0 e x) else .at ((gn l i 0 e x).headD .undef) else none
  |some (.Bu _ _ _ none _)=>if τ.Ar then none else some (.at (.sub l i 0))
  |_=>none
 |some τ, .at (.Ky l i j)=>match st.at l with
  |some (.Bu e _ rows none _)=>if e=τ then some (.at (.data e.flat e ((rows.getD i []).getD j e.zero))) else none
  |_=>none
 |_,_=>none
def Lp (st:St) (t:TypeId) (x i:AV):Option AV:=
 match x,i with
 | .at (.data fr (.slice e) xs), .at (.data _ (.int _) n)=>if (T.elem t).bind T.ty=some e then (idx xs n).map λx=> .at (.data fr (.ptr e) x) else none
 | .at (.own l off len), .at (.data _ (.int _) n)=>match st.at l with
  |some (.arr _ _ e tid _)=>if T.elem t=some tid/\T.ty tid=some e/\inb n len=true then some (.at (.Ld l (off+n.toNat))) else none
  |some (.Hs e tid _)=>if T.elem t=some tid/\T.ty tid=some e/\inb n len=true then some (.at (.Ld l (off+n.toNat))) else none
  |some (.Bu _ te _ _ _)=>if T.elem t=some te/\(T.ty te).map Ty.size=some 1/\inb n len=true then some (.at (.Ld l (off+n.toNat))) else none
  |_=>none
 | .at (.sub l i _), .at (.data _ (.int _) n)=>match st.at l with
  |some (.Bu e _ rows none _)=>if ((T.elem t).bind T.ty).map Ty.size=some e.size/\inb n (rows.getD i []).length=true then some (.at (.Ky l i n.toNat)) else none
  |_=>none
 |_,_=>none
def Pd (s:TypeId) (x:AV) (f:Nat):Option AV:=
 match T.off s f,x with
 |some (o,_), .at (.Ii l i)=>some (.at (.Ii l (i+o)))
 |some (o,t), .at (.data fr (.ptr τ) x)=>if T.ty s=some τ then (T.ty t).bind λρ=>(Md τ x o ρ).map λy=> .at (.data fr (.ptr ρ) y) else none
 |some (o,t), .at (.data fr (.optr τ) (some x))=>if T.ty s=some τ then (T.ty t).bind λρ=>(Md τ x o ρ).map λy=> .at (.data fr (.ptr ρ) y) else none
 |_,_=>none
def pw (s:TypeId) (x:AV) (f:Nat):Option AV:=
 match T.off s f,x with
 |some (o,t), .agg cs=>(T.ty t).bind λρ=>if ρ.Ar then none else cs[o]?.map .at
 |some (o,t), .at (.data fr τ x)=>if T.ty s=some τ then (T.ty t).bind λρ=>(Md τ x o ρ).map λy=> .at (.data fr ρ y) else none
 |_,_=>none
def YH (v:Option AV) (d:Int):Option Int:=
 match v with
 |none=>some d
 |some (.at (.data _ (.int _) n))=>some n
 |_=>none
def ek (st:St) (t:TypeId) (x:AV) (lo hi:Option AV):Option AV:=
 match GK x with
 |none=>none
 |some n=>
  match YH lo 0,YH hi n with
  |some l,some h=>
   if 0<=l/\l<=h/\h<=n then
    match x with
    | .at (.data fr (.slice e) xs)=>if (T.elem t).bind T.ty=some e then some (.at (.data fr (.slice e) ((xs.take h.toNat).drop l.toNat))) else none
    | .at (.own k off _)=>match st.at k with
     |some (.arr _ _ e tid _)=>if T.elem t=some tid/\T.ty tid=some e then some (.at (.own k (off+l.toNat) (h.toNat-l.toNat))) else none
     |_=>none
    | .at (.data _ .str s)=>if T.ty t=some .str then some (.at (.data true .str (s.extract l.toNat h.toNat))) else none
    |_=>none
   else none
  |_,_=>none
def ko (t:TypeId) (x i:AV):Option AV:=
 match x,i with
 | .at (.data _ .str s), .at (.data _ (.int _) n)=>if T.ty t=some .str then (if 0<=n then s[n.toNat]?.map λb=> .at (.data true (.int .u8) b.toNat) else none) else none
 |_,_=>none
def Pu (Γ:Env) (st:St) (f:FuncId) (args:List AV):Option AV:=
 match Γ f with
 |some (.q s)=>
  if s.fresh||s.res.flat||args.all (·.settled) then
   match Eg st s.arg args with
   |none=>none
   |some (_,x)=>(s.fn x).map λy=>if s.Jy then .bH (s.fresh||s.res.flat) s.res y else .at (.data (s.fresh||s.res.flat) s.res y)
  else none
 |_=>none
def Ty.chain:Ty->Bool
 | .unit=>true
 | .pair a r=>!a.Ar&&r.chain
 |_=>false
def bS (fr:Bool):(τ:Ty)->τ.den->List AV
 | .pair a r,x=> .at (.data fr a x.1)::bS fr r x.2
 |_,_=> []
def Ym (Γ:Env) (st:St) (v:AV) (args:List AV):Option AV:=
 match v with
 | .at (.data fr (.clo f τ) x)=>if τ.chain then (if f<1000000000 then Pu Γ st f (args++bS fr τ x) else Pu Γ st (f-1000000000) (bS fr τ x++args)) else none
 | .at (.clo f Ev)=>Pu Γ st f (args++Ev.map λp=> .at (.Ii p.1 p.2))
 |_=>none
def ma:List AV->Option (List (Nat×Nat))
 | []=>some []
 | .at (.Ii l i)::r=>(ma r).map λc=>(l,i)::c
 |_=>none
def fu (st:St) (t:TypeId) (m k:AV) (ok:Bool):Option AV:=
 match T.mapOf t,k with
 |some v, .at (.data _ .str s)=>
  match Gt st (.smap v) m with
  |some (_,f)=>some (if ok then .bH true (.pair v (.pair .bool .unit)) (((f s).getD v.zero),(f s).isSome,()) else .at (.data true v ((f s).getD v.zero)))
  |none=>none
 |_,_=>none
def ei (x:AV):Option Bool:=
 match x with
 | .at .Mx=>some true
 | .at (.data _ (.oslice _) x)=>some x.isNone
 |_=>none
def eh (x:AV):Option Bool:=
 match x with
 | .at .Wh=>some true
 | .at (.Ii _ _)=>some false
 | .at (.data _ (.optr _) x)=>some x.isNone
 | .at (.data _ (.ptr _) _)=>some false
 |_=>none
def Aaw:Option Ty->Bool
 |some (.ptr _)=>true
 |some (.optr _)=>true
 |_=>false
def dv (fr:Bool):(τ:Ty)->τ.den->Nat->Option AV
 | .pair a _,x,0=>some (.at (.data (fr||a.flat) a x.1))
 | .pair _ r,x,n+1=>dv fr r x.2 n
 |_,_,_=>none
def Amw:Bool×List AC->Option AV
 |(true,cs)=>some (.agg cs)
 |(false,[a])=>some (.at a)
 |_=>none
def Ad2 (l:List (Bool×List AC)) (i:Nat):Option AV:=(l[i]?).bind Amw
def zw (mx:Bool):List AV->Option AV
 | [.at (.data _ (.int k) a), .at (.data _ (.int k') b)]=>if k=k' then aT k (if mx then (if b>a then b else a) else (if b<a then b else a)) else none
 |_=>none
def Uk (op:BinOp) (t:TypeId) (x y:AV):Option AV:=
 match op,x,y with
 | .eql,x, .at .Mx=>if (T.elem t).isSome then (ei x).bind Qc else none
 | .eql,x, .at .Wh=>if Aaw (T.ty t) then (eh x).bind Qc else none
 | .neq,x, .at .Mx=>if (T.elem t).isSome then (ei x).bind λb=>Qc (!b) else none
 | .neq,x, .at .Wh=>if Aaw (T.ty t) then (eh x).bind λb=>Qc (!b) else none
 | .eql, .at (.data _ .bool a), .at (.data _ .bool b)=>if T.ty t=some .bool then Qc (a==b) else none
 | .neq, .at (.data _ .bool a), .at (.data _ .bool b)=>if T.ty t=some .bool then Qc (!(a==b)) else none
 |op,x,y=>evalBin op x y
def bytesOf (l:List Int):ByteArray:=⟨(l.map λn=>UInt8.ofNat n.toNat).toArray⟩
def q7:AV->AV
 | .at (.data fr (.oslice e) x)=> .at (.data fr (.slice e) (x.getD []))
 |v=>v
def Gf (Γ:Env) (st:St) (o:Oper):Option AV:=
 match o.op with
 | .move x=>some (st.ev x)
 | .assign x=>some (st.ev x)
 | .pick c a b=>ej (st.ev c) (st.ev a) (st.ev b)
 | .load t a=>Qx T st t (st.ev a)
 | .nilCheck x=>match st.ev x with
  | .at (.data fr (.ptr τ) x)=>some (.at (.data fr (.ptr τ) x))
  | .at (.data fr (.optr τ) (some x))=>some (.at (.data fr (.ptr τ) x))
  | .at (.Ii l i)=>some (.at (.Ii l i))
  | .at (.Ld l i)=>some (.at (.Ld l i))
  |_=>none
 | .binOp op t x y _=>Uk T op t (st.ev x) (st.ev y)
 | .unOp op _ x=>zy op (st.ev x)
 | .convert s t x=>match T.ty s,T.ty t,st.ev x with
  |some _,some (.int k), .at (.data _ (.int _) n)=>aT k (k.wrap n)
  |some (.slice (.int .u8)),some .str,_=>(Gt st (.slice (.int .u8)) (st.ev x)).map λp=> .at (.data true .str (bytesOf p.2))
  |_,_,_=>none
 | .slice t x lo hi mx=>if mx.isSome then none else ek T st t (st.ev x) (lo.map st.ev) (hi.map st.ev)
 | .fieldAddr s x f=>Pd T s (st.ev x) f
 | .field s x f=>pw T s (st.ev x) f
 | .indexAddr t x i=>Lp T st t (q7 (st.ev x)) (st.ev i)
 | .index t x i=>ko T t (st.ev x) (st.ev i)
 | .extract x i=>match st.ev x with
  | .bH fr τ y=>dv fr τ y i
  | .Nr l=>Ad2 l i
  |_=>none
 | .call {callee:= .value (.func f),args, .. } =>Pu Γ st f (args.toList.map st.ev)
 | .call {callee:= .value (.tmp t),args, .. } =>Ym Γ st (st.get t) (args.toList.map st.ev)
 | .makeFunc (.func f) first Ev=>match first.toList.map st.ev with
  | []=>(ma (Ev.toList.map st.ev)).map λc=> .at (.clo f c)
  | [.at (.data fr τ x)]=>if Ev.isEmpty&&!τ.Ar then some (.at (.data fr (.clo (f+1000000000) (.pair τ .unit)) (x,()))) else none
  |_=>none
 | .lookup t m k ok=>fu T st t (st.ev m) (st.ev k) ok
 | .call {callee:= .builtin .len,args,argTypes} =>match args.toList,argTypes.toList with
  | [x],[t]=>match T.ty t with
   |some (.slice _)=>(GM st (st.ev x)).bind (aT .i64)
   |some (.oslice _)=>(GM st (q7 (st.ev x))).bind (aT .i64)
   |some .str=>(SL (st.ev x)).bind (aT .i64)
   |_=>none
  |_,_=>none
 | .call {callee:= .builtin .min,args, .. } =>zw false (args.toList.map st.ev)
 | .call {callee:= .builtin .max,args, .. } =>zw true (args.toList.map st.ev)
 |_=>none
def Yf (st:St) (t:Option Tmp):Option (Option Bool):=
 match t with
 |some t=>match st.get t with
  | .at (.data _ .bool b)=>some (some b)
  | .at .skip=>some none
  |_=>none
 |none=>none
end Go.Proofs.YtkkdpknjohcekaaGreat
