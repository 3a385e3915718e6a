/-
  Part 2 of the proof that the statement FnExactSolveTwoPhaseWithin holds.
-/
import Derived.Test.YtfgfigkbgecfnaaCSolveTwoPhaseWithin00
namespace Go.Proofs.Ytfgfigkbgecfnaa
open Go.RowKit
inductive AC where
 |undef
 |skip
 |Mn
 |Wk
 |data (fr:Bool) (τ:Ty) (x:τ.den)
 |own (l off len:Nat)
 |Hs (l i:Nat)
 |Kq (l i:Nat)
 |clo (f:Nat) (En:List (Nat×Nat))
 |Le (l:Nat)
 |sub (l i c:Nat)
 |Kl (l i j:Nat)
inductive AV where
 |at (a:AC)
 |agg (cs:List AC)
 |bL (fr:Bool) (τ:Ty) (x:τ.den)
 |Nh (l:List (Bool×List AC))
@[reducible] def AV.undef:AV:= .at .undef
inductive OB where
 |arr (fr tr:Bool) (e:Ty) (tid:TypeId) (xs:List e.den)
 |Hl (e:Ty) (tid:TypeId) (xs:List e.den)
 |var (tid:TypeId) (vs:List AC)
 |Ca (e:Ty) (te:TypeId) (rows:List (List e.den)) (out:Option Nat) (kp:Option (Nat×Nat))
 |Wl (v:Ty) (m:ByteArray->Option v.den)
structure St where
 tmps:List AV
 heap:List (Nat×OB)
def Ay:List (Nat×OB)->Nat->Option OB
 | [],_=>none
 |(k,b)::r,l=>if k=l then some b else Ay r l
def St.get (st:St) (t:Nat):AV:=st.tmps.getD t .undef
def St.at (st:St) (l:Nat):Option OB:=Ay st.heap l
def Tm {α:Type} :List α->Nat->α->List α
 | [],_,_=> []
 |_::r,0,y=>y::r
 |x::r,n+1,y=>x::Tm r n y
def St.put (st:St) (dst:Option Tmp) (v:AV):St:=
 match dst with
 |some d=> {st with tmps:=Tm st.tmps d v}
 |none=>st
def AV.map (f:AC->AC):AV->AV
 | .at a=> .at (f a)
 | .agg cs=> .agg (cs.map f)
 | .bL fr τ x=> .bL fr τ x
 | .Nh l=> .Nh (l.map λp=>(p.1,p.2.map f))
def OB.map (f:AC->AC):OB->OB
 | .arr fr tr e t xs=> .arr fr tr e t xs
 | .Hl e t xs=> .Hl e t xs
 | .var t vs=> .var t (vs.map f)
 | .Ca e te rows out kp=> .Ca e te rows out kp
 | .Wl v m=> .Wl v m
def aT:List (Nat×OB)->Nat->List (Nat×OB)
 | [],_=> []
 |(k,b)::r,l=>if k=l then aT r l else (k,b)::aT r l
def St.Lo (st:St) (f:AC->AC):St:= {tmps:=st.tmps.map (·.map f),heap:=st.heap.map λp=>(p.1,p.2.map f)}
def Cy (l:Nat):AC->AC
 | .own k off len=>if k=l then .undef else .own k off len
 | .Hs k i=>if k=l then .undef else .Hs k i
 | .Kq k i=>if k=l then .undef else .Kq k i
 | .clo f En=>if (En.map (·.1)).contains l then .undef else .clo f En
 | .Le k=>if k=l then .undef else .Le k
 | .sub k i c=>if k=l then .undef else .sub k i c
 | .Kl k i c=>if k=l then .undef else .Kl k i c
 |a=>a
def St.forget (st:St) (l:Nat):St:=let s:=st.Lo (Cy l); {s with heap:=aT s.heap l}
def Dj (l:Nat) (fr:Bool) (e:Ty) (xs:List e.den):AC->AC
 | .own k off len=>if k=l then .data fr (.slice e) ((xs.drop off).take len) else .own k off len
 | .Kq k i=>if k=l then .undef else .Kq k i
 | .Hs k i=>if k=l then .undef else .Hs k i
 | .clo f En=>if (En.map (·.1)).contains l then .undef else .clo f En
 | .Le k=>if k=l then .undef else .Le k
 | .sub k i c=>if k=l then .undef else .sub k i c
 | .Kl k i c=>if k=l then .undef else .Kl k i c
 |a=>a
def St.freeze (st:St) (l:Nat) (fr:Bool) (e:Ty) (xs:List e.den):St:=let s:=st.Lo (Dj l fr e xs); {s with heap:=aT s.heap l}
def Hp (l:Nat) (v:Ty) (m:ByteArray->Option v.den):AC->AC
 | .Le k=>if k=l then .data false (.smap v) m else .Le k
 | .own k off len=>if k=l then .undef else .own k off len
 | .Kq k i=>if k=l then .undef else .Kq k i
 | .Hs k i=>if k=l then .undef else .Hs k i
 | .clo f En=>if (En.map (·.1)).contains l then .undef else .clo f En
 | .sub k i c=>if k=l then .undef else .sub k i c
 | .Kl k i c=>if k=l then .undef else .Kl k i c
 |a=>a
def St.Ja (st:St) (l:Nat) (v:Ty) (m:ByteArray->Option v.den):St:=let s:=st.Lo (Hp l v m); {s with heap:=aT s.heap l}
def Pb:List (Nat×OB)->Nat->OB->List (Nat×OB)
 | [],l,b=> [(l,b)]
 |(k,c)::r,l,b=>if l<k then (l,b)::(k,c)::r else (k,c)::Pb r l b
def St.new (st:St) (l:Nat) (b:OB):St:=let s:=st.forget l; {s with heap:=Pb s.heap l b}
def aN:List (Nat×OB)->Nat->OB->List (Nat×OB)
 | [],_,_=> []
 |(k,b)::r,l,b'=>if k=l then (k,b')::r else (k,b)::aN r l b'
def St.Kk (st:St) (l:Nat) (b:OB):St:= {st with heap:=aN st.heap l b}
structure Tab where
 ty:TypeId->Option Ty
 elem:TypeId->Option TypeId
 mapOf:TypeId->Option Ty
 off:TypeId->Nat->Option (Nat×TypeId)
 tN:Bool:=true
 DA:Bool:=false
 marks:List Nat:= []
 parts:List Nat:= []
 Aht:List TypeId:= []
def Ty.zero:(τ:Ty)->τ.den
 | .int _=>(0:Int)
 | .bool=>false
 | .str=>(ByteArray.empty)
 | .slice _=> []
 | .oslice _=>none
 | .ptr a=>a.zero
 | .optr _=>none
 | .smap _=> λ_=>none
 | .clo _ c=>c.zero
 | .unit=>()
 | .pair a r=>(a.zero,r.zero)
def Td (fr:Bool):(τ:Ty)->τ.den->List AC
 | .unit,_=> []
 | .pair a r,x=>Td fr a x.1++Td fr r x.2
 |τ,x=> [.data fr τ x]
def j8 (fr:Bool):(τ Ow:Ty)->Ow.den->Option (Bool×τ.den)
 | .slice e, .oslice e',x=>if h:e'=e then some (fr,((h▸x:Option (List e.den)).getD [])) else none
 | .optr a, .ptr a',x=>if h:a'=a then some (fr,some (h▸x:a.den)) else none
 |_,_,_=>none
def Dy (st:St):(τ:Ty)->AC->Option (Bool×τ.den)
 |τ, .data fr Ow x=>if h:Ow=τ then some (fr||τ.flat,h▸x) else j8 fr τ Ow x
 | .slice _, .Mn=>some (true,[])
 | .oslice _, .Mn=>some (true,none)
 | .optr _, .Wk=>some (true,none)
 | .slice e, .own l off len=>match st.at l with
  |some (.arr fr _ e' _ xs)=>if h:e'=e then some (fr,((h▸xs:List e.den).drop off).take len) else none
  |some (.Hl e' _ xs)=>if h:e'=e then some (true,((h▸xs:List e.den).drop off).take len) else none
  |some (.Ca e' _ rows none _)=>if h: .slice e'=e then some (false,((h▸(rows:List (Ty.slice e').den):List e.den).drop off).take len) else none
  |_=>none
 | .slice e, .sub l i _=>match st.at l with
  |some (.Ca e' _ rows none _)=>if h:e'=e then some (false,(h▸(rows.getD i []:List e'.den):List e.den)) else none
  |_=>none
 | .smap v, .Le l=>match st.at l with
  |some (.Wl v' m)=>if h:v'=v then some (true,h▸m) else none
  |_=>none
 |_,_=>none
def Fq (st:St):(τ:Ty)->List AC->Option (Bool×τ.den)
 | .unit,[]=>some (true,())
 | .unit,_::_=>none
 | .pair a r,cs=>
  match Fq st a (cs.take a.size),Fq st r (cs.drop a.size) with
  |some (f1,x),some (f2,y)=>some (f1&&f2,(x,y))
  |_,_=>none
 |τ,[c]=>Dy st τ c
 |_,_=>none
def Vj (st:St) (a:Ty) (l i:Nat):Option (Bool×a.den):=
 match st.at l with
 |some (.var _ vs)=>Fq st a ((vs.drop i).take a.size)
 |_=>none
def Lr (st:St):(τ:Ty)->List (Nat×Nat)->Option (Bool×τ.den)
 | .unit,[]=>some (true,())
 | .pair (.ptr a) r,(l,i)::cs=>
  match Vj st a l i,Lr st r cs with
  |some (f1,x),some (f2,y)=>some (f1&&f2,(x,y))
  |_,_=>none
 |_,_=>none
def Kh (st:St):(τ:Ty)->AC->Option (Bool×τ.den)
 | .ptr a, .Hs l i=>Vj st a l i
 | .optr a, .Hs l i=>(Vj st a l i).map λp=>(p.1,some p.2)
 | .clo f τ, .clo g En=>if g=f/\f<1000000000 then Lr st τ En else none
 |τ,c=>Dy st τ c
def Gk (st:St) (τ:Ty):AV->Option (Bool×τ.den)
 | .at (.data fr Ow x)=>if h:Ow=τ then some (fr||τ.flat,h▸x) else if τ.Ar then none else Kh st τ (.data fr Ow x)
 | .at a=>if τ.Ar then none else Kh st τ a
 | .agg cs=>if τ.Ar then Fq st τ cs else none
 |_=>none
def Eg (st:St):(τ:Ty)->List AV->Option (Bool×τ.den)
 | .unit,[]=>some (true,())
 | .pair a r,v::vs=>
  match Gk st a v,Eg st r vs with
  |some (f1,x),some (f2,y)=>some (f1&&f2,(x,y))
  |_,_=>none
 |_,_=>none
def AC.settled:AC->Bool
 | .data _ _ _| .Mn| .Wk=>true
 |_=>false
def AV.settled:AV->Bool
 | .at a=>a.settled
 | .agg cs=>cs.all (·.settled)
 | .bL _ _ _=>true
 | .Nh _=>false
inductive CK where
 |Ia (τ:Ty)
 |row (e:Ty) (te:TypeId)
 |Hz (e:Ty) (te:TypeId)
 |part (e:Ty) (te:TypeId)
 |Ca (e:Ty) (te:TypeId) (kp:Bool)
@[reducible] def CK.den:CK->Type
 | .Ia τ=>τ.den
 | .row e _=>List e.den
 | .Hz e _=>List e.den
 | .part e _=>List e.den×Nat×Nat
 | .Ca e _ _=>List (List e.den)
def CK.flat:CK->Bool
 | .Ia τ=>τ.flat
 | .row e _=>e.flat
 | .Hz _ _=>true
 | .part e _=>e.flat
 | .Ca _ _ _=>false
def CK.isX:CK->Bool
 | .Hz _ _=>true
 |_=>false
@[reducible] def CKs.den:List CK->Type
 | []=>Unit
 |c::r=>c.den×CKs.den r
@[reducible] def IOs.den:List (Bool×CK)->Type
 | []=>Unit
 |(true, .Ia _)::r=>IOs.den r
 |(true, .row e _)::r=>List e.den×IOs.den r
 |(true, .Hz e _)::r=>List e.den×IOs.den r
 |(true, .part e _)::r=>List e.den×IOs.den r
 |(true, .Ca _ _ _)::r=>IOs.den r
 |(false,_)::r=>IOs.den r
@[reducible] def Ins.den:List (Bool×CK)->Type
 | []=>Unit
 |p::r=>p.2.den×Ins.den r
structure MSpec where
 ptr:Option (TypeId×Nat):=none
 Mq:List (Option Nat)
 ins:List (Bool×CK)
 Jy:Bool
 Li:List (Option Nat)
 outs:List CK
 fn:Ins.den ins->Option (CKs.den outs×IOs.den ins)
 keeps:List (Nat×Nat):= []
 Gd:Ins.den ins->Nat:= λ_=>0
 rp:Option TypeId:=none
structure Spec where
 arg:Ty
 res:Ty
 Jy:Bool
 fresh:Bool
 fn:arg.den->Option res.den
inductive cY where
 |q (s:Spec)
 |m (s:MSpec)
 |b (s:Spec) (m:MSpec)
def MSpec.flat (s:MSpec):Bool:=s.outs.all (·.flat)&&s.ins.all λp=>!p.1||p.2.flat
def MSpec.Abp (s:MSpec):Bool:=s.flat||s.outs.all λc=>!c.isX
abbrev Env:=FuncId->Option cY
def nI:Value->AV
 | .int k n=> .at (.data true (.int k) n)
 | .bool b=> .at (.data true .bool b)
 | .string s=> .at (.data true .str s)
 | .slice none 0 0=> .at .Mn
 | .pointer none=> .at .Wk
 |_=> .undef
def St.ev (st:St):Operand->AV
 | .tmp t=>st.get t
 | .const v=>nI v
 | .func f=> .at (.clo f [])
 |_=> .undef
def idx {α:Type} (xs:List α) (i:Int):Option α:=if 0<=i then xs[i.toNat]? else none
def inb (n:Int) (len:Nat):Bool:=decide (0<=n)&&decide (n<len)
theorem Uz {n:Int} {len:Nat} :inb n len=true↔0<=n/\n<len:=by simp [inb]
def aY (k:IntKind) (n:Int):Option AV:=some (.at (.data true (.int k) n))
def Pu (b:Bool):Option AV:=some (.at (.data true .bool b))
def uh (op:BinOp) (k:IntKind) (a b:Int):Option AV:=
 match op with
 | .add=>aY k (k.wrap (a+b))
 | .sub=>aY k (k.wrap (a-b))
 | .mul=>aY k (k.wrap (a*b))
 | .quo=>if b=0 then none else aY k (k.wrap (a.tdiv b))
 | .rem=>if b=0 then none else aY k (a.tmod b)
 | .and=>aY k (k.wrap (BitVec.ofInt k.bits a&&&BitVec.ofInt k.bits b).toNat)
 | .or=>aY k (k.wrap (BitVec.ofInt k.bits a|||BitVec.ofInt k.bits b).toNat)
 | .eql=>Pu (a==b)
 | .neq=>Pu (a !=b)
 | .lss=>Pu (decide (a<b))
 | .leq=>Pu (decide (a<=b))
 | .gtr=>Pu (decide (a>b))
 | .geq=>Pu (decide (a>=b))
 |_=>none
def evalBin (op:BinOp) (x y:AV):Option AV:=
 match x,y with
 | .at (.data _ (.int k) a), .at (.data _ (.int k') b)=>
  match op with
  | .shl=>if b<0 then none else aY k (k.wrap (a*2^(min b.toNat k.bits)))
  | .shr=>if b<0 then none else aY k (a.fdiv (2^(min b.toNat k.bits)))
  |_=>if k=k' then uh op k a b else none
 | .at (.data _ .str a), .at (.data _ .str b)=>
  match op with
  | .eql=>Pu (a.toList==b.toList)
  | .neq=>Pu (!(a.toList==b.toList))
  | .add=>if a.size+b.size<=4294967296 then some (.at (.data true .str (a++b))) else none
  |_=>none
 |_,_=>none
def zD (op:UnOp) (x:AV):Option AV:=
 match op,x with
 | .not, .at (.data _ .bool b)=>Pu (!b)
 | .neg, .at (.data _ (.int k) n)=>aY k (k.wrap (0-n))
 |_,_=>none
def eI (c x y:AV):Option AV:=
 match c with
 | .at (.data _ .bool b)=>some (if b then x else y)
 |_=>none
def GU:AV->Option Int
 | .at .Mn=>some 0
 | .at (.data _ (.slice _) xs)=>some xs.length
 | .at (.data _ .str s)=>some s.size
 | .at (.own _ _ len)=>some (len:Int)
 |_=>none
def Abg:AV->Option Int
 | .at .Mn=>some 0
 | .at (.data _ (.slice _) xs)=>some xs.length
 | .at (.own _ _ len)=>some (len:Int)
 |_=>none
def GW (st:St):AV->Option Int
 | .at (.sub l i _)=>match st.at l with
  |some (.Ca _ _ rows none _)=>some (rows.getD i []).length
  |_=>none
 |v=>Abg v
def SU:AV->Option Int
 | .at (.data _ .str s)=>some s.size
 |_=>none
def Lu:(τ:Ty)->τ.den->Nat->(ρ:Ty)->Option ρ.den
 | .pair a r,x,o,ρ=>if o=0 then (if h:a=ρ then some (h▸x.1) else none) else if o<a.size then none else Lu r x.2 (o-a.size) ρ
 |_,_,_,_=>none
def gL (l i:Nat):(c:Nat)->(τ:Ty)->τ.den->List AC
 |_, .unit,_=> []
 |c, .pair a r,x=>gL l i c a x.1++gL l i (c+a.size) r x.2
 |c,τ,x=> [if τ.flat then .data true τ x else .sub l i c]
variable (T:Tab)
def Qr (st:St) (t:TypeId) (p:AV):Option AV:=
 match T.ty t,p with
 |some τ, .at (.data fr (.ptr Ow) x)=>if Ow=τ then some (.at (.data (fr||Ow.flat) Ow x)) else none
 |some τ, .at (.data fr (.optr Ow) (some x))=>if Ow=τ then some (.at (.data (fr||Ow.flat) Ow x)) else none
 |some τ, .at (.Hs l i)=>match st.at l with
  |some (.var _ vs)=>if τ.Ar then (if i+τ.size<=vs.length then some (.agg ((vs.drop i).take τ.size)) else none) else vs[i]?.map .at
  |_=>none
 |some τ, .at (.Kq l i)=>match st.at l with
  |some (.arr fr _ e _ xs)=>if e=τ then xs[i]?.map λx=> .at (.data (fr||e.flat) e x) else none
  |some (.Hl e _ xs)=>if e=τ then xs[i]?.map λx=>if e.Ar then .agg (gL l i 0 e x) else .at ((gL l i 0 e x).headD .undef) else none
  |some (.Ca _ _ _ none _)=>if τ.Ar then none else some (.at (.sub l i 0))
  |_=>none
 |some τ, .at (.Kl l i j)=>match st.at l with
  |some (.Ca e _ rows none _)=>if e=τ then some (.at (.data e.flat e ((rows.getD i []).getD j e.zero))) else none
  |_=>none
 |_,_=>none
def Lh (st:St) (t:TypeId) (x i:AV):Option AV:=
 match x,i with
 | .at (.data fr (.slice e) xs), .at (.data _ (.int _) n)=>if (T.elem t).bind T.ty=some e then (idx xs n).map λx=> .at (.data fr (.ptr e) x) else none
 | .at (.own l off len), .at (.data _ (.int _) n)=>match st.at l with
  |some (.arr _ _ e tid _)=>if T.elem t=some tid/\T.ty tid=some e/\inb n len=true then some (.at (.Kq l (off+n.toNat))) else none
  |some (.Hl e tid _)=>if T.elem t=some tid/\T.ty tid=some e/\inb n len=true then some (.at (.Kq l (off+n.toNat))) else none
  |some (.Ca _ te _ _ _)=>if T.elem t=some te/\(T.ty te).map Ty.size=some 1/\inb n len=true then some (.at (.Kq l (off+n.toNat))) else none
  |_=>none
 | .at (.sub l i _), .at (.data _ (.int _) n)=>match st.at l with
  |some (.Ca e _ rows none _)=>if ((T.elem t).bind T.ty).map Ty.size=some e.size/\inb n (rows.getD i []).length=true then some (.at (.Kl l i n.toNat)) else none
  |_=>none
 |_,_=>none
def Oq (s:TypeId) (x:AV) (f:Nat):Option AV:=
 match T.off s f,x with
 |some (o,_), .at (.Hs l i)=>some (.at (.Hs l (i+o)))
 |some (o,t), .at (.data fr (.ptr τ) x)=>if T.ty s=some τ then (T.ty t).bind λρ=>(Lu τ x o ρ).map λy=> .at (.data fr (.ptr ρ) y) else none
 |some (o,t), .at (.data fr (.optr τ) (some x))=>if T.ty s=some τ then (T.ty t).bind λρ=>(Lu τ x o ρ).map λy=> .at (.data fr (.ptr ρ) y) else none
 |_,_=>none
def pA (s:TypeId) (x:AV) (f:Nat):Option AV:=
 match T.off s f,x with
 |some (o,t), .agg cs=>(T.ty t).bind λρ=>if ρ.Ar then none else cs[o]?.map .at
 |some (o,t), .at (.data fr τ x)=>if T.ty s=some τ then (T.ty t).bind λρ=>(Lu τ x o ρ).map λy=> .at (.data fr ρ y) else none
 |_,_=>none
def YK (v:Option AV) (d:Int):Option Int:=
 match v with
 |none=>some d
 |some (.at (.data _ (.int _) n))=>some n
 |_=>none
def eJ (st:St) (t:TypeId) (x:AV) (lo hi:Option AV):Option AV:=
 match GU x with
 |none=>none
 |some n=>
  match YK lo 0,YK hi n with
  |some l,some h=>
   if 0<=l/\l<=h/\h<=n then
    match x with
    | .at (.data fr (.slice e) xs)=>if (T.elem t).bind T.ty=some e then some (.at (.data fr (.slice e) ((xs.take h.toNat).drop l.toNat))) else none
    | .at (.own k off _)=>match st.at k with
     |some (.arr _ _ e tid _)=>if T.elem t=some tid/\T.ty tid=some e then some (.at (.own k (off+l.toNat) (h.toNat-l.toNat))) else none
     |_=>none
    | .at (.data _ .str s)=>if T.ty t=some .str then some (.at (.data true .str (s.extract l.toNat h.toNat))) else none
    |_=>none
   else none
  |_,_=>none
def kB (t:TypeId) (x i:AV):Option AV:=
 match x,i with
 | .at (.data _ .str s), .at (.data _ (.int _) n)=>if T.ty t=some .str then (if 0<=n then s[n.toNat]?.map λb=> .at (.data true (.int .u8) b.toNat) else none) else none
 |_,_=>none
def Pk (Γ:Env) (st:St) (f:FuncId) (args:List AV):Option AV:=
 match Γ f with
 |some (.q s)=>
  if s.fresh||s.res.flat||args.all (·.settled) then
   match Eg st s.arg args with
   |none=>none
   |some (_,x)=>(s.fn x).map λy=>if s.Jy then .bL (s.fresh||s.res.flat) s.res y else .at (.data (s.fresh||s.res.flat) s.res y)
  else none
 |_=>none
def Ty.chain:Ty->Bool
 | .unit=>true
 | .pair a r=>!a.Ar&&r.chain
 |_=>false
def bT (fr:Bool):(τ:Ty)->τ.den->List AV
 | .pair a r,x=> .at (.data fr a x.1)::bT fr r x.2
 |_,_=> []
def Yr (Γ:Env) (st:St) (v:AV) (args:List AV):Option AV:=
 match v with
 | .at (.data fr (.clo f τ) x)=>if τ.chain then (if f<1000000000 then Pk Γ st f (args++bT fr τ x) else Pk Γ st (f-1000000000) (bT fr τ x++args)) else none
 | .at (.clo f En)=>Pk Γ st f (args++En.map λp=> .at (.Hs p.1 p.2))
 |_=>none
def mu:List AV->Option (List (Nat×Nat))
 | []=>some []
 | .at (.Hs l i)::r=>(mu r).map λc=>(l,i)::c
 |_=>none
def fO (st:St) (t:TypeId) (m k:AV) (ok:Bool):Option AV:=
 match T.mapOf t,k with
 |some v, .at (.data _ .str s)=>
  match Gk st (.smap v) m with
  |some (_,f)=>some (if ok then .bL true (.pair v (.pair .bool .unit)) (((f s).getD v.zero),(f s).isSome,()) else .at (.data true v ((f s).getD v.zero)))
  |none=>none
 |_,_=>none
def eH (x:AV):Option Bool:=
 match x with
 | .at .Mn=>some true
 | .at (.data _ (.oslice _) x)=>some x.isNone
 |_=>none
def eG (x:AV):Option Bool:=
 match x with
 | .at .Wk=>some true
 | .at (.Hs _ _)=>some false
 | .at (.data _ (.optr _) x)=>some x.isNone
 | .at (.data _ (.ptr _) _)=>some false
 |_=>none
def Abc:Option Ty->Bool
 |some (.ptr _)=>true
 |some (.optr _)=>true
 |_=>false
def dG (fr:Bool):(τ:Ty)->τ.den->Nat->Option AV
 | .pair a _,x,0=>some (.at (.data (fr||a.flat) a x.1))
 | .pair _ r,x,n+1=>dG fr r x.2 n
 |_,_,_=>none
def Ao9:Bool×List AC->Option AV
 |(true,cs)=>some (.agg cs)
 |(false,[a])=>some (.at a)
 |_=>none
def Adm (l:List (Bool×List AC)) (i:Nat):Option AV:=(l[i]?).bind Ao9
def zB (mx:Bool):List AV->Option AV
 | [.at (.data _ (.int k) a), .at (.data _ (.int k') b)]=>if k=k' then aY k (if mx then (if b>a then b else a) else (if b<a then b else a)) else none
 |_=>none
def Uo (op:BinOp) (t:TypeId) (x y:AV):Option AV:=
 match op,x,y with
 | .eql,x, .at .Mn=>if (T.elem t).isSome then (eH x).bind Pu else none
 | .eql,x, .at .Wk=>if Abc (T.ty t) then (eG x).bind Pu else none
 | .neq,x, .at .Mn=>if (T.elem t).isSome then (eH x).bind λb=>Pu (!b) else none
 | .neq,x, .at .Wk=>if Abc (T.ty t) then (eG x).bind λb=>Pu (!b) else none
 | .eql, .at (.data _ .bool a), .at (.data _ .bool b)=>if T.ty t=some .bool then Pu (a==b) else none
 | .neq, .at (.data _ .bool a), .at (.data _ .bool b)=>if T.ty t=some .bool then Pu (!(a==b)) else none
 |op,x,y=>evalBin op x y
def bytesOf (l:List Int):ByteArray:=⟨(l.map λn=>UInt8.ofNat n.toNat).toArray⟩
def qa:AV->AV
 | .at (.data fr (.oslice e) x)=> .at (.data fr (.slice e) (x.getD []))
 |v=>v
def Fv (Γ:Env) (st:St) (o:Oper):Option AV:=
 match o.op with
 | .move x=>some (st.ev x)
 | .assign x=>some (st.ev x)
 | .pick c a b=>eI (st.ev c) (st.ev a) (st.ev b)
 | .load t a=>Qr T st t (st.ev a)
 | .nilCheck x=>match st.ev x with
  | .at (.data fr (.ptr τ) x)=>some (.at (.data fr (.ptr τ) x))
  | .at (.data fr (.optr τ) (some x))=>some (.at (.data fr (.ptr τ) x))
  | .at (.Hs l i)=>some (.at (.Hs l i))
  | .at (.Kq l i)=>some (.at (.Kq l i))
  |_=>none
 | .binOp op t x y _=>Uo T op t (st.ev x) (st.ev y)
 | .unOp op _ x=>zD op (st.ev x)
 | .convert s t x=>match T.ty s,T.ty t,st.ev x with
  |some _,some (.int k), .at (.data _ (.int _) n)=>aY k (k.wrap n)
  |some (.slice (.int .u8)),some .str,_=>(Gk st (.slice (.int .u8)) (st.ev x)).map λp=> .at (.data true .str (bytesOf p.2))
  |_,_,_=>none
 | .slice t x lo hi mx=>if mx.isSome then none else eJ T st t (st.ev x) (lo.map st.ev) (hi.map st.ev)
 | .fieldAddr s x f=>Oq T s (st.ev x) f
 | .field s x f=>pA T s (st.ev x) f
 | .indexAddr t x i=>Lh T st t (qa (st.ev x)) (st.ev i)
 | .index t x i=>kB T t (st.ev x) (st.ev i)
 | .extract x i=>match st.ev x with
  | .bL fr τ y=>dG fr τ y i
  | .Nh l=>Adm l i
  |_=>none
 | .call {callee:= .value (.func f),args, .. } =>Pk Γ st f (args.toList.map st.ev)
 | .call {callee:= .value (.tmp t),args, .. } =>Yr Γ st (st.get t) (args.toList.map st.ev)
 | .makeFunc (.func f) first En=>match first.toList.map st.ev with
  | []=>(mu (En.toList.map st.ev)).map λc=> .at (.clo f c)
  | [.at (.data fr τ x)]=>if En.isEmpty&&!τ.Ar then some (.at (.data fr (.clo (f+1000000000) (.pair τ .unit)) (x,()))) else none
  |_=>none
 | .lookup t m k ok=>fO T st t (st.ev m) (st.ev k) ok
 | .call {callee:= .builtin .len,args,argTypes} =>match args.toList,argTypes.toList with
  | [x],[t]=>match T.ty t with
   |some (.slice _)=>(GW st (st.ev x)).bind (aY .i64)
   |some (.oslice _)=>(GW st (qa (st.ev x))).bind (aY .i64)
   |some .str=>(SU (st.ev x)).bind (aY .i64)
   |_=>none
  |_,_=>none
 | .call {callee:= .builtin .min,args, .. } =>zB false (args.toList.map st.ev)
 | .call {callee:= .builtin .max,args, .. } =>zB true (args.toList.map st.ev)
 |_=>none
def Yj (st:St) (t:Option Tmp):Option (Option Bool):=
 match t with
 |some t=>match st.get t with
  | .at (.data _ .bool b)=>some (some b)
  | .at .skip=>some none
  |_=>none
 |none=>none
end Go.Proofs.Ytfgfigkbgecfnaa
