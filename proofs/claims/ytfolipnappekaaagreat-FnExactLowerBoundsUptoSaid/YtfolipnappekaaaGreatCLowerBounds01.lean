/-
  Part 2 of the proof that the statement FnExactLowerBounds holds.
-/
import Derived.Test.YtfolipnappekaaaGreatCLowerBounds00
namespace Go.Proofs.YtfolipnappekaaaGreat
open Go.RowKit
inductive AC where
 |undef
 |skip
 |Hp
 |Qd
 |data (fr:Bool) (τ:Ty) (x:τ.den)
 |own (l off len:Nat)
 |Dv (l i:Nat)
 |Fu (l i:Nat)
 |clo (f:Nat) (Bv:List (Nat×Nat))
 |Ga (l:Nat)
 |sub (l i c:Nat)
 |Fp (l i j:Nat)
inductive AV where
 |at (a:AC)
 |agg (cs:List AC)
 |Vl (fr:Bool) (τ:Ty) (x:τ.den)
 |Ib (l:List (Bool×List AC))
@[reducible] def AV.undef:AV:= .at .undef
inductive OB where
 |arr (fr tr:Bool) (e:Ty) (tid:TypeId) (xs:List e.den)
 |Dc (e:Ty) (tid:TypeId) (xs:List e.den)
 |var (tid:TypeId) (vs:List AC)
 |Aj (e:Ty) (te:TypeId) (rows:List (List e.den)) (out:Option Nat) (kp:Option (Nat×Nat))
 |Pb (v:Ty) (m:ByteArray->Option v.den)
structure St where
 tmps:List AV
 heap:List (Nat×OB)
def Ad:List (Nat×OB)->Nat->Option OB
 | [],_=>none
 |(k,b)::r,l=>if k=l then some b else Ad r l
def St.get (st:St) (t:Nat):AV:=st.tmps.getD t .undef
def St.at (st:St) (l:Nat):Option OB:=Ad st.heap l
def Od {α:Type} :List α->Nat->α->List α
 | [],_,_=> []
 |_::r,0,y=>y::r
 |x::r,n+1,y=>x::Od r n y
def St.put (st:St) (dst:Option Tmp) (v:AV):St:=
 match dst with
 |some d=> {st with tmps:=Od st.tmps d v}
 |none=>st
def AV.map (f:AC->AC):AV->AV
 | .at a=> .at (f a)
 | .agg cs=> .agg (cs.map f)
 | .Vl fr τ x=> .Vl fr τ x
 | .Ib l=> .Ib (l.map λp=>(p.1,p.2.map f))
def OB.map (f:AC->AC):OB->OB
 | .arr fr tr e t xs=> .arr fr tr e t xs
 | .Dc e t xs=> .Dc e t xs
 | .var t vs=> .var t (vs.map f)
 | .Aj e te rows out kp=> .Aj e te rows out kp
 | .Pb v m=> .Pb v m
def Tw:List (Nat×OB)->Nat->List (Nat×OB)
 | [],_=> []
 |(k,b)::r,l=>if k=l then Tw r l else (k,b)::Tw r l
def St.Gj (st:St) (f:AC->AC):St:= {tmps:=st.tmps.map (·.map f),heap:=st.heap.map λp=>(p.1,p.2.map f)}
def Bc (l:Nat):AC->AC
 | .own k off len=>if k=l then .undef else .own k off len
 | .Dv k i=>if k=l then .undef else .Dv k i
 | .Fu k i=>if k=l then .undef else .Fu k i
 | .clo f Bv=>if (Bv.map (·.1)).contains l then .undef else .clo f Bv
 | .Ga k=>if k=l then .undef else .Ga k
 | .sub k i c=>if k=l then .undef else .sub k i c
 | .Fp k i c=>if k=l then .undef else .Fp k i c
 |a=>a
def St.forget (st:St) (l:Nat):St:=let s:=st.Gj (Bc l); {s with heap:=Tw s.heap l}
def Bf (l:Nat) (fr:Bool) (e:Ty) (xs:List e.den):AC->AC
 | .own k off len=>if k=l then .data fr (.slice e) ((xs.drop off).take len) else .own k off len
 | .Fu k i=>if k=l then .undef else .Fu k i
 | .Dv k i=>if k=l then .undef else .Dv k i
 | .clo f Bv=>if (Bv.map (·.1)).contains l then .undef else .clo f Bv
 | .Ga k=>if k=l then .undef else .Ga k
 | .sub k i c=>if k=l then .undef else .sub k i c
 | .Fp k i c=>if k=l then .undef else .Fp k i c
 |a=>a
def St.freeze (st:St) (l:Nat) (fr:Bool) (e:Ty) (xs:List e.den):St:=let s:=st.Gj (Bf l fr e xs); {s with heap:=Tw s.heap l}
def Dk (l:Nat) (v:Ty) (m:ByteArray->Option v.den):AC->AC
 | .Ga k=>if k=l then .data false (.smap v) m else .Ga k
 | .own k off len=>if k=l then .undef else .own k off len
 | .Fu k i=>if k=l then .undef else .Fu k i
 | .Dv k i=>if k=l then .undef else .Dv k i
 | .clo f Bv=>if (Bv.map (·.1)).contains l then .undef else .clo f Bv
 | .sub k i c=>if k=l then .undef else .sub k i c
 | .Fp k i c=>if k=l then .undef else .Fp k i c
 |a=>a
def St.Em (st:St) (l:Nat) (v:Ty) (m:ByteArray->Option v.den):St:=let s:=st.Gj (Dk l v m); {s with heap:=Tw s.heap l}
def Je:List (Nat×OB)->Nat->OB->List (Nat×OB)
 | [],l,b=> [(l,b)]
 |(k,c)::r,l,b=>if l<k then (l,b)::(k,c)::r else (k,c)::Je r l b
def St.new (st:St) (l:Nat) (b:OB):St:=let s:=st.forget l; {s with heap:=Je s.heap l b}
def Tq:List (Nat×OB)->Nat->OB->List (Nat×OB)
 | [],_,_=> []
 |(k,b)::r,l,b'=>if k=l then (k,b')::r else (k,b)::Tq r l b'
def St.Fo (st:St) (l:Nat) (b:OB):St:= {st with heap:=Tq st.heap l b}
structure Tab where
 ty:TypeId->Option Ty
 elem:TypeId->Option TypeId
 mapOf:TypeId->Option Ty
 off:TypeId->Nat->Option (Nat×TypeId)
 nX:Bool:=true
 vY:Bool:=false
 marks:List Nat:= []
 parts:List Nat:= []
 MG:List TypeId:= []
def Ty.zero:(τ:Ty)->τ.den
 | .int _=>(0:Int)
 | .bool=>false
 | .str=>(ByteArray.empty)
 | .slice _=> []
 | .oslice _=>none
 | .ptr a=>a.zero
 | .optr _=>none
 | .smap _=> λ_=>none
 | .clo _ c=>c.zero
 | .unit=>()
 | .pair a r=>(a.zero,r.zero)
def Me (fr:Bool):(τ:Ty)->τ.den->List AC
 | .unit,_=> []
 | .pair a r,x=>Me fr a x.1++Me fr r x.2
 |τ,x=> [.data fr τ x]
def cE (fr:Bool):(τ Jc:Ty)->Jc.den->Option (Bool×τ.den)
 | .slice e, .oslice e',x=>if h:e'=e then some (fr,((h▸x:Option (List e.den)).getD [])) else none
 | .optr a, .ptr a',x=>if h:a'=a then some (fr,some (h▸x:a.den)) else none
 |_,_,_=>none
def Bn (st:St):(τ:Ty)->AC->Option (Bool×τ.den)
 |τ, .data fr Jc x=>if h:Jc=τ then some (fr||τ.flat,h▸x) else cE fr τ Jc x
 | .slice _, .Hp=>some (true,[])
 | .oslice _, .Hp=>some (true,none)
 | .optr _, .Qd=>some (true,none)
 | .slice e, .own l off len=>match st.at l with
  |some (.arr fr _ e' _ xs)=>if h:e'=e then some (fr,((h▸xs:List e.den).drop off).take len) else none
  |some (.Dc e' _ xs)=>if h:e'=e then some (true,((h▸xs:List e.den).drop off).take len) else none
  |some (.Aj e' _ rows none _)=>if h: .slice e'=e then some (false,((h▸(rows:List (Ty.slice e').den):List e.den).drop off).take len) else none
  |_=>none
 | .slice e, .sub l i _=>match st.at l with
  |some (.Aj e' _ rows none _)=>if h:e'=e then some (false,(h▸(rows.getD i []:List e'.den):List e.den)) else none
  |_=>none
 | .smap v, .Ga l=>match st.at l with
  |some (.Pb v' m)=>if h:v'=v then some (true,h▸m) else none
  |_=>none
 |_,_=>none
def Cq (st:St):(τ:Ty)->List AC->Option (Bool×τ.den)
 | .unit,[]=>some (true,())
 | .unit,_::_=>none
 | .pair a r,cs=>
  match Cq st a (cs.take a.size),Cq st r (cs.drop a.size) with
  |some (f1,x),some (f2,y)=>some (f1&&f2,(x,y))
  |_,_=>none
 |τ,[c]=>Bn st τ c
 |_,_=>none
def Nu (st:St) (a:Ty) (l i:Nat):Option (Bool×a.den):=
 match st.at l with
 |some (.var _ vs)=>Cq st a ((vs.drop i).take a.size)
 |_=>none
def Gm (st:St):(τ:Ty)->List (Nat×Nat)->Option (Bool×τ.den)
 | .unit,[]=>some (true,())
 | .pair (.ptr a) r,(l,i)::cs=>
  match Nu st a l i,Gm st r cs with
  |some (f1,x),some (f2,y)=>some (f1&&f2,(x,y))
  |_,_=>none
 |_,_=>none
def Fl (st:St):(τ:Ty)->AC->Option (Bool×τ.den)
 | .ptr a, .Dv l i=>Nu st a l i
 | .optr a, .Dv l i=>(Nu st a l i).map λp=>(p.1,some p.2)
 | .clo f τ, .clo g Bv=>if g=f/\f<1000000000 then Gm st τ Bv else none
 |τ,c=>Bn st τ c
def Ct (st:St) (τ:Ty):AV->Option (Bool×τ.den)
 | .at (.data fr Jc x)=>if h:Jc=τ then some (fr||τ.flat,h▸x) else if τ.Ab then none else Fl st τ (.data fr Jc x)
 | .at a=>if τ.Ab then none else Fl st τ a
 | .agg cs=>if τ.Ab then Cq st τ cs else none
 |_=>none
def Bq (st:St):(τ:Ty)->List AV->Option (Bool×τ.den)
 | .unit,[]=>some (true,())
 | .pair a r,v::vs=>
  match Ct st a v,Bq st r vs with
  |some (f1,x),some (f2,y)=>some (f1&&f2,(x,y))
  |_,_=>none
 |_,_=>none
def AC.settled:AC->Bool
 | .data _ _ _| .Hp| .Qd=>true
 |_=>false
def AV.settled:AV->Bool
 | .at a=>a.settled
 | .agg cs=>cs.all (·.settled)
 | .Vl _ _ _=>true
 | .Ib _=>false
inductive CK where
 |Dh (τ:Ty)
 |row (e:Ty) (te:TypeId)
 |Ds (e:Ty) (te:TypeId)
 |part (e:Ty) (te:TypeId)
 |Aj (e:Ty) (te:TypeId) (kp:Bool)
@[reducible] def CK.den:CK->Type
 | .Dh τ=>τ.den
 | .row e _=>List e.den
 | .Ds e _=>List e.den
 | .part e _=>List e.den×Nat×Nat
 | .Aj e _ _=>List (List e.den)
def CK.flat:CK->Bool
 | .Dh τ=>τ.flat
 | .row e _=>e.flat
 | .Ds _ _=>true
 | .part e _=>e.flat
 | .Aj _ _ _=>false
def CK.WE:CK->Bool
 | .Ds _ _=>true
 |_=>false
@[reducible] def CKs.den:List CK->Type
 | []=>Unit
 |c::r=>c.den×CKs.den r
@[reducible] def IOs.den:List (Bool×CK)->Type
 | []=>Unit
 |(true, .Dh _)::r=>IOs.den r
 |(true, .row e _)::r=>List e.den×IOs.den r
 |(true, .Ds e _)::r=>List e.den×IOs.den r
 |(true, .part e _)::r=>List e.den×IOs.den r
 |(true, .Aj _ _ _)::r=>IOs.den r
 |(false,_)::r=>IOs.den r
@[reducible] def Ins.den:List (Bool×CK)->Type
 | []=>Unit
 |p::r=>p.2.den×Ins.den r
structure MSpec where
 ptr:Option (TypeId×Nat):=none
 Fk:List (Option Nat)
 ins:List (Bool×CK)
 Dn:Bool
 Ek:List (Option Nat)
 outs:List CK
 fn:Ins.den ins->Option (CKs.den outs×IOs.den ins)
 keeps:List (Nat×Nat):= []
 Ch:Ins.den ins->Nat:= λ_=>0
 rp:Option TypeId:=none
structure Spec where
 arg:Ty
 res:Ty
 Dn:Bool
 fresh:Bool
 fn:arg.den->Option res.den
inductive Mn where
 |q (s:Spec)
 |m (s:MSpec)
 |b (s:Spec) (m:MSpec)
def MSpec.flat (s:MSpec):Bool:=s.outs.all (·.flat)&&s.ins.all λp=>!p.1||p.2.flat
def MSpec.OA (s:MSpec):Bool:=s.flat||s.outs.all λc=>!c.WE
abbrev Env:=FuncId->Option Mn
def iq:Value->AV
 | .int k n=> .at (.data true (.int k) n)
 | .bool b=> .at (.data true .bool b)
 | .string s=> .at (.data true .str s)
 | .slice none 0 0=> .at .Hp
 | .pointer none=> .at .Qd
 |_=> .undef
def St.ev (st:St):Operand->AV
 | .tmp t=>st.get t
 | .const v=>iq v
 | .func f=> .at (.clo f [])
 |_=> .undef
def idx {α:Type} (xs:List α) (i:Int):Option α:=if 0<=i then xs[i.toNat]? else none
def WD (n:Int) (len:Nat):Bool:=decide (0<=n)&&decide (n<len)
theorem Nq {n:Int} {len:Nat} :WD n len=true↔0<=n/\n<len:=by simp [WD]
def Uf (k:IntKind) (n:Int):Option AV:=some (.at (.data true (.int k) n))
def Ju (b:Bool):Option AV:=some (.at (.data true .bool b))
def oo (op:BinOp) (k:IntKind) (a b:Int):Option AV:=
 match op with
 | .add=>Uf k (k.wrap (a+b))
 | .sub=>Uf k (k.wrap (a-b))
 | .mul=>Uf k (k.wrap (a*b))
 | .quo=>if b=0 then none else Uf k (k.wrap (a.tdiv b))
 | .rem=>if b=0 then none else Uf k (a.tmod b)
 | .and=>Uf k (k.wrap (BitVec.ofInt k.bits a&&&BitVec.ofInt k.bits b).toNat)
 | .or=>Uf k (k.wrap (BitVec.ofInt k.bits a|||BitVec.ofInt k.bits b).toNat)
 | .eql=>Ju (a==b)
 | .neq=>Ju (a !=b)
 | .lss=>Ju (decide (a<b))
 | .leq=>Ju (decide (a<=b))
 | .gtr=>Ju (decide (a>b))
 | .geq=>Ju (decide (a>=b))
 |_=>none
def evalBin (op:BinOp) (x y:AV):Option AV:=
 match x,y with
 | .at (.data _ (.int k) a), .at (.data _ (.int k') b)=>
  match op with
  | .shl=>if b<0 then none else Uf k (k.wrap (a*2^(min b.toNat k.bits)))
  | .shr=>if b<0 then none else Uf k (a.fdiv (2^(min b.toNat k.bits)))
  |_=>if k=k' then oo op k a b else none
 | .at (.data _ .str a), .at (.data _ .str b)=>
  match op with
  | .eql=>Ju (a.toList==b.toList)
  | .neq=>Ju (!(a.toList==b.toList))
  | .add=>if a.size+b.size<=4294967296 then some (.at (.data true .str (a++b))) else none
  |_=>none
 |_,_=>none
def tY (op:UnOp) (x:AV):Option AV:=
 match op,x with
 | .not, .at (.data _ .bool b)=>Ju (!b)
 | .neg, .at (.data _ (.int k) n)=>Uf k (k.wrap (0-n))
 |_,_=>none
def Zh (c x y:AV):Option AV:=
 match c with
 | .at (.data _ .bool b)=>some (if b then x else y)
 |_=>none
def xN:AV->Option Int
 | .at .Hp=>some 0
 | .at (.data _ (.slice _) xs)=>some xs.length
 | .at (.data _ .str s)=>some s.size
 | .at (.own _ _ len)=>some (len:Int)
 |_=>none
def NT:AV->Option Int
 | .at .Hp=>some 0
 | .at (.data _ (.slice _) xs)=>some xs.length
 | .at (.own _ _ len)=>some (len:Int)
 |_=>none
def xP (st:St):AV->Option Int
 | .at (.sub l i _)=>match st.at l with
  |some (.Aj _ _ rows none _)=>some (rows.getD i []).length
  |_=>none
 |v=>NT v
def FY:AV->Option Int
 | .at (.data _ .str s)=>some s.size
 |_=>none
def Gp:(τ:Ty)->τ.den->Nat->(ρ:Ty)->Option ρ.den
 | .pair a r,x,o,ρ=>if o=0 then (if h:a=ρ then some (h▸x.1) else none) else if o<a.size then none else Gp r x.2 (o-a.size) ρ
 |_,_,_,_=>none
def bp (l i:Nat):(c:Nat)->(τ:Ty)->τ.den->List AC
 |_, .unit,_=> []
 |c, .pair a r,x=>bp l i c a x.1++bp l i (c+a.size) r x.2
 |c,τ,x=> [if τ.flat then .data true τ x else .sub l i c]
variable (T:Tab)
def Kp (st:St) (t:TypeId) (p:AV):Option AV:=
 match T.ty t,p with
 |some τ, .at (.data fr (.ptr Jc) x)=>if Jc=τ then some (.at (.data (fr||Jc.flat) Jc x)) else none
 |some τ, .at (.data fr (.optr Jc) (some x))=>if Jc=τ then some (.at (.data (fr||Jc.flat) Jc x)) else none
 |some τ, .at (.Dv l i)=>match st.at l with
  |some (.var _ vs)=>if τ.Ab then (if i+τ.size<=vs.length then some (.agg ((vs.drop i).take τ.size)) else none) else vs[i]?.map .at
  |_=>none
 |some τ, .at (.Fu l i)=>match st.at l with
  |some (.arr fr _ e _ xs)=>if e=τ then xs[i]?.map λx=> .at (.data (fr||e.flat) e x) else none
  |some (.Dc e _ xs)=>if e=τ then xs[i]?.map λx=>if e.Ab then .agg (bp l i 0 e x) else .at ((bp l i 0 e x).headD .undef) else none
  |some (.Aj _ _ _ none _)=>if τ.Ab then none else some (.at (.sub l i 0))
  |_=>none
 |some τ, .at (.Fp l i j)=>match st.at l with
  |some (.Aj e _ rows none _)=>if e=τ then some (.at (.data e.flat e ((rows.getD i []).getD j e.zero))) else none
  |_=>none
 |_,_=>none
def Gc (st:St) (t:TypeId) (x i:AV):Option AV:=
 match x,i with
 | .at (.data fr (.slice e) xs), .at (.data _ (.int _) n)=>if (T.elem t).bind T.ty=some e then (idx xs n).map λx=> .at (.data fr (.ptr e) x) else none
 | .at (.own l off len), .at (.data _ (.int _) n)=>match st.at l with
  |some (.arr _ _ e tid _)=>if T.elem t=some tid/\T.ty tid=some e/\WD n len=true then some (.at (.Fu l (off+n.toNat))) else none
  |some (.Dc e tid _)=>if T.elem t=some tid/\T.ty tid=some e/\WD n len=true then some (.at (.Fu l (off+n.toNat))) else none
  |some (.Aj _ te _ _ _)=>if T.elem t=some te/\(T.ty te).map Ty.size=some 1/\WD n len=true then some (.at (.Fu l (off+n.toNat))) else none
  |_=>none
 | .at (.sub l i _), .at (.data _ (.int _) n)=>match st.at l with
  |some (.Aj e _ rows none _)=>if ((T.elem t).bind T.ty).map Ty.size=some e.size/\WD n (rows.getD i []).length=true then some (.at (.Fp l i n.toNat)) else none
  |_=>none
 |_,_=>none
def Iw (s:TypeId) (x:AV) (f:Nat):Option AV:=
 match T.off s f,x with
 |some (o,_), .at (.Dv l i)=>some (.at (.Dv l (i+o)))
 |some (o,t), .at (.data fr (.ptr τ) x)=>if T.ty s=some τ then (T.ty t).bind λρ=>(Gp τ x o ρ).map λy=> .at (.data fr (.ptr ρ) y) else none
 |some (o,t), .at (.data fr (.optr τ) (some x))=>if T.ty s=some τ then (T.ty t).bind λρ=>(Gp τ x o ρ).map λy=> .at (.data fr (.ptr ρ) y) else none
 |_,_=>none
def jV (s:TypeId) (x:AV) (f:Nat):Option AV:=
 match T.off s f,x with
 |some (o,t), .agg cs=>(T.ty t).bind λρ=>if ρ.Ab then none else cs[o]?.map .at
 |some (o,t), .at (.data fr τ x)=>if T.ty s=some τ then (T.ty t).bind λρ=>(Gp τ x o ρ).map λy=> .at (.data fr ρ y) else none
 |_,_=>none
def LC (v:Option AV) (d:Int):Option Int:=
 match v with
 |none=>some d
 |some (.at (.data _ (.int _) n))=>some n
 |_=>none
def Zi (st:St) (t:TypeId) (x:AV) (lo hi:Option AV):Option AV:=
 match xN x with
 |none=>none
 |some n=>
  match LC lo 0,LC hi n with
  |some l,some h=>
   if 0<=l/\l<=h/\h<=n then
    match x with
    | .at (.data fr (.slice e) xs)=>if (T.elem t).bind T.ty=some e then some (.at (.data fr (.slice e) ((xs.take h.toNat).drop l.toNat))) else none
    | .at (.own k off _)=>match st.at k with
     |some (.arr _ _ e tid _)=>if T.elem t=some tid/\T.ty tid=some e then some (.at (.own k (off+l.toNat) (h.toNat-l.toNat))) else none
     |_=>none
    | .at (.data _ .str s)=>if T.ty t=some .str then some (.at (.data true .str (s.extract l.toNat h.toNat))) else none
    |_=>none
   else none
  |_,_=>none
def eb (t:TypeId) (x i:AV):Option AV:=
 match x,i with
 | .at (.data _ .str s), .at (.data _ (.int _) n)=>if T.ty t=some .str then (if 0<=n then s[n.toNat]?.map λb=> .at (.data true (.int .u8) b.toNat) else none) else none
 |_,_=>none
def Jm (Γ:Env) (st:St) (f:FuncId) (args:List AV):Option AV:=
 match Γ f with
 |some (.q s)=>
  if s.fresh||s.res.flat||args.all (·.settled) then
   match Bq st s.arg args with
   |none=>none
   |some (_,x)=>(s.fn x).map λy=>if s.Dn then .Vl (s.fresh||s.res.flat) s.res y else .at (.data (s.fresh||s.res.flat) s.res y)
  else none
 |_=>none
def Ty.chain:Ty->Bool
 | .unit=>true
 | .pair a r=>!a.Ab&&r.chain
 |_=>false
def Vr (fr:Bool):(τ:Ty)->τ.den->List AV
 | .pair a r,x=> .at (.data fr a x.1)::Vr fr r x.2
 |_,_=> []
def Qq (Γ:Env) (st:St) (v:AV) (args:List AV):Option AV:=
 match v with
 | .at (.data fr (.clo f τ) x)=>if τ.chain then (if f<1000000000 then Jm Γ st f (args++Vr fr τ x) else Jm Γ st (f-1000000000) (Vr fr τ x++args)) else none
 | .at (.clo f Bv)=>Jm Γ st f (args++Bv.map λp=> .at (.Dv p.1 p.2))
 |_=>none
def gk:List AV->Option (List (Nat×Nat))
 | []=>some []
 | .at (.Dv l i)::r=>(gk r).map λc=>(l,i)::c
 |_=>none
def aH (st:St) (t:TypeId) (m k:AV) (ok:Bool):Option AV:=
 match T.mapOf t,k with
 |some v, .at (.data _ .str s)=>
  match Ct st (.smap v) m with
  |some (_,f)=>some (if ok then .Vl true (.pair v (.pair .bool .unit)) (((f s).getD v.zero),(f s).isSome,()) else .at (.data true v ((f s).getD v.zero)))
  |none=>none
 |_,_=>none
def Zg (x:AV):Option Bool:=
 match x with
 | .at .Hp=>some true
 | .at (.data _ (.oslice _) x)=>some x.isNone
 |_=>none
def Zf (x:AV):Option Bool:=
 match x with
 | .at .Qd=>some true
 | .at (.Dv _ _)=>some false
 | .at (.data _ (.optr _) x)=>some x.isNone
 | .at (.data _ (.ptr _) _)=>some false
 |_=>none
def NO:Option Ty->Bool
 |some (.ptr _)=>true
 |some (.optr _)=>true
 |_=>false
def Yd (fr:Bool):(τ:Ty)->τ.den->Nat->Option AV
 | .pair a _,x,0=>some (.at (.data (fr||a.flat) a x.1))
 | .pair _ r,x,n+1=>Yd fr r x.2 n
 |_,_,_=>none
def Abx:Bool×List AC->Option AV
 |(true,cs)=>some (.agg cs)
 |(false,[a])=>some (.at a)
 |_=>none
def QK (l:List (Bool×List AC)) (i:Nat):Option AV:=(l[i]?).bind Abx
def tW (mx:Bool):List AV->Option AV
 | [.at (.data _ (.int k) a), .at (.data _ (.int k') b)]=>if k=k' then Uf k (if mx then (if b>a then b else a) else (if b<a then b else a)) else none
 |_=>none
def Nj (op:BinOp) (t:TypeId) (x y:AV):Option AV:=
 match op,x,y with
 | .eql,x, .at .Hp=>if (T.elem t).isSome then (Zg x).bind Ju else none
 | .eql,x, .at .Qd=>if NO (T.ty t) then (Zf x).bind Ju else none
 | .neq,x, .at .Hp=>if (T.elem t).isSome then (Zg x).bind λb=>Ju (!b) else none
 | .neq,x, .at .Qd=>if NO (T.ty t) then (Zf x).bind λb=>Ju (!b) else none
 | .eql, .at (.data _ .bool a), .at (.data _ .bool b)=>if T.ty t=some .bool then Ju (a==b) else none
 | .neq, .at (.data _ .bool a), .at (.data _ .bool b)=>if T.ty t=some .bool then Ju (!(a==b)) else none
 |op,x,y=>evalBin op x y
def bytesOf (l:List Int):ByteArray:=⟨(l.map λn=>UInt8.ofNat n.toNat).toArray⟩
def kC:AV->AV
 | .at (.data fr (.oslice e) x)=> .at (.data fr (.slice e) (x.getD []))
 |v=>v
def Ci (Γ:Env) (st:St) (o:Oper):Option AV:=
 match o.op with
 | .move x=>some (st.ev x)
 | .assign x=>some (st.ev x)
 | .pick c a b=>Zh (st.ev c) (st.ev a) (st.ev b)
 | .load t a=>Kp T st t (st.ev a)
 | .nilCheck x=>match st.ev x with
  | .at (.data fr (.ptr τ) x)=>some (.at (.data fr (.ptr τ) x))
  | .at (.data fr (.optr τ) (some x))=>some (.at (.data fr (.ptr τ) x))
  | .at (.Dv l i)=>some (.at (.Dv l i))
  | .at (.Fu l i)=>some (.at (.Fu l i))
  |_=>none
 | .binOp op t x y _=>Nj T op t (st.ev x) (st.ev y)
 | .unOp op _ x=>tY op (st.ev x)
 | .convert s t x=>match T.ty s,T.ty t,st.ev x with
  |some _,some (.int k), .at (.data _ (.int _) n)=>Uf k (k.wrap n)
  |some (.slice (.int .u8)),some .str,_=>(Ct st (.slice (.int .u8)) (st.ev x)).map λp=> .at (.data true .str (bytesOf p.2))
  |_,_,_=>none
 | .slice t x lo hi mx=>if mx.isSome then none else Zi T st t (st.ev x) (lo.map st.ev) (hi.map st.ev)
 | .fieldAddr s x f=>Iw T s (st.ev x) f
 | .field s x f=>jV T s (st.ev x) f
 | .indexAddr t x i=>Gc T st t (kC (st.ev x)) (st.ev i)
 | .index t x i=>eb T t (st.ev x) (st.ev i)
 | .extract x i=>match st.ev x with
  | .Vl fr τ y=>Yd fr τ y i
  | .Ib l=>QK l i
  |_=>none
 | .call {callee:= .value (.func f),args, .. } =>Jm Γ st f (args.toList.map st.ev)
 | .call {callee:= .value (.tmp t),args, .. } =>Qq Γ st (st.get t) (args.toList.map st.ev)
 | .makeFunc (.func f) first Bv=>match first.toList.map st.ev with
  | []=>(gk (Bv.toList.map st.ev)).map λc=> .at (.clo f c)
  | [.at (.data fr τ x)]=>if Bv.isEmpty&&!τ.Ab then some (.at (.data fr (.clo (f+1000000000) (.pair τ .unit)) (x,()))) else none
  |_=>none
 | .lookup t m k ok=>aH T st t (st.ev m) (st.ev k) ok
 | .call {callee:= .builtin .len,args,argTypes} =>match args.toList,argTypes.toList with
  | [x],[t]=>match T.ty t with
   |some (.slice _)=>(xP st (st.ev x)).bind (Uf .i64)
   |some (.oslice _)=>(xP st (kC (st.ev x))).bind (Uf .i64)
   |some .str=>(FY (st.ev x)).bind (Uf .i64)
   |_=>none
  |_,_=>none
 | .call {callee:= .builtin .min,args, .. } =>tW false (args.toList.map st.ev)
 | .call {callee:= .builtin .max,args, .. } =>tW true (args.toList.map st.ev)
 |_=>none
def Qj (st:St) (t:Option Tmp):Option (Option Bool):=
 match t with
 |some t=>match st.get t with
  | .at (.data _ .bool b)=>some (some b)
  | .at .skip=>some none
  |_=>none
 |none=>none
end Go.Proofs.YtfolipnappekaaaGreat
