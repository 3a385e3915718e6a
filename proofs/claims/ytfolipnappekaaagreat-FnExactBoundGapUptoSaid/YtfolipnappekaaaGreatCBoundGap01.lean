/-
  Part 2 of the proof that the statement FnExactBoundGap holds.
-/
import Derived.Test.YtfolipnappekaaaGreatCBoundGap00
namespace Go.Proofs.YtfolipnappekaaaGreat
open Go.RowKit
inductive AC where
 |undef
 |skip
 |Hx
 |Rg
 |data (fr:Bool) (τ:Ty) (x:τ.den)
 |own (l off len:Nat)
 |Ea (l i:Nat)
 |Gi (l i:Nat)
 |clo (f:Nat) (Bz:List (Nat×Nat))
 |Gm (l:Nat)
 |sub (l i c:Nat)
 |Gf (l i j:Nat)
inductive AV where
 |at (a:AC)
 |agg (cs:List AC)
 |Vu (fr:Bool) (τ:Ty) (x:τ.den)
 |Il (l:List (Bool×List AC))
@[reducible] def AV.undef:AV:= .at .undef
inductive OB where
 |arr (fr tr:Bool) (e:Ty) (tid:TypeId) (xs:List e.den)
 |Dn (e:Ty) (tid:TypeId) (xs:List e.den)
 |var (tid:TypeId) (vs:List AC)
 |Ak (e:Ty) (te:TypeId) (rows:List (List e.den)) (out:Option Nat) (kp:Option (Nat×Nat))
 |Qc (v:Ty) (m:ByteArray->Option v.den)
structure St where
 tmps:List AV
 heap:List (Nat×OB)
def Ad:List (Nat×OB)->Nat->Option OB
 | [],_=>none
 |(k,b)::r,l=>if k=l then some b else Ad r l
def St.get (st:St) (t:Nat):AV:=st.tmps.getD t .undef
def St.at (st:St) (l:Nat):Option OB:=Ad st.heap l
def Pd {α:Type} :List α->Nat->α->List α
 | [],_,_=> []
 |_::r,0,y=>y::r
 |x::r,n+1,y=>x::Pd r n y
def St.put (st:St) (dst:Option Tmp) (v:AV):St:=
 match dst with
 |some d=> {st with tmps:=Pd st.tmps d v}
 |none=>st
def AV.map (f:AC->AC):AV->AV
 | .at a=> .at (f a)
 | .agg cs=> .agg (cs.map f)
 | .Vu fr τ x=> .Vu fr τ x
 | .Il l=> .Il (l.map λp=>(p.1,p.2.map f))
def OB.map (f:AC->AC):OB->OB
 | .arr fr tr e t xs=> .arr fr tr e t xs
 | .Dn e t xs=> .Dn e t xs
 | .var t vs=> .var t (vs.map f)
 | .Ak e te rows out kp=> .Ak e te rows out kp
 | .Qc v m=> .Qc v m
def Uk:List (Nat×OB)->Nat->List (Nat×OB)
 | [],_=> []
 |(k,b)::r,l=>if k=l then Uk r l else (k,b)::Uk r l
def St.Gv (st:St) (f:AC->AC):St:= {tmps:=st.tmps.map (·.map f),heap:=st.heap.map λp=>(p.1,p.2.map f)}
def Ba (l:Nat):AC->AC
 | .own k off len=>if k=l then .undef else .own k off len
 | .Ea k i=>if k=l then .undef else .Ea k i
 | .Gi k i=>if k=l then .undef else .Gi k i
 | .clo f Bz=>if (Bz.map (·.1)).contains l then .undef else .clo f Bz
 | .Gm k=>if k=l then .undef else .Gm k
 | .sub k i c=>if k=l then .undef else .sub k i c
 | .Gf k i c=>if k=l then .undef else .Gf k i c
 |a=>a
def St.forget (st:St) (l:Nat):St:=let s:=st.Gv (Ba l); {s with heap:=Uk s.heap l}
def Be (l:Nat) (fr:Bool) (e:Ty) (xs:List e.den):AC->AC
 | .own k off len=>if k=l then .data fr (.slice e) ((xs.drop off).take len) else .own k off len
 | .Gi k i=>if k=l then .undef else .Gi k i
 | .Ea k i=>if k=l then .undef else .Ea k i
 | .clo f Bz=>if (Bz.map (·.1)).contains l then .undef else .clo f Bz
 | .Gm k=>if k=l then .undef else .Gm k
 | .sub k i c=>if k=l then .undef else .sub k i c
 | .Gf k i c=>if k=l then .undef else .Gf k i c
 |a=>a
def St.freeze (st:St) (l:Nat) (fr:Bool) (e:Ty) (xs:List e.den):St:=let s:=st.Gv (Be l fr e xs); {s with heap:=Uk s.heap l}
def Ds (l:Nat) (v:Ty) (m:ByteArray->Option v.den):AC->AC
 | .Gm k=>if k=l then .data false (.smap v) m else .Gm k
 | .own k off len=>if k=l then .undef else .own k off len
 | .Gi k i=>if k=l then .undef else .Gi k i
 | .Ea k i=>if k=l then .undef else .Ea k i
 | .clo f Bz=>if (Bz.map (·.1)).contains l then .undef else .clo f Bz
 | .sub k i c=>if k=l then .undef else .sub k i c
 | .Gf k i c=>if k=l then .undef else .Gf k i c
 |a=>a
def St.Eu (st:St) (l:Nat) (v:Ty) (m:ByteArray->Option v.den):St:=let s:=st.Gv (Ds l v m); {s with heap:=Uk s.heap l}
def Jl:List (Nat×OB)->Nat->OB->List (Nat×OB)
 | [],l,b=> [(l,b)]
 |(k,c)::r,l,b=>if l<k then (l,b)::(k,c)::r else (k,c)::Jl r l b
def St.new (st:St) (l:Nat) (b:OB):St:=let s:=st.forget l; {s with heap:=Jl s.heap l b}
def Ug:List (Nat×OB)->Nat->OB->List (Nat×OB)
 | [],_,_=> []
 |(k,b)::r,l,b'=>if k=l then (k,b')::r else (k,b)::Ug r l b'
def St.Ge (st:St) (l:Nat) (b:OB):St:= {st with heap:=Ug st.heap l b}
structure Tab where
 ty:TypeId->Option Ty
 elem:TypeId->Option TypeId
 mapOf:TypeId->Option Ty
 off:TypeId->Nat->Option (Nat×TypeId)
 ou:Bool:=true
 wI:Bool:=false
 marks:List Nat:= []
 parts:List Nat:= []
 OC:List TypeId:= []
def Ty.zero:(τ:Ty)->τ.den
 | .int _=>(0:Int)
 | .bool=>false
 | .str=>(ByteArray.empty)
 | .slice _=> []
 | .oslice _=>none
 | .ptr a=>a.zero
 | .optr _=>none
 | .smap _=> λ_=>none
 | .clo _ c=>c.zero
 | .unit=>()
 | .pair a r=>(a.zero,r.zero)
def Ms (fr:Bool):(τ:Ty)->τ.den->List AC
 | .unit,_=> []
 | .pair a r,x=>Ms fr a x.1++Ms fr r x.2
 |τ,x=> [.data fr τ x]
def cY (fr:Bool):(τ Jj:Ty)->Jj.den->Option (Bool×τ.den)
 | .slice e, .oslice e',x=>if h:e'=e then some (fr,((h▸x:Option (List e.den)).getD [])) else none
 | .optr a, .ptr a',x=>if h:a'=a then some (fr,some (h▸x:a.den)) else none
 |_,_,_=>none
def Bo (st:St):(τ:Ty)->AC->Option (Bool×τ.den)
 |τ, .data fr Jj x=>if h:Jj=τ then some (fr||τ.flat,h▸x) else cY fr τ Jj x
 | .slice _, .Hx=>some (true,[])
 | .oslice _, .Hx=>some (true,none)
 | .optr _, .Rg=>some (true,none)
 | .slice e, .own l off len=>match st.at l with
  |some (.arr fr _ e' _ xs)=>if h:e'=e then some (fr,((h▸xs:List e.den).drop off).take len) else none
  |some (.Dn e' _ xs)=>if h:e'=e then some (true,((h▸xs:List e.den).drop off).take len) else none
  |some (.Ak e' _ rows none _)=>if h: .slice e'=e then some (false,((h▸(rows:List (Ty.slice e').den):List e.den).drop off).take len) else none
  |_=>none
 | .slice e, .sub l i _=>match st.at l with
  |some (.Ak e' _ rows none _)=>if h:e'=e then some (false,(h▸(rows.getD i []:List e'.den):List e.den)) else none
  |_=>none
 | .smap v, .Gm l=>match st.at l with
  |some (.Qc v' m)=>if h:v'=v then some (true,h▸m) else none
  |_=>none
 |_,_=>none
def Cw (st:St):(τ:Ty)->List AC->Option (Bool×τ.den)
 | .unit,[]=>some (true,())
 | .unit,_::_=>none
 | .pair a r,cs=>
  match Cw st a (cs.take a.size),Cw st r (cs.drop a.size) with
  |some (f1,x),some (f2,y)=>some (f1&&f2,(x,y))
  |_,_=>none
 |τ,[c]=>Bo st τ c
 |_,_=>none
def Oo (st:St) (a:Ty) (l i:Nat):Option (Bool×a.den):=
 match st.at l with
 |some (.var _ vs)=>Cw st a ((vs.drop i).take a.size)
 |_=>none
def Gx (st:St):(τ:Ty)->List (Nat×Nat)->Option (Bool×τ.den)
 | .unit,[]=>some (true,())
 | .pair (.ptr a) r,(l,i)::cs=>
  match Oo st a l i,Gx st r cs with
  |some (f1,x),some (f2,y)=>some (f1&&f2,(x,y))
  |_,_=>none
 |_,_=>none
def Ga (st:St):(τ:Ty)->AC->Option (Bool×τ.den)
 | .ptr a, .Ea l i=>Oo st a l i
 | .optr a, .Ea l i=>(Oo st a l i).map λp=>(p.1,some p.2)
 | .clo f τ, .clo g Bz=>if g=f/\f<1000000000 then Gx st τ Bz else none
 |τ,c=>Bo st τ c
def Cx (st:St) (τ:Ty):AV->Option (Bool×τ.den)
 | .at (.data fr Jj x)=>if h:Jj=τ then some (fr||τ.flat,h▸x) else if τ.Ab then none else Ga st τ (.data fr Jj x)
 | .at a=>if τ.Ab then none else Ga st τ a
 | .agg cs=>if τ.Ab then Cw st τ cs else none
 |_=>none
def Bu (st:St):(τ:Ty)->List AV->Option (Bool×τ.den)
 | .unit,[]=>some (true,())
 | .pair a r,v::vs=>
  match Cx st a v,Bu st r vs with
  |some (f1,x),some (f2,y)=>some (f1&&f2,(x,y))
  |_,_=>none
 |_,_=>none
def AC.settled:AC->Bool
 | .data _ _ _| .Hx| .Rg=>true
 |_=>false
def AV.settled:AV->Bool
 | .at a=>a.settled
 | .agg cs=>cs.all (·.settled)
 | .Vu _ _ _=>true
 | .Il _=>false
inductive CK where
 |Er (τ:Ty)
 |row (e:Ty) (te:TypeId)
 |Eb (e:Ty) (te:TypeId)
 |part (e:Ty) (te:TypeId)
 |Ak (e:Ty) (te:TypeId) (kp:Bool)
@[reducible] def CK.den:CK->Type
 | .Er τ=>τ.den
 | .row e _=>List e.den
 | .Eb e _=>List e.den
 | .part e _=>List e.den×Nat×Nat
 | .Ak e _ _=>List (List e.den)
def CK.flat:CK->Bool
 | .Er τ=>τ.flat
 | .row e _=>e.flat
 | .Eb _ _=>true
 | .part e _=>e.flat
 | .Ak _ _ _=>false
def CK.YO:CK->Bool
 | .Eb _ _=>true
 |_=>false
@[reducible] def CKs.den:List CK->Type
 | []=>Unit
 |c::r=>c.den×CKs.den r
@[reducible] def IOs.den:List (Bool×CK)->Type
 | []=>Unit
 |(true, .Er _)::r=>IOs.den r
 |(true, .row e _)::r=>List e.den×IOs.den r
 |(true, .Eb e _)::r=>List e.den×IOs.den r
 |(true, .part e _)::r=>List e.den×IOs.den r
 |(true, .Ak _ _ _)::r=>IOs.den r
 |(false,_)::r=>IOs.den r
@[reducible] def Ins.den:List (Bool×CK)->Type
 | []=>Unit
 |p::r=>p.2.den×Ins.den r
structure MSpec where
 ptr:Option (TypeId×Nat):=none
 Fz:List (Option Nat)
 ins:List (Bool×CK)
 Dv:Bool
 Es:List (Option Nat)
 outs:List CK
 fn:Ins.den ins->Option (CKs.den outs×IOs.den ins)
 keeps:List (Nat×Nat):= []
 Cs:Ins.den ins->Nat:= λ_=>0
 rp:Option TypeId:=none
structure Spec where
 arg:Ty
 res:Ty
 Dv:Bool
 fresh:Bool
 fn:arg.den->Option res.den
inductive Vv where
 |q (s:Spec)
 |m (s:MSpec)
 |b (s:Spec) (m:MSpec)
def MSpec.flat (s:MSpec):Bool:=s.outs.all (·.flat)&&s.ins.all λp=>!p.1||p.2.flat
def MSpec.QK (s:MSpec):Bool:=s.flat||s.outs.all λc=>!c.YO
abbrev Env:=FuncId->Option Vv
def iI:Value->AV
 | .int k n=> .at (.data true (.int k) n)
 | .bool b=> .at (.data true .bool b)
 | .string s=> .at (.data true .str s)
 | .slice none 0 0=> .at .Hx
 | .pointer none=> .at .Rg
 |_=> .undef
def St.ev (st:St):Operand->AV
 | .tmp t=>st.get t
 | .const v=>iI v
 | .func f=> .at (.clo f [])
 |_=> .undef
def idx {α:Type} (xs:List α) (i:Int):Option α:=if 0<=i then xs[i.toNat]? else none
def YN (n:Int) (len:Nat):Bool:=decide (0<=n)&&decide (n<len)
theorem Oi {n:Int} {len:Nat} :YN n len=true↔0<=n/\n<len:=by simp [YN]
def Us (k:IntKind) (n:Int):Option AV:=some (.at (.data true (.int k) n))
def Kd (b:Bool):Option AV:=some (.at (.data true .bool b))
def oR (op:BinOp) (k:IntKind) (a b:Int):Option AV:=
 match op with
 | .add=>Us k (k.wrap (a+b))
 | .sub=>Us k (k.wrap (a-b))
 | .mul=>Us k (k.wrap (a*b))
 | .quo=>if b=0 then none else Us k (k.wrap (a.tdiv b))
 | .rem=>if b=0 then none else Us k (a.tmod b)
 | .and=>Us k (k.wrap (BitVec.ofInt k.bits a&&&BitVec.ofInt k.bits b).toNat)
 | .or=>Us k (k.wrap (BitVec.ofInt k.bits a|||BitVec.ofInt k.bits b).toNat)
 | .eql=>Kd (a==b)
 | .neq=>Kd (a !=b)
 | .lss=>Kd (decide (a<b))
 | .leq=>Kd (decide (a<=b))
 | .gtr=>Kd (decide (a>b))
 | .geq=>Kd (decide (a>=b))
 |_=>none
def evalBin (op:BinOp) (x y:AV):Option AV:=
 match x,y with
 | .at (.data _ (.int k) a), .at (.data _ (.int k') b)=>
  match op with
  | .shl=>if b<0 then none else Us k (k.wrap (a*2^(min b.toNat k.bits)))
  | .shr=>if b<0 then none else Us k (a.fdiv (2^(min b.toNat k.bits)))
  |_=>if k=k' then oR op k a b else none
 | .at (.data _ .str a), .at (.data _ .str b)=>
  match op with
  | .eql=>Kd (a.toList==b.toList)
  | .neq=>Kd (!(a.toList==b.toList))
  | .add=>if a.size+b.size<=4294967296 then some (.at (.data true .str (a++b))) else none
  |_=>none
 |_,_=>none
def uJ (op:UnOp) (x:AV):Option AV:=
 match op,x with
 | .not, .at (.data _ .bool b)=>Kd (!b)
 | .neg, .at (.data _ (.int k) n)=>Us k (k.wrap (0-n))
 |_,_=>none
def Zv (c x y:AV):Option AV:=
 match c with
 | .at (.data _ .bool b)=>some (if b then x else y)
 |_=>none
def yy:AV->Option Int
 | .at .Hx=>some 0
 | .at (.data _ (.slice _) xs)=>some xs.length
 | .at (.data _ .str s)=>some s.size
 | .at (.own _ _ len)=>some (len:Int)
 |_=>none
def QB:AV->Option Int
 | .at .Hx=>some 0
 | .at (.data _ (.slice _) xs)=>some xs.length
 | .at (.own _ _ len)=>some (len:Int)
 |_=>none
def yA (st:St):AV->Option Int
 | .at (.sub l i _)=>match st.at l with
  |some (.Ak _ _ rows none _)=>some (rows.getD i []).length
  |_=>none
 |v=>QB v
def HI:AV->Option Int
 | .at (.data _ .str s)=>some s.size
 |_=>none
def Gy:(τ:Ty)->τ.den->Nat->(ρ:Ty)->Option ρ.den
 | .pair a r,x,o,ρ=>if o=0 then (if h:a=ρ then some (h▸x.1) else none) else if o<a.size then none else Gy r x.2 (o-a.size) ρ
 |_,_,_,_=>none
def bH (l i:Nat):(c:Nat)->(τ:Ty)->τ.den->List AC
 |_, .unit,_=> []
 |c, .pair a r,x=>bH l i c a x.1++bH l i (c+a.size) r x.2
 |c,τ,x=> [if τ.flat then .data true τ x else .sub l i c]
variable (T:Tab)
def Kz (st:St) (t:TypeId) (p:AV):Option AV:=
 match T.ty t,p with
 |some τ, .at (.data fr (.ptr Jj) x)=>if Jj=τ then some (.at (.data (fr||Jj.flat) Jj x)) else none
 |some τ, .at (.data fr (.optr Jj) (some x))=>if Jj=τ then some (.at (.data (fr||Jj.flat) Jj x)) else none
 |some τ, .at (.Ea l i)=>match st.at l with
  |some (.var _ vs)=>if τ.Ab then (if i+τ.size<=vs.length then some (.agg ((vs.drop i).take τ.size)) else none) else vs[i]?.map .at
  |_=>none
 |some τ, .at (.Gi l i)=>match st.at l with
  |some (.arr fr _ e _ xs)=>if e=τ then xs[i]?.map λx=> .at (.data (fr||e.flat) e x) else none
  |some (.Dn e _ xs)=>if e=τ then xs[i]?.map λx=>if e.Ab then .agg (bH l i 0 e x) else .at ((bH l i 0 e x).headD .undef) else none
  |some (.Ak _ _ _ none _)=>if τ.Ab then none else some (.at (.sub l i 0))
  |_=>none
 |some τ, .at (.Gf l i j)=>match st.at l with
  |some (.Ak e _ rows none _)=>if e=τ then some (.at (.data e.flat e ((rows.getD i []).getD j e.zero))) else none
  |_=>none
 |_,_=>none
def Gp (st:St) (t:TypeId) (x i:AV):Option AV:=
 match x,i with
 | .at (.data fr (.slice e) xs), .at (.data _ (.int _) n)=>if (T.elem t).bind T.ty=some e then (idx xs n).map λx=> .at (.data fr (.ptr e) x) else none
 | .at (.own l off len), .at (.data _ (.int _) n)=>match st.at l with
  |some (.arr _ _ e tid _)=>if T.elem t=some tid/\T.ty tid=some e/\YN n len=true then some (.at (.Gi l (off+n.toNat))) else none
  |some (.Dn e tid _)=>if T.elem t=some tid/\T.ty tid=some e/\YN n len=true then some (.at (.Gi l (off+n.toNat))) else none
  |some (.Ak _ te _ _ _)=>if T.elem t=some te/\(T.ty te).map Ty.size=some 1/\YN n len=true then some (.at (.Gi l (off+n.toNat))) else none
  |_=>none
 | .at (.sub l i _), .at (.data _ (.int _) n)=>match st.at l with
  |some (.Ak e _ rows none _)=>if ((T.elem t).bind T.ty).map Ty.size=some e.size/\YN n (rows.getD i []).length=true then some (.at (.Gf l i n.toNat)) else none
  |_=>none
 |_,_=>none
def Je (s:TypeId) (x:AV) (f:Nat):Option AV:=
 match T.off s f,x with
 |some (o,_), .at (.Ea l i)=>some (.at (.Ea l (i+o)))
 |some (o,t), .at (.data fr (.ptr τ) x)=>if T.ty s=some τ then (T.ty t).bind λρ=>(Gy τ x o ρ).map λy=> .at (.data fr (.ptr ρ) y) else none
 |some (o,t), .at (.data fr (.optr τ) (some x))=>if T.ty s=some τ then (T.ty t).bind λρ=>(Gy τ x o ρ).map λy=> .at (.data fr (.ptr ρ) y) else none
 |_,_=>none
def kl (s:TypeId) (x:AV) (f:Nat):Option AV:=
 match T.off s f,x with
 |some (o,t), .agg cs=>(T.ty t).bind λρ=>if ρ.Ab then none else cs[o]?.map .at
 |some (o,t), .at (.data fr τ x)=>if T.ty s=some τ then (T.ty t).bind λρ=>(Gy τ x o ρ).map λy=> .at (.data fr ρ y) else none
 |_,_=>none
def MW (v:Option AV) (d:Int):Option Int:=
 match v with
 |none=>some d
 |some (.at (.data _ (.int _) n))=>some n
 |_=>none
def Zw (st:St) (t:TypeId) (x:AV) (lo hi:Option AV):Option AV:=
 match yy x with
 |none=>none
 |some n=>
  match MW lo 0,MW hi n with
  |some l,some h=>
   if 0<=l/\l<=h/\h<=n then
    match x with
    | .at (.data fr (.slice e) xs)=>if (T.elem t).bind T.ty=some e then some (.at (.data fr (.slice e) ((xs.take h.toNat).drop l.toNat))) else none
    | .at (.own k off _)=>match st.at k with
     |some (.arr _ _ e tid _)=>if T.elem t=some tid/\T.ty tid=some e then some (.at (.own k (off+l.toNat) (h.toNat-l.toNat))) else none
     |_=>none
    | .at (.data _ .str s)=>if T.ty t=some .str then some (.at (.data true .str (s.extract l.toNat h.toNat))) else none
    |_=>none
   else none
  |_,_=>none
def ez (t:TypeId) (x i:AV):Option AV:=
 match x,i with
 | .at (.data _ .str s), .at (.data _ (.int _) n)=>if T.ty t=some .str then (if 0<=n then s[n.toNat]?.map λb=> .at (.data true (.int .u8) b.toNat) else none) else none
 |_,_=>none
def Ju (Γ:Env) (st:St) (f:FuncId) (args:List AV):Option AV:=
 match Γ f with
 |some (.q s)=>
  if s.fresh||s.res.flat||args.all (·.settled) then
   match Bu st s.arg args with
   |none=>none
   |some (_,x)=>(s.fn x).map λy=>if s.Dv then .Vu (s.fresh||s.res.flat) s.res y else .at (.data (s.fresh||s.res.flat) s.res y)
  else none
 |_=>none
def Ty.chain:Ty->Bool
 | .unit=>true
 | .pair a r=>!a.Ab&&r.chain
 |_=>false
def Wd (fr:Bool):(τ:Ty)->τ.den->List AV
 | .pair a r,x=> .at (.data fr a x.1)::Wd fr r x.2
 |_,_=> []
def Rv (Γ:Env) (st:St) (v:AV) (args:List AV):Option AV:=
 match v with
 | .at (.data fr (.clo f τ) x)=>if τ.chain then (if f<1000000000 then Ju Γ st f (args++Wd fr τ x) else Ju Γ st (f-1000000000) (Wd fr τ x++args)) else none
 | .at (.clo f Bz)=>Ju Γ st f (args++Bz.map λp=> .at (.Ea p.1 p.2))
 |_=>none
def gI:List AV->Option (List (Nat×Nat))
 | []=>some []
 | .at (.Ea l i)::r=>(gI r).map λc=>(l,i)::c
 |_=>none
def aT (st:St) (t:TypeId) (m k:AV) (ok:Bool):Option AV:=
 match T.mapOf t,k with
 |some v, .at (.data _ .str s)=>
  match Cx st (.smap v) m with
  |some (_,f)=>some (if ok then .Vu true (.pair v (.pair .bool .unit)) (((f s).getD v.zero),(f s).isSome,()) else .at (.data true v ((f s).getD v.zero)))
  |none=>none
 |_,_=>none
def Zu (x:AV):Option Bool:=
 match x with
 | .at .Hx=>some true
 | .at (.data _ (.oslice _) x)=>some x.isNone
 |_=>none
def Zt (x:AV):Option Bool:=
 match x with
 | .at .Rg=>some true
 | .at (.Ea _ _)=>some false
 | .at (.data _ (.optr _) x)=>some x.isNone
 | .at (.data _ (.ptr _) _)=>some false
 |_=>none
def PW:Option Ty->Bool
 |some (.ptr _)=>true
 |some (.optr _)=>true
 |_=>false
def Yp (fr:Bool):(τ:Ty)->τ.den->Nat->Option AV
 | .pair a _,x,0=>some (.at (.data (fr||a.flat) a x.1))
 | .pair _ r,x,n+1=>Yp fr r x.2 n
 |_,_,_=>none
def Ade:Bool×List AC->Option AV
 |(true,cs)=>some (.agg cs)
 |(false,[a])=>some (.at a)
 |_=>none
def SY (l:List (Bool×List AC)) (i:Nat):Option AV:=(l[i]?).bind Ade
def uH (mx:Bool):List AV->Option AV
 | [.at (.data _ (.int k) a), .at (.data _ (.int k') b)]=>if k=k' then Us k (if mx then (if b>a then b else a) else (if b<a then b else a)) else none
 |_=>none
def Ob (op:BinOp) (t:TypeId) (x y:AV):Option AV:=
 match op,x,y with
 | .eql,x, .at .Hx=>if (T.elem t).isSome then (Zu x).bind Kd else none
 | .eql,x, .at .Rg=>if PW (T.ty t) then (Zt x).bind Kd else none
 | .neq,x, .at .Hx=>if (T.elem t).isSome then (Zu x).bind λb=>Kd (!b) else none
 | .neq,x, .at .Rg=>if PW (T.ty t) then (Zt x).bind λb=>Kd (!b) else none
 | .eql, .at (.data _ .bool a), .at (.data _ .bool b)=>if T.ty t=some .bool then Kd (a==b) else none
 | .neq, .at (.data _ .bool a), .at (.data _ .bool b)=>if T.ty t=some .bool then Kd (!(a==b)) else none
 |op,x,y=>evalBin op x y
def bytesOf (l:List Int):ByteArray:=⟨(l.map λn=>UInt8.ofNat n.toNat).toArray⟩
def kV:AV->AV
 | .at (.data fr (.oslice e) x)=> .at (.data fr (.slice e) (x.getD []))
 |v=>v
def Cq (Γ:Env) (st:St) (o:Oper):Option AV:=
 match o.op with
 | .move x=>some (st.ev x)
 | .assign x=>some (st.ev x)
 | .pick c a b=>Zv (st.ev c) (st.ev a) (st.ev b)
 | .load t a=>Kz T st t (st.ev a)
 | .nilCheck x=>match st.ev x with
  | .at (.data fr (.ptr τ) x)=>some (.at (.data fr (.ptr τ) x))
  | .at (.data fr (.optr τ) (some x))=>some (.at (.data fr (.ptr τ) x))
  | .at (.Ea l i)=>some (.at (.Ea l i))
  | .at (.Gi l i)=>some (.at (.Gi l i))
  |_=>none
 | .binOp op t x y _=>Ob T op t (st.ev x) (st.ev y)
 | .unOp op _ x=>uJ op (st.ev x)
 | .convert s t x=>match T.ty s,T.ty t,st.ev x with
  |some _,some (.int k), .at (.data _ (.int _) n)=>Us k (k.wrap n)
  |some (.slice (.int .u8)),some .str,_=>(Cx st (.slice (.int .u8)) (st.ev x)).map λp=> .at (.data true .str (bytesOf p.2))
  |_,_,_=>none
 | .slice t x lo hi mx=>if mx.isSome then none else Zw T st t (st.ev x) (lo.map st.ev) (hi.map st.ev)
 | .fieldAddr s x f=>Je T s (st.ev x) f
 | .field s x f=>kl T s (st.ev x) f
 | .indexAddr t x i=>Gp T st t (kV (st.ev x)) (st.ev i)
 | .index t x i=>ez T t (st.ev x) (st.ev i)
 | .extract x i=>match st.ev x with
  | .Vu fr τ y=>Yp fr τ y i
  | .Il l=>SY l i
  |_=>none
 | .call {callee:= .value (.func f),args, .. } =>Ju Γ st f (args.toList.map st.ev)
 | .call {callee:= .value (.tmp t),args, .. } =>Rv Γ st (st.get t) (args.toList.map st.ev)
 | .makeFunc (.func f) first Bz=>match first.toList.map st.ev with
  | []=>(gI (Bz.toList.map st.ev)).map λc=> .at (.clo f c)
  | [.at (.data fr τ x)]=>if Bz.isEmpty&&!τ.Ab then some (.at (.data fr (.clo (f+1000000000) (.pair τ .unit)) (x,()))) else none
  |_=>none
 | .lookup t m k ok=>aT T st t (st.ev m) (st.ev k) ok
 | .call {callee:= .builtin .len,args,argTypes} =>match args.toList,argTypes.toList with
  | [x],[t]=>match T.ty t with
   |some (.slice _)=>(yA st (st.ev x)).bind (Us .i64)
   |some (.oslice _)=>(yA st (kV (st.ev x))).bind (Us .i64)
   |some .str=>(HI (st.ev x)).bind (Us .i64)
   |_=>none
  |_,_=>none
 | .call {callee:= .builtin .min,args, .. } =>uH false (args.toList.map st.ev)
 | .call {callee:= .builtin .max,args, .. } =>uH true (args.toList.map st.ev)
 |_=>none
def Rn (st:St) (t:Option Tmp):Option (Option Bool):=
 match t with
 |some t=>match st.get t with
  | .at (.data _ .bool b)=>some (some b)
  | .at .skip=>some none
  |_=>none
 |none=>none
end Go.Proofs.YtfolipnappekaaaGreat
