/-
  Part 2 of the proof that the statement FnCommutatorMacros holds.
-/
import Derived.Test.YtfgfigkbgecfnaaCFCommutatorMacros00
namespace Go.Proofs.Ytfgfigkbgecfnaa
open Go.RowKit
inductive AC where
 |undef
 |skip
 |Jf
 |Qx
 |data (fr:Bool) (τ:Ty) (x:τ.den)
 |own (l off len:Nat)
 |Ez (l i:Nat)
 |Hj (l i:Nat)
 |clo (f:Nat) (Cx:List (Nat×Nat))
 |Hv (l:Nat)
 |sub (l i c:Nat)
 |Hf (l i j:Nat)
inductive AV where
 |at (a:AC)
 |agg (cs:List AC)
 |Wh (fr:Bool) (τ:Ty) (x:τ.den)
 |Jy (l:List (Bool×List AC))
@[reducible] def AV.undef:AV:= .at .undef
inductive OB where
 |arr (fr tr:Bool) (e:Ty) (tid:TypeId) (xs:List e.den)
 |Ev (e:Ty) (tid:TypeId) (xs:List e.den)
 |var (tid:TypeId) (vs:List AC)
 |Bc (e:Ty) (te:TypeId) (rows:List (List e.den)) (out:Option Nat) (kp:Option (Nat×Nat))
 |Qy (v:Ty) (m:ByteArray->Option v.den)
structure St where
 tmps:List AV
 heap:List (Nat×OB)
def Ap:List (Nat×OB)->Nat->Option OB
 | [],_=>none
 |(k,b)::r,l=>if k=l then some b else Ap r l
def St.get (st:St) (t:Nat):AV:=st.tmps.getD t .undef
def St.at (st:St) (l:Nat):Option OB:=Ap st.heap l
def Oo {α:Type} :List α->Nat->α->List α
 | [],_,_=> []
 |_::r,0,y=>y::r
 |x::r,n+1,y=>x::Oo r n y
def St.put (st:St) (dst:Option Tmp) (v:AV):St:=
 match dst with
 |some d=> {st with tmps:=Oo st.tmps d v}
 |none=>st
def AV.map (f:AC->AC):AV->AV
 | .at a=> .at (f a)
 | .agg cs=> .agg (cs.map f)
 | .Wh fr τ x=> .Wh fr τ x
 | .Jy l=> .Jy (l.map λp=>(p.1,p.2.map f))
def OB.map (f:AC->AC):OB->OB
 | .arr fr tr e t xs=> .arr fr tr e t xs
 | .Ev e t xs=> .Ev e t xs
 | .var t vs=> .var t (vs.map f)
 | .Bc e te rows out kp=> .Bc e te rows out kp
 | .Qy v m=> .Qy v m
def Vb:List (Nat×OB)->Nat->List (Nat×OB)
 | [],_=> []
 |(k,b)::r,l=>if k=l then Vb r l else (k,b)::Vb r l
def St.Ih (st:St) (f:AC->AC):St:= {tmps:=st.tmps.map (·.map f),heap:=st.heap.map λp=>(p.1,p.2.map f)}
def Bs (l:Nat):AC->AC
 | .own k off len=>if k=l then .undef else .own k off len
 | .Ez k i=>if k=l then .undef else .Ez k i
 | .Hj k i=>if k=l then .undef else .Hj k i
 | .clo f Cx=>if (Cx.map (·.1)).contains l then .undef else .clo f Cx
 | .Hv k=>if k=l then .undef else .Hv k
 | .sub k i c=>if k=l then .undef else .sub k i c
 | .Hf k i c=>if k=l then .undef else .Hf k i c
 |a=>a
def St.forget (st:St) (l:Nat):St:=let s:=st.Ih (Bs l); {s with heap:=Vb s.heap l}
def Ca (l:Nat) (fr:Bool) (e:Ty) (xs:List e.den):AC->AC
 | .own k off len=>if k=l then .data fr (.slice e) ((xs.drop off).take len) else .own k off len
 | .Hj k i=>if k=l then .undef else .Hj k i
 | .Ez k i=>if k=l then .undef else .Ez k i
 | .clo f Cx=>if (Cx.map (·.1)).contains l then .undef else .clo f Cx
 | .Hv k=>if k=l then .undef else .Hv k
 | .sub k i c=>if k=l then .undef else .sub k i c
 | .Hf k i c=>if k=l then .undef else .Hf k i c
 |a=>a
def St.freeze (st:St) (l:Nat) (fr:Bool) (e:Ty) (xs:List e.den):St:=let s:=st.Ih (Ca l fr e xs); {s with heap:=Vb s.heap l}
def Ey (l:Nat) (v:Ty) (m:ByteArray->Option v.den):AC->AC
 | .Hv k=>if k=l then .data false (.smap v) m else .Hv k
 | .own k off len=>if k=l then .undef else .own k off len
 | .Hj k i=>if k=l then .undef else .Hj k i
 | .Ez k i=>if k=l then .undef else .Ez k i
 | .clo f Cx=>if (Cx.map (·.1)).contains l then .undef else .clo f Cx
 | .sub k i c=>if k=l then .undef else .sub k i c
 | .Hf k i c=>if k=l then .undef else .Hf k i c
 |a=>a
def St.Gf (st:St) (l:Nat) (v:Ty) (m:ByteArray->Option v.den):St:=let s:=st.Ih (Ey l v m); {s with heap:=Vb s.heap l}
def Li:List (Nat×OB)->Nat->OB->List (Nat×OB)
 | [],l,b=> [(l,b)]
 |(k,c)::r,l,b=>if l<k then (l,b)::(k,c)::r else (k,c)::Li r l b
def St.new (st:St) (l:Nat) (b:OB):St:=let s:=st.forget l; {s with heap:=Li s.heap l b}
def Ux:List (Nat×OB)->Nat->OB->List (Nat×OB)
 | [],_,_=> []
 |(k,b)::r,l,b'=>if k=l then (k,b')::r else (k,b)::Ux r l b'
def St.He (st:St) (l:Nat) (b:OB):St:= {st with heap:=Ux st.heap l b}
structure Tab where
 ty:TypeId->Option Ty
 elem:TypeId->Option TypeId
 mapOf:TypeId->Option Ty
 off:TypeId->Nat->Option (Nat×TypeId)
 nO:Bool:=true
 uF:Bool:=false
 marks:List Nat:= []
 parts:List Nat:= []
 OJ:List TypeId:= []
def Ty.zero:(τ:Ty)->τ.den
 | .int _=>(0:Int)
 | .bool=>false
 | .str=>(ByteArray.empty)
 | .slice _=> []
 | .oslice _=>none
 | .ptr a=>a.zero
 | .optr _=>none
 | .smap _=> λ_=>none
 | .clo _ c=>c.zero
 | .unit=>()
 | .pair a r=>(a.zero,r.zero)
def Oi (fr:Bool):(τ:Ty)->τ.den->List AC
 | .unit,_=> []
 | .pair a r,x=>Oi fr a x.1++Oi fr r x.2
 |τ,x=> [.data fr τ x]
def cW (fr:Bool):(τ Lg:Ty)->Lg.den->Option (Bool×τ.den)
 | .slice e, .oslice e',x=>if h:e'=e then some (fr,((h▸x:Option (List e.den)).getD [])) else none
 | .optr a, .ptr a',x=>if h:a'=a then some (fr,some (h▸x:a.den)) else none
 |_,_,_=>none
def Cn (st:St):(τ:Ty)->AC->Option (Bool×τ.den)
 |τ, .data fr Lg x=>if h:Lg=τ then some (fr||τ.flat,h▸x) else cW fr τ Lg x
 | .slice _, .Jf=>some (true,[])
 | .oslice _, .Jf=>some (true,none)
 | .optr _, .Qx=>some (true,none)
 | .slice e, .own l off len=>match st.at l with
  |some (.arr fr _ e' _ xs)=>if h:e'=e then some (fr,((h▸xs:List e.den).drop off).take len) else none
  |some (.Ev e' _ xs)=>if h:e'=e then some (true,((h▸xs:List e.den).drop off).take len) else none
  |some (.Bc e' _ rows none _)=>if h: .slice e'=e then some (false,((h▸(rows:List (Ty.slice e').den):List e.den).drop off).take len) else none
  |_=>none
 | .slice e, .sub l i _=>match st.at l with
  |some (.Bc e' _ rows none _)=>if h:e'=e then some (false,(h▸(rows.getD i []:List e'.den):List e.den)) else none
  |_=>none
 | .smap v, .Hv l=>match st.at l with
  |some (.Qy v' m)=>if h:v'=v then some (true,h▸m) else none
  |_=>none
 |_,_=>none
def Dn (st:St):(τ:Ty)->List AC->Option (Bool×τ.den)
 | .unit,[]=>some (true,())
 | .unit,_::_=>none
 | .pair a r,cs=>
  match Dn st a (cs.take a.size),Dn st r (cs.drop a.size) with
  |some (f1,x),some (f2,y)=>some (f1&&f2,(x,y))
  |_,_=>none
 |τ,[c]=>Cn st τ c
 |_,_=>none
def Qc (st:St) (a:Ty) (l i:Nat):Option (Bool×a.den):=
 match st.at l with
 |some (.var _ vs)=>Dn st a ((vs.drop i).take a.size)
 |_=>none
def Ij (st:St):(τ:Ty)->List (Nat×Nat)->Option (Bool×τ.den)
 | .unit,[]=>some (true,())
 | .pair (.ptr a) r,(l,i)::cs=>
  match Qc st a l i,Ij st r cs with
  |some (f1,x),some (f2,y)=>some (f1&&f2,(x,y))
  |_,_=>none
 |_,_=>none
def Hc (st:St):(τ:Ty)->AC->Option (Bool×τ.den)
 | .ptr a, .Ez l i=>Qc st a l i
 | .optr a, .Ez l i=>(Qc st a l i).map λp=>(p.1,some p.2)
 | .clo f τ, .clo g Cx=>if g=f/\f<1000000000 then Ij st τ Cx else none
 |τ,c=>Cn st τ c
def Dz (st:St) (τ:Ty):AV->Option (Bool×τ.den)
 | .at (.data fr Lg x)=>if h:Lg=τ then some (fr||τ.flat,h▸x) else if τ.Ak then none else Hc st τ (.data fr Lg x)
 | .at a=>if τ.Ak then none else Hc st τ a
 | .agg cs=>if τ.Ak then Dn st τ cs else none
 |_=>none
def Cs (st:St):(τ:Ty)->List AV->Option (Bool×τ.den)
 | .unit,[]=>some (true,())
 | .pair a r,v::vs=>
  match Dz st a v,Cs st r vs with
  |some (f1,x),some (f2,y)=>some (f1&&f2,(x,y))
  |_,_=>none
 |_,_=>none
def AC.settled:AC->Bool
 | .data _ _ _| .Jf| .Qx=>true
 |_=>false
def AV.settled:AV->Bool
 | .at a=>a.settled
 | .agg cs=>cs.all (·.settled)
 | .Wh _ _ _=>true
 | .Jy _=>false
inductive CK where
 |Ji (τ:Ty)
 |row (e:Ty) (te:TypeId)
 |Fl (e:Ty) (te:TypeId)
 |part (e:Ty) (te:TypeId)
 |Bc (e:Ty) (te:TypeId) (kp:Bool)
@[reducible] def CK.den:CK->Type
 | .Ji τ=>τ.den
 | .row e _=>List e.den
 | .Fl e _=>List e.den
 | .part e _=>List e.den×Nat×Nat
 | .Bc e _ _=>List (List e.den)
def CK.flat:CK->Bool
 | .Ji τ=>τ.flat
 | .row e _=>e.flat
 | .Fl _ _=>true
 | .part e _=>e.flat
 | .Bc _ _ _=>false
def CK.JK:CK->Bool
 | .Fl _ _=>true
 |_=>false
@[reducible] def CKs.den:List CK->Type
 | []=>Unit
 |c::r=>c.den×CKs.den r
@[reducible] def IOs.den:List (Bool×CK)->Type
 | []=>Unit
 |(true, .Ji _)::r=>IOs.den r
 |(true, .row e _)::r=>List e.den×IOs.den r
 |(true, .Fl e _)::r=>List e.den×IOs.den r
 |(true, .part e _)::r=>List e.den×IOs.den r
 |(true, .Bc _ _ _)::r=>IOs.den r
 |(false,_)::r=>IOs.den r
@[reducible] def Ins.den:List (Bool×CK)->Type
 | []=>Unit
 |p::r=>p.2.den×Ins.den r
structure MSpec where
 ptr:Option (TypeId×Nat):=none
 Jg:List (Option Nat)
 ins:List (Bool×CK)
 Hy:Bool
 Ia:List (Option Nat)
 outs:List CK
 fn:Ins.den ins->Option (CKs.den outs×IOs.den ins)
 keeps:List (Nat×Nat):= []
 Ep:Ins.den ins->Nat:= λ_=>0
 rp:Option TypeId:=none
structure Spec where
 arg:Ty
 res:Ty
 Hy:Bool
 fresh:Bool
 fn:arg.den->Option res.den
inductive lp where
 |q (s:Spec)
 |m (s:MSpec)
 |b (s:Spec) (m:MSpec)
def MSpec.flat (s:MSpec):Bool:=s.outs.all (·.flat)&&s.ins.all λp=>!p.1||p.2.flat
def MSpec.CS (s:MSpec):Bool:=s.flat||s.outs.all λc=>!c.JK
abbrev Env:=FuncId->Option lp
def gJ:Value->AV
 | .int k n=> .at (.data true (.int k) n)
 | .bool b=> .at (.data true .bool b)
 | .string s=> .at (.data true .str s)
 | .slice none 0 0=> .at .Jf
 | .pointer none=> .at .Qx
 |_=> .undef
def St.ev (st:St):Operand->AV
 | .tmp t=>st.get t
 | .const v=>gJ v
 | .func f=> .at (.clo f [])
 |_=> .undef
def idx {α:Type} (xs:List α) (i:Int):Option α:=if 0<=i then xs[i.toNat]? else none
def JJ (n:Int) (len:Nat):Bool:=decide (0<=n)&&decide (n<len)
theorem Pw {n:Int} {len:Nat} :JJ n len=true↔0<=n/\n<len:=by simp [JJ]
def Vi (k:IntKind) (n:Int):Option AV:=some (.at (.data true (.int k) n))
def Mc (b:Bool):Option AV:=some (.at (.data true .bool b))
def mh (op:BinOp) (k:IntKind) (a b:Int):Option AV:=
 match op with
 | .add=>Vi k (k.wrap (a+b))
 | .sub=>Vi k (k.wrap (a-b))
 | .mul=>Vi k (k.wrap (a*b))
 | .quo=>if b=0 then none else Vi k (k.wrap (a.tdiv b))
 | .rem=>if b=0 then none else Vi k (a.tmod b)
 | .and=>Vi k (k.wrap (BitVec.ofInt k.bits a&&&BitVec.ofInt k.bits b).toNat)
 | .or=>Vi k (k.wrap (BitVec.ofInt k.bits a|||BitVec.ofInt k.bits b).toNat)
 | .eql=>Mc (a==b)
 | .neq=>Mc (a !=b)
 | .lss=>Mc (decide (a<b))
 | .leq=>Mc (decide (a<=b))
 | .gtr=>Mc (decide (a>b))
 | .geq=>Mc (decide (a>=b))
 |_=>none
def evalBin (op:BinOp) (x y:AV):Option AV:=
 match x,y with
 | .at (.data _ (.int k) a), .at (.data _ (.int k') b)=>
  match op with
  | .shl=>if b<0 then none else Vi k (k.wrap (a*2^(min b.toNat k.bits)))
  | .shr=>if b<0 then none else Vi k (a.fdiv (2^(min b.toNat k.bits)))
  |_=>if k=k' then mh op k a b else none
 | .at (.data _ .str a), .at (.data _ .str b)=>
  match op with
  | .eql=>Mc (a.toList==b.toList)
  | .neq=>Mc (!(a.toList==b.toList))
  | .add=>if a.size+b.size<=4294967296 then some (.at (.data true .str (a++b))) else none
  |_=>none
 |_,_=>none
def qn (op:UnOp) (x:AV):Option AV:=
 match op,x with
 | .not, .at (.data _ .bool b)=>Mc (!b)
 | .neg, .at (.data _ (.int k) n)=>Vi k (k.wrap (0-n))
 |_,_=>none
def aa (c x y:AV):Option AV:=
 match c with
 | .at (.data _ .bool b)=>some (if b then x else y)
 |_=>none
def tD:AV->Option Int
 | .at .Jf=>some 0
 | .at (.data _ (.slice _) xs)=>some xs.length
 | .at (.data _ .str s)=>some s.size
 | .at (.own _ _ len)=>some (len:Int)
 |_=>none
def CL:AV->Option Int
 | .at .Jf=>some 0
 | .at (.data _ (.slice _) xs)=>some xs.length
 | .at (.own _ _ len)=>some (len:Int)
 |_=>none
def tF (st:St):AV->Option Int
 | .at (.sub l i _)=>match st.at l with
  |some (.Bc _ _ rows none _)=>some (rows.getD i []).length
  |_=>none
 |v=>CL v
def xK:AV->Option Int
 | .at (.data _ .str s)=>some s.size
 |_=>none
def Il:(τ:Ty)->τ.den->Nat->(ρ:Ty)->Option ρ.den
 | .pair a r,x,o,ρ=>if o=0 then (if h:a=ρ then some (h▸x.1) else none) else if o<a.size then none else Il r x.2 (o-a.size) ρ
 |_,_,_,_=>none
def bF (l i:Nat):(c:Nat)->(τ:Ty)->τ.den->List AC
 |_, .unit,_=> []
 |c, .pair a r,x=>bF l i c a x.1++bF l i (c+a.size) r x.2
 |c,τ,x=> [if τ.flat then .data true τ x else .sub l i c]
variable (T:Tab)
def Ms (st:St) (t:TypeId) (p:AV):Option AV:=
 match T.ty t,p with
 |some τ, .at (.data fr (.ptr Lg) x)=>if Lg=τ then some (.at (.data (fr||Lg.flat) Lg x)) else none
 |some τ, .at (.data fr (.optr Lg) (some x))=>if Lg=τ then some (.at (.data (fr||Lg.flat) Lg x)) else none
 |some τ, .at (.Ez l i)=>match st.at l with
  |some (.var _ vs)=>if τ.Ak then (if i+τ.size<=vs.length then some (.agg ((vs.drop i).take τ.size)) else none) else vs[i]?.map .at
  |_=>none
 |some τ, .at (.Hj l i)=>match st.at l with
  |some (.arr fr _ e _ xs)=>if e=τ then xs[i]?.map λx=> .at (.data (fr||e.flat) e x) else none
  |some (.Ev e _ xs)=>if e=τ then xs[i]?.map λx=>if e.Ak then .agg (bF l i 0 e x) else .at ((bF l i 0 e x).headD .undef) else none
  |some (.Bc _ _ _ none _)=>if τ.Ak then none else some (.at (.sub l i 0))
  |_=>none
 |some τ, .at (.Hf l i j)=>match st.at l with
  |some (.Bc e _ rows none _)=>if e=τ then some (.at (.data e.flat e ((rows.getD i []).getD j e.zero))) else none
  |_=>none
 |_,_=>none
def Hz (st:St) (t:TypeId) (x i:AV):Option AV:=
 match x,i with
 | .at (.data fr (.slice e) xs), .at (.data _ (.int _) n)=>if (T.elem t).bind T.ty=some e then (idx xs n).map λx=> .at (.data fr (.ptr e) x) else none
 | .at (.own l off len), .at (.data _ (.int _) n)=>match st.at l with
  |some (.arr _ _ e tid _)=>if T.elem t=some tid/\T.ty tid=some e/\JJ n len=true then some (.at (.Hj l (off+n.toNat))) else none
  |some (.Ev e tid _)=>if T.elem t=some tid/\T.ty tid=some e/\JJ n len=true then some (.at (.Hj l (off+n.toNat))) else none
  |some (.Bc _ te _ _ _)=>if T.elem t=some te/\(T.ty te).map Ty.size=some 1/\JJ n len=true then some (.at (.Hj l (off+n.toNat))) else none
  |_=>none
 | .at (.sub l i _), .at (.data _ (.int _) n)=>match st.at l with
  |some (.Bc e _ rows none _)=>if ((T.elem t).bind T.ty).map Ty.size=some e.size/\JJ n (rows.getD i []).length=true then some (.at (.Hf l i n.toNat)) else none
  |_=>none
 |_,_=>none
def Lc (s:TypeId) (x:AV) (f:Nat):Option AV:=
 match T.off s f,x with
 |some (o,_), .at (.Ez l i)=>some (.at (.Ez l (i+o)))
 |some (o,t), .at (.data fr (.ptr τ) x)=>if T.ty s=some τ then (T.ty t).bind λρ=>(Il τ x o ρ).map λy=> .at (.data fr (.ptr ρ) y) else none
 |some (o,t), .at (.data fr (.optr τ) (some x))=>if T.ty s=some τ then (T.ty t).bind λρ=>(Il τ x o ρ).map λy=> .at (.data fr (.ptr ρ) y) else none
 |_,_=>none
def iZ (s:TypeId) (x:AV) (f:Nat):Option AV:=
 match T.off s f,x with
 |some (o,t), .agg cs=>(T.ty t).bind λρ=>if ρ.Ak then none else cs[o]?.map .at
 |some (o,t), .at (.data fr τ x)=>if T.ty s=some τ then (T.ty t).bind λρ=>(Il τ x o ρ).map λy=> .at (.data fr ρ y) else none
 |_,_=>none
def zU (v:Option AV) (d:Int):Option Int:=
 match v with
 |none=>some d
 |some (.at (.data _ (.int _) n))=>some n
 |_=>none
def ab (st:St) (t:TypeId) (x:AV) (lo hi:Option AV):Option AV:=
 match tD x with
 |none=>none
 |some n=>
  match zU lo 0,zU hi n with
  |some l,some h=>
   if 0<=l/\l<=h/\h<=n then
    match x with
    | .at (.data fr (.slice e) xs)=>if (T.elem t).bind T.ty=some e then some (.at (.data fr (.slice e) ((xs.take h.toNat).drop l.toNat))) else none
    | .at (.own k off _)=>match st.at k with
     |some (.arr _ _ e tid _)=>if T.elem t=some tid/\T.ty tid=some e then some (.at (.own k (off+l.toNat) (h.toNat-l.toNat))) else none
     |_=>none
    | .at (.data _ .str s)=>if T.ty t=some .str then some (.at (.data true .str (s.extract l.toNat h.toNat))) else none
    |_=>none
   else none
  |_,_=>none
def ef (t:TypeId) (x i:AV):Option AV:=
 match x,i with
 | .at (.data _ .str s), .at (.data _ (.int _) n)=>if T.ty t=some .str then (if 0<=n then s[n.toNat]?.map λb=> .at (.data true (.int .u8) b.toNat) else none) else none
 |_,_=>none
def Lq (Γ:Env) (st:St) (f:FuncId) (args:List AV):Option AV:=
 match Γ f with
 |some (.q s)=>
  if s.fresh||s.res.flat||args.all (·.settled) then
   match Cs st s.arg args with
   |none=>none
   |some (_,x)=>(s.fn x).map λy=>if s.Hy then .Wh (s.fresh||s.res.flat) s.res y else .at (.data (s.fresh||s.res.flat) s.res y)
  else none
 |_=>none
def Ty.chain:Ty->Bool
 | .unit=>true
 | .pair a r=>!a.Ak&&r.chain
 |_=>false
def Wq (fr:Bool):(τ:Ty)->τ.den->List AV
 | .pair a r,x=> .at (.data fr a x.1)::Wq fr r x.2
 |_,_=> []
def Sq (Γ:Env) (st:St) (v:AV) (args:List AV):Option AV:=
 match v with
 | .at (.data fr (.clo f τ) x)=>if τ.chain then (if f<1000000000 then Lq Γ st f (args++Wq fr τ x) else Lq Γ st (f-1000000000) (Wq fr τ x++args)) else none
 | .at (.clo f Cx)=>Lq Γ st f (args++Cx.map λp=> .at (.Ez p.1 p.2))
 |_=>none
def fO:List AV->Option (List (Nat×Nat))
 | []=>some []
 | .at (.Ez l i)::r=>(fO r).map λc=>(l,i)::c
 |_=>none
def aV (st:St) (t:TypeId) (m k:AV) (ok:Bool):Option AV:=
 match T.mapOf t,k with
 |some v, .at (.data _ .str s)=>
  match Dz st (.smap v) m with
  |some (_,f)=>some (if ok then .Wh true (.pair v (.pair .bool .unit)) (((f s).getD v.zero),(f s).isSome,()) else .at (.data true v ((f s).getD v.zero)))
  |none=>none
 |_,_=>none
def a8 (x:AV):Option Bool:=
 match x with
 | .at .Jf=>some true
 | .at (.data _ (.oslice _) x)=>some x.isNone
 |_=>none
def a7 (x:AV):Option Bool:=
 match x with
 | .at .Qx=>some true
 | .at (.Ez _ _)=>some false
 | .at (.data _ (.optr _) x)=>some x.isNone
 | .at (.data _ (.ptr _) _)=>some false
 |_=>none
def CG:Option Ty->Bool
 |some (.ptr _)=>true
 |some (.optr _)=>true
 |_=>false
def Yw (fr:Bool):(τ:Ty)->τ.den->Nat->Option AV
 | .pair a _,x,0=>some (.at (.data (fr||a.flat) a x.1))
 | .pair _ r,x,n+1=>Yw fr r x.2 n
 |_,_,_=>none
def OF:Bool×List AC->Option AV
 |(true,cs)=>some (.agg cs)
 |(false,[a])=>some (.at a)
 |_=>none
def EI (l:List (Bool×List AC)) (i:Nat):Option AV:=(l[i]?).bind OF
def qk (mx:Bool):List AV->Option AV
 | [.at (.data _ (.int k) a), .at (.data _ (.int k') b)]=>if k=k' then Vi k (if mx then (if b>a then b else a) else (if b<a then b else a)) else none
 |_=>none
def Po (op:BinOp) (t:TypeId) (x y:AV):Option AV:=
 match op,x,y with
 | .eql,x, .at .Jf=>if (T.elem t).isSome then (a8 x).bind Mc else none
 | .eql,x, .at .Qx=>if CG (T.ty t) then (a7 x).bind Mc else none
 | .neq,x, .at .Jf=>if (T.elem t).isSome then (a8 x).bind λb=>Mc (!b) else none
 | .neq,x, .at .Qx=>if CG (T.ty t) then (a7 x).bind λb=>Mc (!b) else none
 | .eql, .at (.data _ .bool a), .at (.data _ .bool b)=>if T.ty t=some .bool then Mc (a==b) else none
 | .neq, .at (.data _ .bool a), .at (.data _ .bool b)=>if T.ty t=some .bool then Mc (!(a==b)) else none
 |op,x,y=>evalBin op x y
def bytesOf (l:List Int):ByteArray:=⟨(l.map λn=>UInt8.ofNat n.toNat).toArray⟩
def jq:AV->AV
 | .at (.data fr (.oslice e) x)=> .at (.data fr (.slice e) (x.getD []))
 |v=>v
def Dq (Γ:Env) (st:St) (o:Oper):Option AV:=
 match o.op with
 | .move x=>some (st.ev x)
 | .assign x=>some (st.ev x)
 | .pick c a b=>aa (st.ev c) (st.ev a) (st.ev b)
 | .load t a=>Ms T st t (st.ev a)
 | .nilCheck x=>match st.ev x with
  | .at (.data fr (.ptr τ) x)=>some (.at (.data fr (.ptr τ) x))
  | .at (.data fr (.optr τ) (some x))=>some (.at (.data fr (.ptr τ) x))
  | .at (.Ez l i)=>some (.at (.Ez l i))
  | .at (.Hj l i)=>some (.at (.Hj l i))
  |_=>none
 | .binOp op t x y _=>Po T op t (st.ev x) (st.ev y)
 | .unOp op _ x=>qn op (st.ev x)
 | .convert s t x=>match T.ty s,T.ty t,st.ev x with
  |some _,some (.int k), .at (.data _ (.int _) n)=>Vi k (k.wrap n)
  |some (.slice (.int .u8)),some .str,_=>(Dz st (.slice (.int .u8)) (st.ev x)).map λp=> .at (.data true .str (bytesOf p.2))
  |_,_,_=>none
 | .slice t x lo hi mx=>if mx.isSome then none else ab T st t (st.ev x) (lo.map st.ev) (hi.map st.ev)
 | .fieldAddr s x f=>Lc T s (st.ev x) f
 | .field s x f=>iZ T s (st.ev x) f
 | .indexAddr t x i=>Hz T st t (jq (st.ev x)) (st.ev i)
 | .index t x i=>ef T t (st.ev x) (st.ev i)
 | .extract x i=>match st.ev x with
  | .Wh fr τ y=>Yw fr τ y i
  | .Jy l=>EI l i
  |_=>none
 | .call {callee:= .value (.func f),args, .. } =>Lq Γ st f (args.toList.map st.ev)
 | .call {callee:= .value (.tmp t),args, .. } =>Sq Γ st (st.get t) (args.toList.map st.ev)
 | .makeFunc (.func f) first Cx=>match first.toList.map st.ev with
  | []=>(fO (Cx.toList.map st.ev)).map λc=> .at (.clo f c)
  | [.at (.data fr τ x)]=>if Cx.isEmpty&&!τ.Ak then some (.at (.data fr (.clo (f+1000000000) (.pair τ .unit)) (x,()))) else none
  |_=>none
 | .lookup t m k ok=>aV T st t (st.ev m) (st.ev k) ok
 | .call {callee:= .builtin .len,args,argTypes} =>match args.toList,argTypes.toList with
  | [x],[t]=>match T.ty t with
   |some (.slice _)=>(tF st (st.ev x)).bind (Vi .i64)
   |some (.oslice _)=>(tF st (jq (st.ev x))).bind (Vi .i64)
   |some .str=>(xK (st.ev x)).bind (Vi .i64)
   |_=>none
  |_,_=>none
 | .call {callee:= .builtin .min,args, .. } =>qk false (args.toList.map st.ev)
 | .call {callee:= .builtin .max,args, .. } =>qk true (args.toList.map st.ev)
 |_=>none
def Si (st:St) (t:Option Tmp):Option (Option Bool):=
 match t with
 |some t=>match st.get t with
  | .at (.data _ .bool b)=>some (some b)
  | .at .skip=>some none
  |_=>none
 |none=>none
end Go.Proofs.Ytfgfigkbgecfnaa
