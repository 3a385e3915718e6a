/-
  Part 2 of the proof that the statement FnExactSolveTwoPhase holds.
-/
import Derived.Test.YtjbdmibbbpdnnaaCSolveTwoPhase00
namespace Go.Proofs.Ytjbdmibbbpdnnaa
open Go.RowKit
inductive AC where
 |undef
 |skip
 |Ie
 |Rr
 |data (fr:Bool) (τ:Ty) (x:τ.den)
 |own (l off len:Nat)
 |Eb (l i:Nat)
 |Gh (l i:Nat)
 |clo (f:Nat) (Cd:List (Nat×Nat))
 |Gt (l:Nat)
 |sub (l i c:Nat)
 |Gf (l i j:Nat)
inductive AV where
 |at (a:AC)
 |agg (cs:List AC)
 |Vn (fr:Bool) (τ:Ty) (x:τ.den)
 |Jq (l:List (Bool×List AC))
@[reducible] def AV.undef:AV:= .at .undef
inductive OB where
 |arr (fr tr:Bool) (e:Ty) (tid:TypeId) (xs:List e.den)
 |Dl (e:Ty) (tid:TypeId) (xs:List e.den)
 |var (tid:TypeId) (vs:List AC)
 |Ao (e:Ty) (te:TypeId) (rows:List (List e.den)) (out:Option Nat) (kp:Option (Nat×Nat))
 |Pp (v:Ty) (m:ByteArray->Option v.den)
structure St where
 tmps:List AV
 heap:List (Nat×OB)
def Ag:List (Nat×OB)->Nat->Option OB
 | [],_=>none
 |(k,b)::r,l=>if k=l then some b else Ag r l
def St.get (st:St) (t:Nat):AV:=st.tmps.getD t .undef
def St.at (st:St) (l:Nat):Option OB:=Ag st.heap l
def Ou {α:Type} :List α->Nat->α->List α
 | [],_,_=> []
 |_::r,0,y=>y::r
 |x::r,n+1,y=>x::Ou r n y
def St.put (st:St) (dst:Option Tmp) (v:AV):St:=
 match dst with
 |some d=> {st with tmps:=Ou st.tmps d v}
 |none=>st
def AV.map (f:AC->AC):AV->AV
 | .at a=> .at (f a)
 | .agg cs=> .agg (cs.map f)
 | .Vn fr τ x=> .Vn fr τ x
 | .Jq l=> .Jq (l.map λp=>(p.1,p.2.map f))
def OB.map (f:AC->AC):OB->OB
 | .arr fr tr e t xs=> .arr fr tr e t xs
 | .Dl e t xs=> .Dl e t xs
 | .var t vs=> .var t (vs.map f)
 | .Ao e te rows out kp=> .Ao e te rows out kp
 | .Pp v m=> .Pp v m
def Ug:List (Nat×OB)->Nat->List (Nat×OB)
 | [],_=> []
 |(k,b)::r,l=>if k=l then Ug r l else (k,b)::Ug r l
def St.Gs (st:St) (f:AC->AC):St:= {tmps:=st.tmps.map (·.map f),heap:=st.heap.map λp=>(p.1,p.2.map f)}
def Be (l:Nat):AC->AC
 | .own k off len=>if k=l then .undef else .own k off len
 | .Eb k i=>if k=l then .undef else .Eb k i
 | .Gh k i=>if k=l then .undef else .Gh k i
 | .clo f Cd=>if (Cd.map (·.1)).contains l then .undef else .clo f Cd
 | .Gt k=>if k=l then .undef else .Gt k
 | .sub k i c=>if k=l then .undef else .sub k i c
 | .Gf k i c=>if k=l then .undef else .Gf k i c
 |a=>a
def St.forget (st:St) (l:Nat):St:=let s:=st.Gs (Be l); {s with heap:=Ug s.heap l}
def Bf (l:Nat) (fr:Bool) (e:Ty) (xs:List e.den):AC->AC
 | .own k off len=>if k=l then .data fr (.slice e) ((xs.drop off).take len) else .own k off len
 | .Gh k i=>if k=l then .undef else .Gh k i
 | .Eb k i=>if k=l then .undef else .Eb k i
 | .clo f Cd=>if (Cd.map (·.1)).contains l then .undef else .clo f Cd
 | .Gt k=>if k=l then .undef else .Gt k
 | .sub k i c=>if k=l then .undef else .sub k i c
 | .Gf k i c=>if k=l then .undef else .Gf k i c
 |a=>a
def St.freeze (st:St) (l:Nat) (fr:Bool) (e:Ty) (xs:List e.den):St:=let s:=st.Gs (Bf l fr e xs); {s with heap:=Ug s.heap l}
def Dp (l:Nat) (v:Ty) (m:ByteArray->Option v.den):AC->AC
 | .Gt k=>if k=l then .data false (.smap v) m else .Gt k
 | .own k off len=>if k=l then .undef else .own k off len
 | .Gh k i=>if k=l then .undef else .Gh k i
 | .Eb k i=>if k=l then .undef else .Eb k i
 | .clo f Cd=>if (Cd.map (·.1)).contains l then .undef else .clo f Cd
 | .sub k i c=>if k=l then .undef else .sub k i c
 | .Gf k i c=>if k=l then .undef else .Gf k i c
 |a=>a
def St.Es (st:St) (l:Nat) (v:Ty) (m:ByteArray->Option v.den):St:=let s:=st.Gs (Dp l v m); {s with heap:=Ug s.heap l}
def Ju:List (Nat×OB)->Nat->OB->List (Nat×OB)
 | [],l,b=> [(l,b)]
 |(k,c)::r,l,b=>if l<k then (l,b)::(k,c)::r else (k,c)::Ju r l b
def St.new (st:St) (l:Nat) (b:OB):St:=let s:=st.forget l; {s with heap:=Ju s.heap l b}
def Ys:List (Nat×OB)->Nat->OB->List (Nat×OB)
 | [],_,_=> []
 |(k,b)::r,l,b'=>if k=l then (k,b')::r else (k,b)::Ys r l b'
def St.Gk (st:St) (l:Nat) (b:OB):St:= {st with heap:=Ys st.heap l b}
structure Tab where
 ty:TypeId->Option Ty
 elem:TypeId->Option TypeId
 mapOf:TypeId->Option Ty
 off:TypeId->Nat->Option (Nat×TypeId)
 nM:Bool:=true
 vo:Bool:=false
 marks:List Nat:= []
 parts:List Nat:= []
 UO:List TypeId:= []
def Ty.zero:(τ:Ty)->τ.den
 | .int _=>(0:Int)
 | .bool=>false
 | .str=>(ByteArray.empty)
 | .slice _=> []
 | .oslice _=>none
 | .ptr a=>a.zero
 | .optr _=>none
 | .smap _=> λ_=>none
 | .clo _ c=>c.zero
 | .unit=>()
 | .pair a r=>(a.zero,r.zero)
def Sq (fr:Bool):(τ:Ty)->τ.den->List AC
 | .unit,_=> []
 | .pair a r,x=>Sq fr a x.1++Sq fr r x.2
 |τ,x=> [.data fr τ x]
def cJ (fr:Bool):(τ Js:Ty)->Js.den->Option (Bool×τ.den)
 | .slice e, .oslice e',x=>if h:e'=e then some (fr,((h▸x:Option (List e.den)).getD [])) else none
 | .optr a, .ptr a',x=>if h:a'=a then some (fr,some (h▸x:a.den)) else none
 |_,_,_=>none
def Bv (st:St):(τ:Ty)->AC->Option (Bool×τ.den)
 |τ, .data fr Js x=>if h:Js=τ then some (fr||τ.flat,h▸x) else cJ fr τ Js x
 | .slice _, .Ie=>some (true,[])
 | .oslice _, .Ie=>some (true,none)
 | .optr _, .Rr=>some (true,none)
 | .slice e, .own l off len=>match st.at l with
  |some (.arr fr _ e' _ xs)=>if h:e'=e then some (fr,((h▸xs:List e.den).drop off).take len) else none
  |some (.Dl e' _ xs)=>if h:e'=e then some (true,((h▸xs:List e.den).drop off).take len) else none
  |some (.Ao e' _ rows none _)=>if h: .slice e'=e then some (false,((h▸(rows:List (Ty.slice e').den):List e.den).drop off).take len) else none
  |_=>none
 | .slice e, .sub l i _=>match st.at l with
  |some (.Ao e' _ rows none _)=>if h:e'=e then some (false,(h▸(rows.getD i []:List e'.den):List e.den)) else none
  |_=>none
 | .smap v, .Gt l=>match st.at l with
  |some (.Pp v' m)=>if h:v'=v then some (true,h▸m) else none
  |_=>none
 |_,_=>none
def Cv (st:St):(τ:Ty)->List AC->Option (Bool×τ.den)
 | .unit,[]=>some (true,())
 | .unit,_::_=>none
 | .pair a r,cs=>
  match Cv st a (cs.take a.size),Cv st r (cs.drop a.size) with
  |some (f1,x),some (f2,y)=>some (f1&&f2,(x,y))
  |_,_=>none
 |τ,[c]=>Bv st τ c
 |_,_=>none
def Oj (st:St) (a:Ty) (l i:Nat):Option (Bool×a.den):=
 match st.at l with
 |some (.var _ vs)=>Cv st a ((vs.drop i).take a.size)
 |_=>none
def Gv (st:St):(τ:Ty)->List (Nat×Nat)->Option (Bool×τ.den)
 | .unit,[]=>some (true,())
 | .pair (.ptr a) r,(l,i)::cs=>
  match Oj st a l i,Gv st r cs with
  |some (f1,x),some (f2,y)=>some (f1&&f2,(x,y))
  |_,_=>none
 |_,_=>none
def Fy (st:St):(τ:Ty)->AC->Option (Bool×τ.den)
 | .ptr a, .Eb l i=>Oj st a l i
 | .optr a, .Eb l i=>(Oj st a l i).map λp=>(p.1,some p.2)
 | .clo f τ, .clo g Cd=>if g=f/\f<1000000000 then Gv st τ Cd else none
 |τ,c=>Bv st τ c
def Cy (st:St) (τ:Ty):AV->Option (Bool×τ.den)
 | .at (.data fr Js x)=>if h:Js=τ then some (fr||τ.flat,h▸x) else if τ.Ac then none else Fy st τ (.data fr Js x)
 | .at a=>if τ.Ac then none else Fy st τ a
 | .agg cs=>if τ.Ac then Cv st τ cs else none
 |_=>none
def Ca (st:St):(τ:Ty)->List AV->Option (Bool×τ.den)
 | .unit,[]=>some (true,())
 | .pair a r,v::vs=>
  match Cy st a v,Ca st r vs with
  |some (f1,x),some (f2,y)=>some (f1&&f2,(x,y))
  |_,_=>none
 |_,_=>none
def AC.settled:AC->Bool
 | .data _ _ _| .Ie| .Rr=>true
 |_=>false
def AV.settled:AV->Bool
 | .at a=>a.settled
 | .agg cs=>cs.all (·.settled)
 | .Vn _ _ _=>true
 | .Jq _=>false
inductive CK where
 |Dy (τ:Ty)
 |row (e:Ty) (te:TypeId)
 |Dx (e:Ty) (te:TypeId)
 |part (e:Ty) (te:TypeId)
 |Ao (e:Ty) (te:TypeId) (kp:Bool)
@[reducible] def CK.den:CK->Type
 | .Dy τ=>τ.den
 | .row e _=>List e.den
 | .Dx e _=>List e.den
 | .part e _=>List e.den×Nat×Nat
 | .Ao e _ _=>List (List e.den)
def CK.flat:CK->Bool
 | .Dy τ=>τ.flat
 | .row e _=>e.flat
 | .Dx _ _=>true
 | .part e _=>e.flat
 | .Ao _ _ _=>false
def CK.WD:CK->Bool
 | .Dx _ _=>true
 |_=>false
@[reducible] def CKs.den:List CK->Type
 | []=>Unit
 |c::r=>c.den×CKs.den r
@[reducible] def IOs.den:List (Bool×CK)->Type
 | []=>Unit
 |(true, .Dy _)::r=>IOs.den r
 |(true, .row e _)::r=>List e.den×IOs.den r
 |(true, .Dx e _)::r=>List e.den×IOs.den r
 |(true, .part e _)::r=>List e.den×IOs.den r
 |(true, .Ao _ _ _)::r=>IOs.den r
 |(false,_)::r=>IOs.den r
@[reducible] def Ins.den:List (Bool×CK)->Type
 | []=>Unit
 |p::r=>p.2.den×Ins.den r
structure MSpec where
 ptr:Option (TypeId×Nat):=none
 Hq:List (Option Nat)
 ins:List (Bool×CK)
 Ej:Bool
 Gm:List (Option Nat)
 outs:List CK
 fn:Ins.den ins->Option (CKs.den outs×IOs.den ins)
 keeps:List (Nat×Nat):= []
 Cz:Ins.den ins->Nat:= λ_=>0
 rp:Option TypeId:=none
structure Spec where
 arg:Ty
 res:Ty
 Ej:Bool
 fresh:Bool
 fn:arg.den->Option res.den
inductive Xe where
 |q (s:Spec)
 |m (s:MSpec)
 |b (s:Spec) (m:MSpec)
def MSpec.flat (s:MSpec):Bool:=s.outs.all (·.flat)&&s.ins.all λp=>!p.1||p.2.flat
def MSpec.NG (s:MSpec):Bool:=s.flat||s.outs.all λc=>!c.WD
abbrev Env:=FuncId->Option Xe
def iz:Value->AV
 | .int k n=> .at (.data true (.int k) n)
 | .bool b=> .at (.data true .bool b)
 | .string s=> .at (.data true .str s)
 | .slice none 0 0=> .at .Ie
 | .pointer none=> .at .Rr
 |_=> .undef
def St.ev (st:St):Operand->AV
 | .tmp t=>st.get t
 | .const v=>iz v
 | .func f=> .at (.clo f [])
 |_=> .undef
def idx {α:Type} (xs:List α) (i:Int):Option α:=if 0<=i then xs[i.toNat]? else none
def WB (n:Int) (len:Nat):Bool:=decide (0<=n)&&decide (n<len)
theorem Oc {n:Int} {len:Nat} :WB n len=true↔0<=n/\n<len:=by simp [WB]
def Um (k:IntKind) (n:Int):Option AV:=some (.at (.data true (.int k) n))
def Kg (b:Bool):Option AV:=some (.at (.data true .bool b))
def o6 (op:BinOp) (k:IntKind) (a b:Int):Option AV:=
 match op with
 | .add=>Um k (k.wrap (a+b))
 | .sub=>Um k (k.wrap (a-b))
 | .mul=>Um k (k.wrap (a*b))
 | .quo=>if b=0 then none else Um k (k.wrap (a.tdiv b))
 | .rem=>if b=0 then none else Um k (a.tmod b)
 | .and=>Um k (k.wrap (BitVec.ofInt k.bits a&&&BitVec.ofInt k.bits b).toNat)
 | .or=>Um k (k.wrap (BitVec.ofInt k.bits a|||BitVec.ofInt k.bits b).toNat)
 | .eql=>Kg (a==b)
 | .neq=>Kg (a !=b)
 | .lss=>Kg (decide (a<b))
 | .leq=>Kg (decide (a<=b))
 | .gtr=>Kg (decide (a>b))
 | .geq=>Kg (decide (a>=b))
 |_=>none
def evalBin (op:BinOp) (x y:AV):Option AV:=
 match x,y with
 | .at (.data _ (.int k) a), .at (.data _ (.int k') b)=>
  match op with
  | .shl=>if b<0 then none else Um k (k.wrap (a*2^(min b.toNat k.bits)))
  | .shr=>if b<0 then none else Um k (a.fdiv (2^(min b.toNat k.bits)))
  |_=>if k=k' then o6 op k a b else none
 | .at (.data _ .str a), .at (.data _ .str b)=>
  match op with
  | .eql=>Kg (a.toList==b.toList)
  | .neq=>Kg (!(a.toList==b.toList))
  | .add=>if a.size+b.size<=4294967296 then some (.at (.data true .str (a++b))) else none
  |_=>none
 |_,_=>none
def td (op:UnOp) (x:AV):Option AV:=
 match op,x with
 | .not, .at (.data _ .bool b)=>Kg (!b)
 | .neg, .at (.data _ (.int k) n)=>Um k (k.wrap (0-n))
 |_,_=>none
def Zi (c x y:AV):Option AV:=
 match c with
 | .at (.data _ .bool b)=>some (if b then x else y)
 |_=>none
def xc:AV->Option Int
 | .at .Ie=>some 0
 | .at (.data _ (.slice _) xs)=>some xs.length
 | .at (.data _ .str s)=>some s.size
 | .at (.own _ _ len)=>some (len:Int)
 |_=>none
def MX:AV->Option Int
 | .at .Ie=>some 0
 | .at (.data _ (.slice _) xs)=>some xs.length
 | .at (.own _ _ len)=>some (len:Int)
 |_=>none
def xe (st:St):AV->Option Int
 | .at (.sub l i _)=>match st.at l with
  |some (.Ao _ _ rows none _)=>some (rows.getD i []).length
  |_=>none
 |v=>MX v
def ES:AV->Option Int
 | .at (.data _ .str s)=>some s.size
 |_=>none
def Gx:(τ:Ty)->τ.den->Nat->(ρ:Ty)->Option ρ.den
 | .pair a r,x,o,ρ=>if o=0 then (if h:a=ρ then some (h▸x.1) else none) else if o<a.size then none else Gx r x.2 (o-a.size) ρ
 |_,_,_,_=>none
def bt (l i:Nat):(c:Nat)->(τ:Ty)->τ.den->List AC
 |_, .unit,_=> []
 |c, .pair a r,x=>bt l i c a x.1++bt l i (c+a.size) r x.2
 |c,τ,x=> [if τ.flat then .data true τ x else .sub l i c]
variable (T:Tab)
def Ku (st:St) (t:TypeId) (p:AV):Option AV:=
 match T.ty t,p with
 |some τ, .at (.data fr (.ptr Js) x)=>if Js=τ then some (.at (.data (fr||Js.flat) Js x)) else none
 |some τ, .at (.data fr (.optr Js) (some x))=>if Js=τ then some (.at (.data (fr||Js.flat) Js x)) else none
 |some τ, .at (.Eb l i)=>match st.at l with
  |some (.var _ vs)=>if τ.Ac then (if i+τ.size<=vs.length then some (.agg ((vs.drop i).take τ.size)) else none) else vs[i]?.map .at
  |_=>none
 |some τ, .at (.Gh l i)=>match st.at l with
  |some (.arr fr _ e _ xs)=>if e=τ then xs[i]?.map λx=> .at (.data (fr||e.flat) e x) else none
  |some (.Dl e _ xs)=>if e=τ then xs[i]?.map λx=>if e.Ac then .agg (bt l i 0 e x) else .at ((bt l i 0 e x).headD .undef) else none
  |some (.Ao _ _ _ none _)=>if τ.Ac then none else some (.at (.sub l i 0))
  |_=>none
 |some τ, .at (.Gf l i j)=>match st.at l with
  |some (.Ao e _ rows none _)=>if e=τ then some (.at (.data e.flat e ((rows.getD i []).getD j e.zero))) else none
  |_=>none
 |_,_=>none
def Gl (st:St) (t:TypeId) (x i:AV):Option AV:=
 match x,i with
 | .at (.data fr (.slice e) xs), .at (.data _ (.int _) n)=>if (T.elem t).bind T.ty=some e then (idx xs n).map λx=> .at (.data fr (.ptr e) x) else none
 | .at (.own l off len), .at (.data _ (.int _) n)=>match st.at l with
  |some (.arr _ _ e tid _)=>if T.elem t=some tid/\T.ty tid=some e/\WB n len=true then some (.at (.Gh l (off+n.toNat))) else none
  |some (.Dl e tid _)=>if T.elem t=some tid/\T.ty tid=some e/\WB n len=true then some (.at (.Gh l (off+n.toNat))) else none
  |some (.Ao _ te _ _ _)=>if T.elem t=some te/\(T.ty te).map Ty.size=some 1/\WB n len=true then some (.at (.Gh l (off+n.toNat))) else none
  |_=>none
 | .at (.sub l i _), .at (.data _ (.int _) n)=>match st.at l with
  |some (.Ao e _ rows none _)=>if ((T.elem t).bind T.ty).map Ty.size=some e.size/\WB n (rows.getD i []).length=true then some (.at (.Gf l i n.toNat)) else none
  |_=>none
 |_,_=>none
def Jl (s:TypeId) (x:AV) (f:Nat):Option AV:=
 match T.off s f,x with
 |some (o,_), .at (.Eb l i)=>some (.at (.Eb l (i+o)))
 |some (o,t), .at (.data fr (.ptr τ) x)=>if T.ty s=some τ then (T.ty t).bind λρ=>(Gx τ x o ρ).map λy=> .at (.data fr (.ptr ρ) y) else none
 |some (o,t), .at (.data fr (.optr τ) (some x))=>if T.ty s=some τ then (T.ty t).bind λρ=>(Gx τ x o ρ).map λy=> .at (.data fr (.ptr ρ) y) else none
 |_,_=>none
def jT (s:TypeId) (x:AV) (f:Nat):Option AV:=
 match T.off s f,x with
 |some (o,t), .agg cs=>(T.ty t).bind λρ=>if ρ.Ac then none else cs[o]?.map .at
 |some (o,t), .at (.data fr τ x)=>if T.ty s=some τ then (T.ty t).bind λρ=>(Gx τ x o ρ).map λy=> .at (.data fr ρ y) else none
 |_,_=>none
def JW (v:Option AV) (d:Int):Option Int:=
 match v with
 |none=>some d
 |some (.at (.data _ (.int _) n))=>some n
 |_=>none
def Zj (st:St) (t:TypeId) (x:AV) (lo hi:Option AV):Option AV:=
 match xc x with
 |none=>none
 |some n=>
  match JW lo 0,JW hi n with
  |some l,some h=>
   if 0<=l/\l<=h/\h<=n then
    match x with
    | .at (.data fr (.slice e) xs)=>if (T.elem t).bind T.ty=some e then some (.at (.data fr (.slice e) ((xs.take h.toNat).drop l.toNat))) else none
    | .at (.own k off _)=>match st.at k with
     |some (.arr _ _ e tid _)=>if T.elem t=some tid/\T.ty tid=some e then some (.at (.own k (off+l.toNat) (h.toNat-l.toNat))) else none
     |_=>none
    | .at (.data _ .str s)=>if T.ty t=some .str then some (.at (.data true .str (s.extract l.toNat h.toNat))) else none
    |_=>none
   else none
  |_,_=>none
def eo (t:TypeId) (x i:AV):Option AV:=
 match x,i with
 | .at (.data _ .str s), .at (.data _ (.int _) n)=>if T.ty t=some .str then (if 0<=n then s[n.toNat]?.map λb=> .at (.data true (.int .u8) b.toNat) else none) else none
 |_,_=>none
def Ka (Γ:Env) (st:St) (f:FuncId) (args:List AV):Option AV:=
 match Γ f with
 |some (.q s)=>
  if s.fresh||s.res.flat||args.all (·.settled) then
   match Ca st s.arg args with
   |none=>none
   |some (_,x)=>(s.fn x).map λy=>if s.Ej then .Vn (s.fresh||s.res.flat) s.res y else .at (.data (s.fresh||s.res.flat) s.res y)
  else none
 |_=>none
def Ty.chain:Ty->Bool
 | .unit=>true
 | .pair a r=>!a.Ac&&r.chain
 |_=>false
def Vt (fr:Bool):(τ:Ty)->τ.den->List AV
 | .pair a r,x=> .at (.data fr a x.1)::Vt fr r x.2
 |_,_=> []
def Rj (Γ:Env) (st:St) (v:AV) (args:List AV):Option AV:=
 match v with
 | .at (.data fr (.clo f τ) x)=>if τ.chain then (if f<1000000000 then Ka Γ st f (args++Vt fr τ x) else Ka Γ st (f-1000000000) (Vt fr τ x++args)) else none
 | .at (.clo f Cd)=>Ka Γ st f (args++Cd.map λp=> .at (.Eb p.1 p.2))
 |_=>none
def gn:List AV->Option (List (Nat×Nat))
 | []=>some []
 | .at (.Eb l i)::r=>(gn r).map λc=>(l,i)::c
 |_=>none
def aI (st:St) (t:TypeId) (m k:AV) (ok:Bool):Option AV:=
 match T.mapOf t,k with
 |some v, .at (.data _ .str s)=>
  match Cy st (.smap v) m with
  |some (_,f)=>some (if ok then .Vn true (.pair v (.pair .bool .unit)) (((f s).getD v.zero),(f s).isSome,()) else .at (.data true v ((f s).getD v.zero)))
  |none=>none
 |_,_=>none
def Zh (x:AV):Option Bool:=
 match x with
 | .at .Ie=>some true
 | .at (.data _ (.oslice _) x)=>some x.isNone
 |_=>none
def Zg (x:AV):Option Bool:=
 match x with
 | .at .Rr=>some true
 | .at (.Eb _ _)=>some false
 | .at (.data _ (.optr _) x)=>some x.isNone
 | .at (.data _ (.ptr _) _)=>some false
 |_=>none
def MT:Option Ty->Bool
 |some (.ptr _)=>true
 |some (.optr _)=>true
 |_=>false
def Xy (fr:Bool):(τ:Ty)->τ.den->Nat->Option AV
 | .pair a _,x,0=>some (.at (.data (fr||a.flat) a x.1))
 | .pair _ r,x,n+1=>Xy fr r x.2 n
 |_,_,_=>none
def Abt:Bool×List AC->Option AV
 |(true,cs)=>some (.agg cs)
 |(false,[a])=>some (.at a)
 |_=>none
def PN (l:List (Bool×List AC)) (i:Nat):Option AV:=(l[i]?).bind Abt
def ta (mx:Bool):List AV->Option AV
 | [.at (.data _ (.int k) a), .at (.data _ (.int k') b)]=>if k=k' then Um k (if mx then (if b>a then b else a) else (if b<a then b else a)) else none
 |_=>none
def Nw (op:BinOp) (t:TypeId) (x y:AV):Option AV:=
 match op,x,y with
 | .eql,x, .at .Ie=>if (T.elem t).isSome then (Zh x).bind Kg else none
 | .eql,x, .at .Rr=>if MT (T.ty t) then (Zg x).bind Kg else none
 | .neq,x, .at .Ie=>if (T.elem t).isSome then (Zh x).bind λb=>Kg (!b) else none
 | .neq,x, .at .Rr=>if MT (T.ty t) then (Zg x).bind λb=>Kg (!b) else none
 | .eql, .at (.data _ .bool a), .at (.data _ .bool b)=>if T.ty t=some .bool then Kg (a==b) else none
 | .neq, .at (.data _ .bool a), .at (.data _ .bool b)=>if T.ty t=some .bool then Kg (!(a==b)) else none
 |op,x,y=>evalBin op x y
def bytesOf (l:List Int):ByteArray:=⟨(l.map λn=>UInt8.ofNat n.toNat).toArray⟩
def kF:AV->AV
 | .at (.data fr (.oslice e) x)=> .at (.data fr (.slice e) (x.getD []))
 |v=>v
def Cp (Γ:Env) (st:St) (o:Oper):Option AV:=
 match o.op with
 | .move x=>some (st.ev x)
 | .assign x=>some (st.ev x)
 | .pick c a b=>Zi (st.ev c) (st.ev a) (st.ev b)
 | .load t a=>Ku T st t (st.ev a)
 | .nilCheck x=>match st.ev x with
  | .at (.data fr (.ptr τ) x)=>some (.at (.data fr (.ptr τ) x))
  | .at (.data fr (.optr τ) (some x))=>some (.at (.data fr (.ptr τ) x))
  | .at (.Eb l i)=>some (.at (.Eb l i))
  | .at (.Gh l i)=>some (.at (.Gh l i))
  |_=>none
 | .binOp op t x y _=>Nw T op t (st.ev x) (st.ev y)
 | .unOp op _ x=>td op (st.ev x)
 | .convert s t x=>match T.ty s,T.ty t,st.ev x with
  |some _,some (.int k), .at (.data _ (.int _) n)=>Um k (k.wrap n)
  |some (.slice (.int .u8)),some .str,_=>(Cy st (.slice (.int .u8)) (st.ev x)).map λp=> .at (.data true .str (bytesOf p.2))
  |_,_,_=>none
 | .slice t x lo hi mx=>if mx.isSome then none else Zj T st t (st.ev x) (lo.map st.ev) (hi.map st.ev)
 | .fieldAddr s x f=>Jl T s (st.ev x) f
 | .field s x f=>jT T s (st.ev x) f
 | .indexAddr t x i=>Gl T st t (kF (st.ev x)) (st.ev i)
 | .index t x i=>eo T t (st.ev x) (st.ev i)
 | .extract x i=>match st.ev x with
  | .Vn fr τ y=>Xy fr τ y i
  | .Jq l=>PN l i
  |_=>none
 | .call {callee:= .value (.func f),args, .. } =>Ka Γ st f (args.toList.map st.ev)
 | .call {callee:= .value (.tmp t),args, .. } =>Rj Γ st (st.get t) (args.toList.map st.ev)
 | .makeFunc (.func f) first Cd=>match first.toList.map st.ev with
  | []=>(gn (Cd.toList.map st.ev)).map λc=> .at (.clo f c)
  | [.at (.data fr τ x)]=>if Cd.isEmpty&&!τ.Ac then some (.at (.data fr (.clo (f+1000000000) (.pair τ .unit)) (x,()))) else none
  |_=>none
 | .lookup t m k ok=>aI T st t (st.ev m) (st.ev k) ok
 | .call {callee:= .builtin .len,args,argTypes} =>match args.toList,argTypes.toList with
  | [x],[t]=>match T.ty t with
   |some (.slice _)=>(xe st (st.ev x)).bind (Um .i64)
   |some (.oslice _)=>(xe st (kF (st.ev x))).bind (Um .i64)
   |some .str=>(ES (st.ev x)).bind (Um .i64)
   |_=>none
  |_,_=>none
 | .call {callee:= .builtin .min,args, .. } =>ta false (args.toList.map st.ev)
 | .call {callee:= .builtin .max,args, .. } =>ta true (args.toList.map st.ev)
 |_=>none
def Rd (st:St) (t:Option Tmp):Option (Option Bool):=
 match t with
 |some t=>match st.get t with
  | .at (.data _ .bool b)=>some (some b)
  | .at .skip=>some none
  |_=>none
 |none=>none
end Go.Proofs.Ytjbdmibbbpdnnaa
