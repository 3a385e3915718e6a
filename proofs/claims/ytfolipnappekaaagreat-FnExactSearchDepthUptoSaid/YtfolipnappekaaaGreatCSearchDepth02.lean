/-
  Part 3 of the proof that the statement FnExactSearchDepth holds.
-/
import Derived.Test.YtfolipnappekaaaGreatCSearchDepth01
namespace Go.Proofs.YtfolipnappekaaaGreat
open Go.RowKit
def Hk:Nat->St->List AC->Option (List AC×St)
 |0,st,cs=>if cs.all (·.settled) then some (cs,st) else none
 |n+1,st,cs=>
  match cs.find? (λc=>!c.settled) with
  |none=>some (cs,st)
  |some (.own l _ _)=>match st.at l with
   |some (.arr fr _ e _ xs)=>Hk n (st.freeze l fr e xs) (cs.map (Cz l fr e xs))
   |some (.Gt e _ xs)=>Hk n (st.freeze l false e xs) (cs.map (Cz l false e xs))
   |_=>none
  |some (.Kg l)=>match st.at l with
   |some (.Vs v m)=>Hk n (st.Ir l v m) (cs.map (Ha l v m))
   |_=>none
  |some _=>none
def settle (st:St):AV->Option (AV×St)
 | .at (.own l off len)=>match st.at l with
  |some (.arr fr _ e _ xs)=>some (.at (.data fr (.slice e) ((xs.drop off).take len)),st.freeze l fr e xs)
  |some (.Gt e _ xs)=>some (.at (.data false (.slice e) ((xs.drop off).take len)),st.freeze l false e xs)
  |_=>none
 | .at (.Kg l)=>match st.at l with
  |some (.Vs v m)=>some (.at (.data false (.smap v) m),st.Ir l v m)
  |_=>none
 | .at a=>if a.settled then some (.at a,st) else none
 | .agg cs=>(Hk cs.length st cs).map λp=>(.agg p.1,p.2)
 | .bz fr τ x=>some (.bz fr τ x,st)
 | .Mq _=>none
def AC.refs:AC->List Nat
 | .own l _ _| .Hm l _| .Jy l _| .Kg l| .sub l _ _| .Jv l _ _=> [l]
 | .clo _ Ec=>Ec.map (·.1)
 |_=> []
def aq:List Nat->Bool
 | []=>true
 |a::r=>!r.contains a&&aq r
def Ty.tree:Ty->Bool
 | .int _| .bool| .str| .unit=>true
 | .slice e=>e.tree
 | .pair a r=>a.tree&&r.tree
 |_=>false
def Rz (st:St):AC->Bool
 | .data _ τ _=>τ.flat
 | .Ly=>true
 | .own l _ _=>match st.at l with
  |some (.arr _ tr e _ _)=>tr||e.flat
  |some (.Gt _ _ _)=>true
  |_=>false
 |_=>false
def Tl (st:St):AV->Bool
 | .at a=>Rz st a
 | .agg cs=>cs.all (Rz st)&&aq (cs.flatMap AC.refs)
 |_=>false
def Bn:Nat:=1000000000
variable (T:Tab)
def QX (t:TypeId) (τ:Ty) (i:Nat):Option TypeId:=
 if τ.Aq then (List.range 24).findSome? λf=>match T.off t f with
  |some (o,u)=>if o=i then some u else none
  |none=>none
 else some t
def Tab.RH (te:TypeId):Option Ty:=if T.YV.contains te then (match T.ty te with
 |some (.slice e)=>some e
 |_=>none) else none
def dI (te:TypeId) (e:Ty):OB:=match T.RH te with
 |some e'=> .Bm e' te [] none none
 |none=> .arr (T.tH||e.flat) T.CO e te []
def Ut (b:OB) (key l i:Nat) (st:St):St:=
 match st.at l with
 |some (.var _ vs)=>match vs[i]? with
  |some .Ly=>
   let s1:=st.new key b
   match s1.at l with
   |some (.var tid vs')=>s1.Ju l (.var tid (Sr vs' i (.own key 0 0)))
   |_=>s1
  |_=>st
 |_=>st
def fo (l:Nat) (t:TypeId) (τ:Ty):Nat->Nat->St->St
 |0,_,st=>st
 |n+1,i,st=>
  fo l t τ n (i+1) (match ((QX T t τ i).bind T.elem).bind λte=>(T.ty te).map λe=>(te,e) with
   |some (te,e)=>Ut (dI T te e) (100000+l*100+i) l i st
   |none=>st)
def ef (l off:Nat) (t:TypeId) (τ:Ty):Nat->Nat->St->St
 |0,_,st=>st
 |n+1,i,st=>
  ef l off t τ n (i+1) (match ((QX T t τ i).bind T.elem).bind λte=>(T.ty te).map λe=>(te,e) with
   |some (te,e)=>Ut (dI T te e) (100000+l*100+(off+i)) l (off+i) st
   |none=>st)
def zeroCells:(τ:Ty)->List AC
 | .unit=> []
 | .pair a r=>zeroCells a++zeroCells r
 | .slice _=> [.Ly]
 | .oslice _=> [.Ly]
 | .ptr _=> [.Xa]
 | .optr _=> [.Xa]
 | .clo _ _=> [.undef]
 |τ=> [.data true τ τ.zero]
def cellsOf (τ:Ty):AV->Option (List AC)
 | .agg cs=>if τ.Aq&&cs.length==τ.size then some cs else none
 | .at (.data fr Oe x)=>if Oe=τ then some (Sj fr Oe x) else none
 | .at .undef=>none
 | .at .skip=>none
 | .at a=>if τ.Aq then none else some [a]
 |_=>none
def mkVar (st:St) (l:Nat) (t:TypeId) (τ:Ty) (cs:List AC):Option (AV×St):=
 if Bn<=100000+l*100+cs.length then none else
 let s:=fo T l t τ cs.length 0 (st.new l (.var t (cs.map (Cu l))))
 match s.at l with
 |some (.var _ _)=>some (.at (.Hm l 0),s)
 |_=>none
def Dv {α:Type} (xs:List α) (i:Nat) (ys:List α):List α:=xs.take i++ys++xs.drop (i+ys.length)
def Va (st:St) (t:TypeId) (p v:AV):Option St:=
 match T.ty t,p with
 |some τ, .at (.Hm l i)=>match st.at l,cellsOf τ v with
  |some (.var tid vs),some cs=>if i+cs.length<=vs.length then some (if τ.Aq&&Nat.blt (100000+l*100+(i+cs.length)) Bn then ef T l i t τ cs.length 0 (st.Ju l (.var tid (Dv vs i cs))) else st.Ju l (.var tid (Dv vs i cs))) else none
  |_,_=>none
 |some τ, .at (.Jy l j)=>match settle st v with
  |some (v',st')=>match st'.at l,Fu st' τ v' with
   |some (.arr fr tr e tid xs),some (Wb,x)=>if h:τ=e then (if j<xs.length then some (st'.Ju l (.arr (fr&&Wb) (tr&&(Tl st v&&e.tree)) e tid (xs.set j (h▸x)))) else none) else none
   |_,_=>none
  |none=>none
 |_,_=>none
def Cr:Nat:=4294967296
def Nv (st:St) (dst:Nat) (t:TypeId) (x y:Operand):Option (AV×St):=
 match T.elem t with
 |none=>none
 |some te=>match T.ty te,settle st (st.ev y) with
  |some e,some (y',st')=>match Fu st' (.slice e) y' with
   |none=>none
   |some (sw,ys)=>
    let tr2:=e.flat||(Tl st (st.ev y)&&e.tree)
    match st'.ev x with
    | .at .Ly=>if ys.length<=Cr/\dst<Bn then some (.at (.own dst 0 (0+ys.length)),(st'.new dst (.arr (T.tH||e.flat) T.CO e te [])).new dst (.arr ((T.tH||e.flat)&&(sw||e.flat)) (T.CO&&tr2) e te (((([]:List e.den).drop 0).take 0)++ys))) else none
    | .at (.own l off len)=>match st'.at l with
     |some (.arr fr tr e' tid xs)=>if h:e'=e/\tid=te then
       (if len+ys.length<=Cr/\l<Bn then
        some (.at (.own l 0 (len+ys.length)),st'.new l (.arr (fr&&(sw||e.flat)) (tr&&tr2) e te ((((h.1▸xs:List e.den).drop off).take len)++ys))) else none)
      else none
     |_=>none
    |_=>none
  |_,_=>none
def Qc (st:St) (l i m:Nat) (e:Ty) (te tid:TypeId) (rows:List (List e.den)) (kp:Option (Nat×Nat)):St:=
 (st.Ju l (.Bm e te rows (some i) kp)).new m (.arr false false e tid (rows.getD i []))
def Rg (st:St) (dst:Nat) (t:TypeId) (x y:Operand):Option (AV×St):=
 match x with
 | .tmp tx=>match st.get tx with
  | .at (.sub l i _)=>match st.at l,T.elem t with
   |some (.Bm e te rows none kp),some tid=>if (Nat.blt l Bn&&(Nat.blt dst Bn&&!Nat.beq dst l))=true then Nv T ((Qc st l i dst e te tid rows kp).put (some tx) (.at (.own dst 0 (rows.getD i []).length))) dst t x y else none
   |_,_=>none
  |_=>Nv T st dst t x y
 |_=>Nv T st dst t x y
def mG:Ty->Bool
 | .int _| .bool| .str| .slice _| .oslice _=>true
 |_=>false
def fS:Ty->Bool
 | .unit=>true
 | .pair a r=>fS a&&fS r
 |e=>mG e
def bJ (st:St) (dst:Nat) (t:TypeId) (l c:AV):Option (AV×St):=
 match T.elem t,l,c with
 |some te, .at (.data _ (.int _) n), .at (.data _ (.int _) m)=>match T.ty te with
  |some e=>if inb n (Cr+1)=true/\n=m/\fS e=true/\dst<Bn then some (.at (.own dst 0 n.toNat),st.new dst (.arr (T.tH||e.flat) (T.CO&&e.tree) e te (List.replicate n.toNat e.zero))) else none
  |none=>none
 |_,_,_=>none
def Kz (e:Ty):Nat->List (Nat×Operand)->St->Option (Bool×Bool×List e.den×St)
 |_,[],st=>some (true,true,[],st)
 |i,(j,x)::r,st=>
  if i=j then match settle st (st.ev x) with
   |some (v,st')=>match Fu st' e v with
    |some (fr,y)=>match Kz e (i+1) r st' with
     |some (Wb,tr',ys,Au8)=>some (fr&&Wb,Tl st (st.ev x)&&e.tree&&tr',y::ys,Au8)
     |none=>none
    |none=>none
   |none=>none
  else none
def Mg (st:St) (dst:Nat) (t:TypeId) (len:Nat) (parts:Array (Nat×Operand)):Option (AV×St):=
 match T.elem t with
 |none=>none
 |some te=>match T.ty te with
  |none=>none
  |some e=>if parts.size=len/\len<=64/\e.size<=64/\dst<Bn then (match Kz e 0 parts.toList st with
   |some (fr,tr,ys,st')=>some (.at (.own dst 0 len),st'.new dst (.arr ((T.tH||e.flat)&&fr) (T.CO&&tr) e te ys))
   |none=>none) else none
def Uz (st:St) (dst:Nat) (t:TypeId):Option (AV×St):=
 match T.mapOf t with
 |some v=>if dst<Bn then some (.at (.Kg dst),st.new dst (.Vs v λ_=>none)) else none
 |none=>none
def jy {α:Type} (m:ByteArray->Option α) (k:ByteArray) (x:α):ByteArray->Option α:= λs=>if s=k then some x else m s
def Jd (st:St) (t:TypeId) (m k x:AV):Option St:=
 match T.mapOf t,m,k with
 |some v, .at (.Kg l), .at (.data _ .str s)=>match st.at l,Fu st v x with
  |some (.Vs v' f),some (_,y)=>if h:v'=v/\v.flat=true/\v.Aq=false then some (st.Ju l (.Vs v (jy (h.1▸f:ByteArray->Option v.den) s y))) else none
  |_,_=>none
 |_,_,_=>none
def iw (st:St) (t t':TypeId) (x y:AV):Option (AV×St):=
 match x,(T.elem t).bind T.ty with
 | .at (.own l off len),some e=>if T.elem t=T.elem t'/\e.flat=true/\e.size=1 then match st.at l,Fu st (.slice e) y with
  |some (.arr fr _ e' tid xs),some (_,ys)=>if h:e'=e/\T.elem t=some tid then
    some (.at (.data true (.int .i64) (min len ys.length:Nat)),st.Ju l (.arr fr false e tid (Dv (h.1▸xs:List e.den) off (ys.take len))))
   else none
  |_,_=>none
  else none
 |_,_=>none
def evalClear (st:St) (t:TypeId) (x:AV):Option St:=
 match x,(T.elem t).bind T.ty with
 | .at (.own l off len),some e=>if e.flat=true/\mG e=true then match st.at l with
  |some (.arr fr _ e' tid xs)=>if h:e'=e/\T.elem t=some tid then
    some (st.Ju l (.arr fr false e tid (Dv (h.1▸xs:List e.den) off (List.replicate len e.zero))))
   else none
  |_=>none
  else none
 |_,_=>none
def Mf (st:St) (t:TypeId):List (Nat×Operand)->List AC->Option (List AC)
 | [],cs=>some cs
 |(i,x)::r,cs=>
  match T.off t i with
  |some (o,u)=>match T.ty u with
   |some ρ=>match cellsOf ρ (st.ev x) with
    |some c=>if o+c.length<=cs.length then Mf st t r (Dv cs o c) else none
    |none=>none
   |none=>none
  |none=>none
def Xs (st:St) (t:TypeId) (parts:Array (Nat×Operand)):Option AV:=
 match T.ty t with
 |none=>none
 |some τ=>if τ.Aq then (Mf T st t parts.toList (zeroCells τ)).map .agg else none
def Dr (io:Bool) (k:Nat):Nat:=if io then 1000000000+k else 500000+k
def Jp (k:Nat):Nat:=600000+k
def Aat (dst:Nat) (k:Nat):Nat:=1000000*(dst+1)+k
def Tc:List (Option Nat)->List AC->List AV
 |none::s,a::as=> .at a::Tc s as
 |some n::s,as=> .agg (as.take n)::Tc s (as.drop n)
 |_,_=> []
def Ko:List (Option Nat)->List Value->List Value
 |none::s,u::us=>u::Ko s us
 |some n::s,us=> .agg (us.take n).toArray::Ko s (us.drop n)
 |_,_=> []
def ungroup:List (Option Nat)->List AV->Option (List AC)
 | [],[]=>some []
 |none::s, .at a::as=>(ungroup s as).map λr=>a::r
 |some n::s, .agg cs::as=>if cs.length=n then (ungroup s as).map λr=>cs++r else none
 |some n::s, .at (.data fr τ x)::as=>if τ.Aq=true/\(Sj fr τ x).length=n then (ungroup s as).map λr=>Sj fr τ x++r else none
 |_,_=>none
def kC (l:Nat):(c:CK)->c.den->Option OB
 | .Eu _,_=>none
 | .row e te,xs=>some (.arr false false e te xs)
 | .Hi e te,xs=>some (.Gt e te xs)
 | .part e te,x=>some (.arr false false e te x.1)
 | .Bm e te kp,xs=>some (.Bm e te xs none (if kp then some (l,List.length xs) else none))
def Ar2 (l:Nat):(c:CK)->c.den->AC
 | .Eu τ,x=> .data τ.flat τ x
 | .row _ _,xs=> .own l 0 (List.length xs)
 | .Hi _ _,xs=> .own l 0 (List.length xs)
 | .part _ _,x=> .own l x.2.1 x.2.2
 | .Bm _ _ _,xs=> .own l 0 (List.length xs)
def il {α:Type} (l:Nat):Option α->List (Nat×α)->List (Nat×α)
 |none,r=>r
 |some b,r=>(l,b)::r
def Zs:(k:Nat)->(cs:List (Bool×CK))->Ins.den cs->List (Nat×OB)
 |_,[],_=> []
 |k,p::r,x=>il (Dr p.1 k) (kC (Dr p.1 k) p.2 x.1) (Zs (k+1) r x.2)
def bP:(k:Nat)->(cs:List (Bool×CK))->Ins.den cs->List AC
 |_,[],_=> []
 |k,p::r,x=>Ar2 (Dr p.1 k) p.2 x.1::bP (k+1) r x.2
inductive Loc where
 |row (l:Nat)
 |sub (l i c:Nat)
 |view (l:Nat)
 deriving DecidableEq
def Loc.Wz:Loc->Nat
 | .row l=>l
 | .sub l _ _=>l
 | .view l=>l
def Loc.reads:Loc->Bool
 | .view _=>true
 |_=>false
def cf (st:St) (ls:List Nat):Bool:=ls.all λl=>match st.at l with|some (.var _ vs)=>vs.all (·.settled)|_=>false
def views (k:Nat) (ls:List Nat):List (Nat×Loc):=ls.map λl=>(Dr false k, .view l)
def Ls (st:St) (io:Bool) (k:Nat):(c:CK)->AC->Option (c.den×List (Nat×Loc))
 | .Eu τ, .own l off len=>(Dt st τ (.own l off len)).map λp=>(p.2,[(Dr false k, .view l)])
 | .Eu τ, .clo g Ec=>if cf st (Ec.map (·.1))&&!τ.Aq then (Js st τ (.clo g Ec)).map λp=>(p.2,views k (Ec.map (·.1))) else none
 | .Eu τ, .Hm l i=>if cf st [l]&&!τ.Aq then (Js st τ (.Hm l i)).map λp=>(p.2,views k [l]) else none
 | .Eu τ, .sub l i c=>(Dt st τ (.sub l i c)).map λp=>(p.2,[(Dr false k, .view l)])
 | .Eu τ,a=>if τ.flat||a.settled then (Dt st τ a).map λp=>(p.2,[]) else none
 | .row e te, .own l off len=>match st.at l with
  |some (.arr _ _ e' Rb xs)=>if h:e'=e/\Rb=te/\off=0/\len=xs.length then some ((h.1▸xs:List e.den),[(Dr io k, .row l)]) else none
  |_=>none
 | .row e _, .sub l i c=>match st.at l with
  |some (.Gt e' _ xs)=>if h:e'= .slice e/\e.flat=true/\io=true/\c=0 then xs[i]?.map λy=>((h.1▸y:(Ty.slice e).den),[(Dr io k, .sub l i c)]) else none
  |_=>none
 | .row _ _, .Ly=>some ([],[])
 | .Hi e te, .own l off len=>match st.at l with
  |some (.Gt e' Rb xs)=>if h:e'=e/\Rb=te/\off=0/\len=xs.length then some ((h.1▸xs:List e.den),[(Dr io k, .row l)]) else none
  |_=>none
 | .Hi e _, .sub l i c=>match st.at l with
  |some (.Gt e' _ xs)=>if h:e'= .slice e/\io=true/\c=0 then xs[i]?.map λy=>((h.1▸y:(Ty.slice e).den),[(Dr io k, .sub l i c)]) else none
  |_=>none
 | .Hi _ _, .Ly=>some ([],[])
 | .part e te, .own l off len=>match st.at l with
  |some (.arr _ _ e' Rb xs)=>if h:e'=e/\Rb=te/\e.flat=true/\io=true then some (((h.1▸xs:List e.den),off,len),[(Dr io k, .row l)]) else none
  |_=>none
 | .Bm e te _, .own l off len=>match st.at l with
  |some (.Bm e' Rb rows none _)=>if h:e'=e/\Rb=te/\off=0/\len=rows.length/\io=false then some ((h.1▸rows:List (List e.den)),[(Dr io k, .row l)]) else none
  |_=>none
 |_,_=>none
def fM (st:St):(k:Nat)->(cs:List (Bool×CK))->List AC->Option (Ins.den cs×List (Nat×Loc))
 |_,[],[]=>some ((),[])
 |k,p::r,a::as=>match Ls st p.1 k p.2 a,fM st (k+1) r as with
  |some (x,t1),some (y,t2)=>some ((x,y),t1++t2)
  |_,_=>none
 |_,_,_=>none
def ct (st:St):(c:CK)->c.den->AC->Option St
 | .row e _,ys, .own l _ len=>match st.at l with
  |some (.arr fr tr e' te xs)=>if h:e=e'/\List.length ys=len/\xs.length=len then some (st.Ju l (.arr (fr&&e'.flat) (tr&&e'.flat) e' te (h.1▸ys))) else none
  |_=>none
 | .Hi e _,ys, .own l _ len=>match st.at l with
  |some (.Gt e' te xs)=>if h:e=e'/\List.length ys=len/\xs.length=len then some (st.Ju l (.Gt e' te (h.1▸ys))) else none
  |_=>none
 | .row e _,ys, .sub l i _=>match st.at l with
  |some (.Gt e' te xs)=>if h: .slice e=e' then (match xs[i]? with
   |some y=>if List.length ys=List.length (h▸y:(Ty.slice e).den) then some (st.Ju l (.Gt e' te (xs.set i (h▸(ys:(Ty.slice e).den))))) else none
   |none=>none) else none
  |_=>none
 | .Hi e _,ys, .sub l i _=>match st.at l with
  |some (.Gt e' te xs)=>if h: .slice e=e' then (match xs[i]? with
   |some y=>if List.length ys=List.length (h▸y:(Ty.slice e).den) then some (st.Ju l (.Gt e' te (xs.set i (h▸(ys:(Ty.slice e).den))))) else none
   |none=>none) else none
  |_=>none
 |_,_, .Ly=>some st
 |_,_,_=>none
def OH (st:St) (e:Ty) (ys:List e.den):AC->Option St
 | .own l _ _=>match st.at l with
  |some (.arr fr tr e' te xs)=>if h:e=e'/\List.length ys=xs.length then some (st.Ju l (.arr fr tr e' te (h.1▸ys))) else none
  |_=>none
 |_=>none
def Ia:(cs:List (Bool×CK))->IOs.den cs->List AC->St->Option St
 | [],_,_,st=>some st
 |(true, .Eu _)::r,x,_::as,st=>Ia r x as st
 |(true, .row e te)::r,x,a::as,st=>match ct st (.row e te) x.1 a with
  |some st'=>Ia r x.2 as st'
  |none=>none
 |(true, .Hi e te)::r,x,a::as,st=>match ct st (.Hi e te) x.1 a with
  |some st'=>Ia r x.2 as st'
  |none=>none
 |(true, .part e _)::r,x,a::as,st=>match OH st e x.1 a with
  |some st'=>Ia r x.2 as st'
  |none=>none
 |(true, .Bm _ _ _)::r,x,_::as,st=>Ia r x as st
 |(false,_)::r,x,_::as,st=>Ia r x as st
 |_,_,_,_=>none
def Cq (dead part:List Nat) (c:AC):AC:=if c.refs.any (λl=>dead.contains l) then .undef else match c with
 | .sub l i c=>if part.contains l then .undef else .sub l i c
 | .Jv l i c=>if part.contains l then .undef else .Jv l i c
 |c=>c
def Xq:List (Nat×OB)->List Nat->List (Nat×OB)
 | [],_=> []
 |(k,b)::r,dead=>if dead.contains k then Xq r dead else (k,b)::Xq r dead
def St.cG (st:St) (dead part:List Nat):St:=let s:=st.Kr (Cq dead part); {s with heap:=Xq s.heap dead}
def Tu (st:St) (l j m:Nat) (e:Ty) (te:TypeId) (rows:List (List e.den)) (xs:List e.den) (kp:Option (Nat×Nat)):St:=
 (st.cG [m] [l]).Ju l (.Bm e te (rows.set j xs) none kp)
def bS (j:Nat):Option (Nat×Nat)->Option (Nat×Nat)
 |none=>none
 |some p=>some (p.1,min p.2 j)
def bK (st:St) (t:TypeId) (p v:AV):Option St:=
 match T.ty t,p with
 |some τ, .at (.Jv l i j)=>match settle st v with
  |some (v',st')=>match st'.at l,Fu st' τ v' with
   |some (.Bm e te rows none kp),some (_,x)=>if h:τ=e then some (st'.Ju l (.Bm e te (rows.set i ((rows.getD i []).set j (h▸x))) none kp)) else none
   |_,_=>none
  |none=>none
 |some τ, .at (.Jy l j)=>match st.at l,v with
  |some (.Bm e te rows out kp), .at (.own m off len)=>match st.at m with
   |some (.arr _ _ e' _ xs)=>if h:e'=e/\(Nat.blt l Bn&&(!Nat.beq m l&&!τ.Aq))=true/\off=0/\len=xs.length/\(out=none\/out=some j) then some (Tu st l j m e te rows (h.1▸xs) (bS j kp)) else none
   |_=>none
  |_,_=>none
 |_,_=>none
def RI (st:St):AV->Bool
 | .at (.Jv _ _ _)=>true
 | .at (.Jy l _)=>match st.at l with
  |some (.Bm _ _ _ _ _)=>true
  |_=>false
 |_=>false
def Pu (st:St) (t:TypeId) (p v:AV):Option St:=match RI st p with
 |true=>bK T st t p v
 |false=>Va T st t p v
def Qw (st:St) (k m:Nat) (b:OB):St:=let s:=st.cG [m,k] []; {s with heap:=Og s.heap k b}
def dR (t:TypeId):Option (TypeId×Ty):=(T.elem t).bind λte=>(T.RH te).map λe=>(te,e)
def Xv (st:St) (dst:Nat) (t:TypeId) (l c:AV):Option (AV×St):=
 match dR T t with
 |none=>bJ T st dst t l c
 |some (te,e)=>match l,c with
  | .at (.data _ (.int _) n), .at (.data _ (.int _) m)=>if inb n (Cr+1)=true/\n=m/\dst<Bn then some (.at (.own dst 0 n.toNat),Qw st dst dst (.Bm e te (List.replicate n.toNat []) none none)) else none
  |_,_=>none
def Iz (st:St) (dst:Nat) (t:TypeId) (len:Nat) (parts:Array (Nat×Operand)):Option (AV×St):=
 match dR T t with
 |none=>Mg T st dst t len parts
 |some (te,e)=>match parts.toList with
  | [(0,x)]=>match st.ev x with
   | .at (.own m off ln)=>match st.at m with
    |some (.arr _ _ e' _ xs)=>if h:e'=e/\(Nat.beq len 1&&(Nat.blt dst Bn&&Nat.blt m Bn))=true/\off=0/\ln=xs.length then some (.at (.own dst 0 1),Qw st dst m (.Bm e te [h.1▸xs] none none)) else none
    |_=>none
   |_=>none
  |_=>none
def Rh (st:St) (dst:Nat) (t:TypeId) (x y:Operand):Option (AV×St):=
 match dR T t with
 |none=>Rg T st dst t x y
 |some (te,e)=>match st.ev x,st.ev y with
  | .at (.own l off len), .at (.own m Aav ug)=>match st.at l,st.at m with
   |some (.Bm e1 te1 A none _),some (.Bm e2 xk B none _)=>
    if h:(e1=e/\e2=e)/\(decide (te1=te)&&decide (xk=te)&&(Nat.blt l Bn&&(Nat.blt m Bn&&!Nat.beq m l)))=true/\(off=0/\len=A.length)/\(Aav=0/\ug=B.length)/\0<B.length/\A.length+B.length<=Cr then
     some (.at (.own l 0 (A.length+B.length)),Qw st l m (.Bm e te ((h.1.1▸A:List (List e.den))++(h.1.2▸B:List (List e.den))) none none))
    else none
   |_,_=>none
  |_,_=>none
def wG (fr:Bool):(c:CK)->c.den->Option OB
 | .Eu _,_=>none
 | .row e te,xs=>some (.arr (fr&&e.flat) false e te xs)
 | .Hi e te,xs=>some (.Gt e te xs)
 | .part e te,x=>some (.arr (fr&&e.flat) false e te x.1)
 | .Bm e te _,xs=>some (.Bm e te xs none none)
def FW (H:List (Nat×OB)) (l:Nat):Option OB->List (Nat×OB)
 |some b=>Og H l b
 |none=>H
def Yd (fr:Bool) (key:Nat->Nat):(k:Nat)->(cs:List CK)->CKs.den cs->List (Nat×OB)->List (Nat×OB)
 |_,[],_,H=>H
 |k,c::r,x,H=>Yd fr key (k+1) r x.2 (FW H (key k) (wG fr c x.1))
def bX (key:Nat->Nat):(k:Nat)->(cs:List CK)->CKs.den cs->List AC
 |_,[],_=> []
 |k,c::r,x=>(match c,x.1 with
  | .Eu τ,y=> .data τ.flat τ y
  | .row _ _,xs=> .own (key k) 0 (List.length xs)
  | .Hi _ _,xs=> .own (key k) 0 (List.length xs)
  | .Bm _ _ _,xs=> .own (key k) 0 (List.length xs)
  | .part _ _,_=> .undef)::bX key (k+1) r x.2
def ar:List (Option Nat)->List AC->List (Bool×List AC)
 |none::s,a::as=>(false,[a])::ar s as
 |some n::s,as=>(true,as.take n)::ar s (as.drop n)
 |_,_=> []
def Aow (Gy:Bool) (sh:List (Option Nat)) (as:List AC):Option AV:=
 if Gy then some (.Mq (ar sh as)) else match Tc sh as with
  | [v]=>some v
  | []=>some .undef
  |_=>none
def mZ (tks:List (Nat×Loc)):List Nat:=(tks.filter λt=>Nat.blt t.1 Bn&&!t.2.reads).map λt=>t.2.Wz
def whole (tks:List (Nat×Loc)):List Nat:=tks.flatMap λt=>match t.2 with| .row l=> [l]|_=> []
def CT (tks:List (Nat×Loc)):List Nat:=(tks.filter λt=>t.2.reads).map λt=>t.2.Wz
def GH (ins:List (Bool×CK)) (te:TypeId) (used:List Nat):List (Nat×Loc)->Option Nat
 | []=>none
 |(k, .row l)::r=>if Nat.blt k Bn&&(!used.contains l&&(match ins[k-500000]? with
   |some (false, .row _ Rb)=>decide (Rb=te)
   |some (false, .Hi _ Rb)=>decide (Rb=te)
   |some (false, .Bm _ Rb _)=>decide (Rb=te)
   |_=>false)) then some l else GH ins te used r
 |_::r=>GH ins te used r
def MY (ins:List (Bool×CK)) (tks:List (Nat×Loc)) (d:Nat):(k:Nat)->(used:List Nat)->List CK->List Nat
 |_,_,[]=> []
 |k,used,c::r=>match (match c with
   | .row _ te=>GH ins te used tks
   | .Hi _ te=>GH ins te used tks
   | .Bm _ te _=>GH ins te used tks
   |_=>none) with
  |some l=>l::MY ins tks d (k+1) (l::used) r
  |none=>Aat d k::MY ins tks d (k+1) used r
def mT (s:MSpec) (tks:List (Nat×Loc)) (d:Nat):List Nat:=MY s.ins tks d 0 [] s.outs
def Ea (ks:List Nat) (j:Nat):Nat:=match ks[j]? with
 |some l=>l
 |none=>Bn+j
def zT (ks:List Nat) (n:Nat):Bool:=Nat.beq ks.length n&&(aq ks&&ks.all λl=>Nat.blt l Bn)
def RD (st:St) (l:List Nat):Bool:=l.all λk=>match st.at k with|some (.arr fr _ _ _ _)=>fr|_=>false
def SJ (st:St) (s:MSpec) (args:List AV):Option (List Nat×List AC×List AV):=
 match s.ptr with
 |none=>some ([],[],args)
 |some p=>match args with
  | .at (.Hm l i)::rest=>match st.at l with
   |some (.var tid vs)=>if tid=p.1/\vs.length=p.2/\i=0 then some ([l],vs,rest) else none
   |_=>none
  |_=>none
def We:List (Bool×CK)->List AC->Bool
 |(true, .row _ _)::r, .own _ _ _::as=>We r as
 |(true, .Hi _ _)::r, .own _ _ _::as=>We r as
 |(true,_)::_,_::_=>false
 |(false,_)::r,_::as=>We r as
 |_,as=>as.isEmpty
def gy {α:Type} :List (Bool×CK)->List α->List α->List α
 |(true,_)::r,v::vs,as=>v::gy r vs as
 |(false,_)::r,_::vs,a::as=>a::gy r vs as
 |_,vs,_=>vs
def uP:List (Bool×CK)->Nat->Nat
 |(true,_)::r,n+1=>uP r n
 |(false,_)::r,n+1=>uP r n+1
 |_,_=>0
def MSpec.Zv (s:MSpec):Nat:=match s.ptr with|none=>0|some p=>uP s.ins p.2
def rV (ins:List (Bool×CK)) (as:List AC) (pl:List Nat) (st:St):St:=
 match pl with
 | []=>st
 |l::_=>match st.at l with
  |some (.var tid vs)=>st.Ju l (.var tid (gy ins vs as))
  |_=>st
def Tm (d:Nat):Nat:=Aat d 999
def mn (s:MSpec) (d:Nat):List Nat:=match s.rp with|none=> []|some _=> [Tm d]
def Si (s:MSpec) (tks:List (Nat×Loc)) (d:Nat):List Nat:=mT s tks d++mn s d
def nF (H:List (Nat×OB)) (l:Nat):Bool:=match Au H l with
 |some (.Bm _ _ _ _ _)=>true
 |_=>false
def bR (H:List (Nat×OB)) (ks:List Nat) (tks:List (Nat×Loc)):List (Nat×Nat)->List Nat
 | []=> []
 |(k,j)::r=>match tks.find? (λt=>Nat.beq t.1 (Dr false k)),ks[j]? with
  |some (_, .row l),some l'=>if Nat.beq l' l&&nF H l then l::bR H ks tks r else bR H ks tks r
  |_,_=>bR H ks tks r
def sx (H:List (Nat×OB)) (l:Nat):Nat:=match Au H l with
 |some (.Bm _ _ rows _ _)=>rows.length
 |_=>0
def dy (H:List (Nat×OB)) (ls:List Nat) (n:Nat):List AV->Bool
 | []=>true
 | .at (.sub l i _)::r=>(!ls.contains l||(Nat.blt i n&&Nat.blt i (sx H l)))&&dy H ls n r
 |_::r=>dy H ls n r
def Li (ls:List Nat):List AV->List AV->List AV
 | .at (.sub l i c)::r,v::vs=>(if ls.contains l then .at (.sub l i c) else v)::Li ls r vs
 |_::r,v::vs=>v::Li ls r vs
 |_,vs=>vs
def Ajo:Option OB->Option (Nat×Nat)
 |some (.Bm _ _ _ _ kp)=>kp
 |_=>none
def OB.IG (b:OB) (kp:Option (Nat×Nat)):OB:=match b with
 | .Bm e te rows out _=> .Bm e te rows out kp
 |b=>b
def dp (H0:List (Nat×OB)) (ls:List Nat) (n:Nat):List (Nat×OB)->List (Nat×OB)
 | []=> []
 |(l,b)::r=>(l,if ls.contains l then b.IG (bS n (Ajo (Au H0 l))) else b)::dp H0 ls n r
def m8 (ck st:St) (ls:List Nat) (n:Nat):St:=match ls with
 | []=>st
 |_=> {tmps:=Li ls ck.tmps st.tmps,heap:=dp ck.heap ls n st.heap}
def Af1 (s:MSpec) (d:Nat) (as:List AC):Option AV:=match s.rp with
 |none=>Aow s.Gy s.Hz as
 |some _=>some (.at (.Hm (Tm d) 0))
def lM (st st1:St) (d:Nat) (s:MSpec) (pl:List Nat) (tks:List (Nat×Loc)) (r:CKs.den s.outs):St:=
 let ks:=Si s tks d
 let key:=Ea ks
 let st2:=rV s.ins (bX key 0 s.outs r) pl (st1.cG (mZ tks++ks++(if s.flat then [] else CT tks)) (whole tks))
 {st2 with heap:=Yd (RD st (mZ tks)) key 0 s.outs r (FW st2.heap (Tm d) (s.rp.map λtid=> .var tid ((bX key 0 s.outs r).drop s.Zv)))}
def Xt (st:St) (dst:Option Nat) (s:MSpec) (args:List AV):Option (AV×St):=
 match SJ st s args with
 |none=>none
 |some (pl,vs,rest)=>match ungroup s.Je rest with
 |none=>none
 |some oM=>match fM st 0 s.ins (vs++oM) with
  |none=>none
  |some (x,tks)=>if aq (tks.map λt=>t.2.Wz)&&zT (Si s tks (dst.getD 0)) (s.outs.length+(mn s (dst.getD 0)).length)&&Nat.blt s.outs.length 1000&&Nat.blt s.ins.length 1000&&(We s.ins vs&&pl.all λl=>!((tks.map λt=>t.2.Wz)++Si s tks (dst.getD 0)).contains l) then match s.fn x with
   |none=>none
   |some (r,o)=>match Ia s.ins o (vs++oM) st with
    |none=>none
    |some st1=>match Af1 s (dst.getD 0) ((bX (Ea (Si s tks (dst.getD 0))) 0 s.outs r).drop s.Zv) with
     |none=>none
     |some v=>if dy (lM st st1 (dst.getD 0) s pl tks r).heap (bR st.heap (Si s tks (dst.getD 0)) tks s.keeps) (s.Ez x) st.tmps=true then
       some (v,m8 st (lM st st1 (dst.getD 0) s pl tks r) (bR st.heap (Si s tks (dst.getD 0)) tks s.keeps) (s.Ez x)) else none
   else none
def Ox:List Operand->St->Option St
 | [],st=>some st
 |x::r,st=>match settle st (st.ev x) with
  |some (_,st')=>Ox r st'
  |none=>none
def fh (s:Spec) (args:List AV):Bool:=!(s.fresh||s.res.flat||args.all (·.settled))
def evalOp (Γ:Env) (st:St) (o:Oper):Option (AV×St):=
 match o.op with
 | .assign x=>match st.ev x,o.dst,(T.elem o.type).bind λte=>(T.ty te).map λe=>(te,e) with
  | .at .Ly,some d,some (te,e)=>if d<Bn then some (.at (.own d 0 0),st.new d (.arr (T.tH||e.flat) T.CO e te [])) else none
  |v,_,_=>some (v,st)
 | .alloc t=>match o.dst,T.ty t with
  |some d,some τ=>mkVar T st d t τ (zeroCells τ)
  |_,_=>none
 | .box t x=>match o.dst,T.ty t with
  |some d,some τ=>match cellsOf τ (st.ev x) with
   |some cs=>mkVar T st d t τ cs
   |none=>none
  |_,_=>none
 | .store t p x=>(Pu T st t (st.ev p) (st.ev x)).map λs=>(.undef,s)
 | .makeSlice t l c=>match o.dst with
  |some d=>Xv T st d t (st.ev l) (st.ev c)
  |none=>none
 | .makeMap t none=>match o.dst with
  |some d=>Uz T st d t
  |none=>none
 | .mapUpdate t m k x=>(Jd T st t (st.ev m) (st.ev k) (st.ev x)).map λs=>(.undef,s)
 | .insert t m k x=>(Jd T st t (st.ev m) (st.ev k) (st.ev x)).map λs=>(.undef,s)
 | .buildSlice t len parts=>match o.dst with
  |some d=>Iz T st d t len parts
  |none=>none
 | .build t parts=>(Xs T st t parts).map λv=>(v,st)
 | .call {callee:= .builtin .append,args,argTypes} =>match o.dst,args.toList,argTypes.toList with
  |some d,[x,y],[t,t']=>if t=t' then Rh T st d t x y else none
  |_,_,_=>none
 | .call {callee:= .builtin .copy,args,argTypes} =>match args.toList,argTypes.toList with
  | [x,y],[t,t']=>iw T st t t' (st.ev x) (st.ev y)
  |_,_=>none
 | .call {callee:= .builtin .clear,args,argTypes} =>match args.toList,argTypes.toList with
  | [x],[t]=>(evalClear T st t (st.ev x)).map λs=>(.undef,s)
  |_,_=>none
 | .call {callee:= .value (.func f),args, .. } =>match Γ f with
  |some (.m s)=>Xt st o.dst s (args.toList.map st.ev)
  |some (.q s)=>if fh s (args.toList.map st.ev) then (match Ox args.toList st with
   |some st1=>(Ey T Γ st1 o).map λv=>(v,st1)
   |none=>none) else (Ey T Γ st o).map λv=>(v,st)
  |_=>(Ey T Γ st o).map λv=>(v,st)
 |_=>(Ey T Γ st o).map λv=>(v,st)
def fk (e:Ty):Nat->List (Nat×Operand)->St->Option (Bool×List e.den)
 |_,[],_=>some (true,[])
 |i,(j,x)::r,st=>
  if i=j/\(st.ev x).settled=true then match Fu st e (st.ev x),fk e (i+1) r st with
   |some (fr,y),some (Wb,ys)=>some (fr&&Wb,y::ys)
   |_,_=>none
  else none
def bI (st:St) (t:TypeId) (len:Nat) (parts:Array (Nat×Operand)):Option AV:=
 match T.elem t with
 |none=>none
 |some te=>match T.ty te with
  |none=>none
  |some e=>if parts.size=len/\len<=64/\e.size<=64 then (fk e 0 parts.toList st).map λp=> .at (.data p.1 (.slice e) p.2) else none
def Xg (Γ:Env) (st:St) (o:Oper):Option AV:=
 match o.op with
 | .buildSlice t len parts=>bI T st t len parts
 | .build t parts=>Xs T st t parts
 |_=>Ey T Γ st o
def Aaj (q:Bool) (Γ:Env) (o:Oper):Bool:=
 match o.op with
 | .buildSlice _ _ _| .build _ _=>!q
 | .alloc _| .box _ _| .store _ _ _| .makeSlice _ _ _| .makeMap _ _| .mapUpdate _ _ _ _| .insert _ _ _ _=>true
 | .assign (.const _)=>true
 | .call {callee:= .builtin .append, .. } =>true
 | .call {callee:= .builtin .copy, .. } =>true
 | .call {callee:= .builtin .clear, .. } =>true
 | .call {callee:= .value (.func f), .. } =>match Γ f with
  |some (.m _)=>true
  |_=>false
 |_=>false
def Eo (Γ:Env) (ops:Array Oper) (st:St) (o:Oper):Option St:=
 match o.guard with
 |none=>(evalOp T Γ st o).map λr=>r.2.put o.dst r.1
 |some (j,want)=>match Xn st ((ops[j]?).bind (·.dst)) with
  |some (some b)=>if b==want then (evalOp T Γ st o).map λr=>r.2.put o.dst r.1 else some (st.put o.dst (.at .skip))
  |some none=>some (st.put o.dst (.at .skip))
  |none=>none
def aQ (Γ:Env) (ops:Array Oper):List Oper->St->Option St
 | [],st=>some st
 |o::r,st=>match Eo T Γ ops st o with
  |some st'=>aQ Γ ops r st'
  |none=>none
def Jj (q:Bool) (Γ:Env) (ops:Array Oper):List Nat:=
 (List.range ops.size).foldl (init:= []) λacc i=>match ops[i]? with
  |some o=>if Aaj q Γ o||o.after.any (λe=>Region.binds .any e&&acc.contains e.on) then acc++ [i] else acc
  |none=>acc
def cJ (q:Bool) (Γ:Env) (ops:Array Oper):List Nat:=(List.range ops.size).filter λi=>!(Jj q Γ ops).contains i
def nE (ops:Array Oper) (hd tl:List Nat) (i:Nat):Bool:=
 match ops[i]? with
 |some o=>(match o.op,o.guard with
  | .move (.tmp _),none=>true
  |_,_=>false)&&!((tl.take 1++hd).any λj=>decide (i<j)&&Region.waitsFor .any ops j i)
 |none=>false
def Wa (q:Bool) (Γ:Env) (ops:Array Oper):List Nat:=(cJ q Γ ops).filter λi=>nE ops (cJ q Γ ops) (Jj q Γ ops) i
def Wc (q:Bool) (Γ:Env) (ops:Array Oper):List Nat:=(cJ q Γ ops).filter λi=>!nE ops (cJ q Γ ops) (Jj q Γ ops) i
def jR (q:Bool) (Γ:Env) (ops:Array Oper):List Nat:=Wa q Γ ops++Wc q Γ ops
def Aaa (ops:Array Oper) (i:Nat):Bool:=match ops[i]? with
 |some o=>(match o.op,o.guard with
  | .extract _ _,none=>true
  |_,_=>false)
 |none=>false
def o9 (ops:Array Oper):List Nat->Array Bool->Bool
 | [],Ah=>(Region.ready .any ops Ah).isEmpty
 |k::r,Ah=>(decide (Region.ready .any ops Ah= [k])||(Aaa ops k&&((Region.ready .any ops Ah).contains k&&Region.free .any ops Ah k)))&&o9 ops r (Ah.setIfInBounds k true)
def pn (ops:Array Oper) (tl:List Nat):List Nat->Array Bool->Bool
 | [],Ah=>o9 ops tl Ah
 |k::r,Ah=>(Region.ready .any ops Ah).contains k&&Region.free .any ops Ah k&&pn ops tl r (Ah.setIfInBounds k true)
def v7 (ops:Array Oper) (hd:List Nat):List Nat->Bool
 | []=>true
 |f::r=>(hd.all λi=>(f::hd).any λj=>decide (i<j)&&Region.waitsFor .any ops j i)&&r.all λt=>(f::r).any λk=>Region.waitsFor .any ops t k
def np (ops:Array Oper) (tl hd:List Nat):List Nat->Array Bool->Bool
 | [],Ah=>pn ops tl hd Ah
 |k::r,Ah=>(Region.ready .any ops Ah).contains k&&Region.free .any ops Ah k&&np ops tl hd r (Ah.setIfInBounds k true)
def kd (q:Bool) (Γ:Env) (ops:Array Oper):Bool:=
 Region.noSelect ops&&((Wa q Γ ops).length+((Wc q Γ ops).length+(Jj q Γ ops).length)==ops.size)&&np ops (Jj q Γ ops) (Wc q Γ ops) (Wa q Γ ops) (Array.replicate ops.size false)&&v7 ops (Wc q Γ ops) (Jj q Γ ops)
def Xd (Γ:Env) (ops:Array Oper) (st:St) (o:Oper):Option AV:=
 match o.guard with
 |none=>Xg T Γ st o
 |some (j,want)=>match Xn st ((ops[j]?).bind (·.dst)) with
  |some (some b)=>if b==want then Xg T Γ st o else some (.at .skip)
  |some none=>some (.at .skip)
  |none=>none
def Fz (Γ:Env) (ops:Array Oper):List Nat->St->Option St
 | [],st=>some st
 |i::r,st=>match ops[i]? with
  |none=>none
  |some o=>match Xd T Γ ops st o with
   |some v=>Fz Γ ops r (st.put o.dst v)
   |none=>none
def Ms (Γ:Env) (ops:Array Oper):List Nat->St->Option St
 | [],st=>some st
 |i::r,st=>match ops[i]? with
  |none=>none
  |some o=>match Eo T Γ ops st o with
   |some st'=>Ms Γ ops r st'
   |none=>none
def Rj (Γ:Env) (ops:Array Oper) (draw:Bool) (st:St):Option St:=
 if draw then (if kd false Γ ops then (match Fz T Γ ops (jR false Γ ops) st with
  |some st'=>Ms T Γ ops (Jj false Γ ops) st'
  |none=>none) else if kd true Γ ops then (match Fz T Γ ops (jR true Γ ops) st with
  |some st'=>Ms T Γ ops (Jj true Γ ops) st'
  |none=>none) else none)
 else aQ T Γ ops ops.toList st
def zN (ops:Array Oper) (i:Nat):Bool:=match ops[i]? with
 |some o=>(match o.op,o.guard with
  | .move (.tmp _),none=>true
  |_,_=>false)
 |none=>false
def jY (ops:Array Oper) (i:Nat):Bool:=match ops[i]? with
 |some o=>(match o.op,o.guard with
  | .move (.tmp _),none=>true
  | .nilCheck _,none=>true
  | .fieldAddr _ _ _,none=>true
  |_,_=>false)
 |none=>false
def Ap4 (q:Bool) (ops:Array Oper) (i:Nat):Bool:=match q with
 |true=>jY ops i
 |false=>zN ops i
def Jh (q:Bool) (ops:Array Oper):List Nat->Array Bool->List Nat
 | [],_=> []
 |i::r,Ah=>if Ap4 q ops i&&((Region.ready .any ops Ah).contains i&&Region.free .any ops Ah i) then i::Jh q ops r (Ah.setIfInBounds i true) else Jh q ops r Ah
def Aap (q:Bool) (ops:Array Oper):List Nat:=Jh q ops (List.range ops.size) (Array.replicate ops.size false)
def jN (q:Bool) (ops:Array Oper):Bool:=Nat.ble (ops.size-(Aap q ops).length) 8
def Na (ops:Array Oper):List Nat:=Aap (!jN false ops) ops
def Fm:List Nat->Array Bool->Array Bool
 | [],Ah=>Ah
 |i::r,Ah=>Fm r (Ah.setIfInBounds i true)
def anyS (Γ:Env) (ops:Array Oper) (K:St->Prop):Nat->Array Bool->St->Prop
 |0,Ah,st=>Region.ready .any ops Ah= []/\K st
 |f+1,Ah,st=>Region.ready .any ops Ah≠ []/\ ∀i∈Region.ready .any ops Ah,∃o st',ops[i]?=some o/\Eo T Γ ops st o=some st'/\anyS Γ ops K f (Ah.setIfInBounds i true) st'
def jZ (ops:Array Oper) (i:Nat):Bool:=match ops[i]? with
 |some o=>(match o.op,o.guard with
  | .move _,none=>true
  | .load _ _,none=>true
  | .indexAddr _ _ _,none=>true
  | .fieldAddr _ _ _,none=>true
  |_,_=>false)
 |none=>false
def pJ (ops:Array Oper):List Nat->Array Bool->List Nat
 | [],_=> []
 |i::r,Ah=>if jZ ops i&&((Region.ready .any ops Ah).contains i&&Region.free .any ops Ah i) then i::pJ ops r (Ah.setIfInBounds i true) else pJ ops r Ah
def qg (ops:Array Oper) (i j:Nat) (p:Oper->Oper->Bool):Bool:=match ops[i]?,ops[j]? with
 |some x,some y=>p x y
 |_,_=>false
def oJ (ops:Array Oper) (x y:Oper):Bool:=match x.dst with
 |some d=>!(y.looksAt ops).contains d
 |none=>true
def LU (x y:Oper):Bool:=match x.dst with
 |some d=>y.dst !=some d
 |none=>true
def jb (ops:Array Oper):List Nat->Array Bool->Bool
 | [],_=>true
 |r::E,Ah=>(Region.ready .any ops Ah).contains r&&jb ops E (Ah.setIfInBounds r true)
def AS (ops:Array Oper):List Nat->Bool
 | []=>true
 |r::E=>(qg ops r r (oJ ops)&&E.all λq=>qg ops r q (λx y=>LU x y&&oJ ops y x)&&(Region.waitsFor .any ops q r||qg ops r q (oJ ops)))&&AS ops E
def Adf (ops:Array Oper) (E:List Nat) (L0:Array Bool):Bool:=E.all λr=>(List.range ops.size).all λj=>E.contains j||L0.getD j false||Region.waitsFor .any ops j r||qg ops r j (λx y=>x.apart ops y)
def kf (ops:Array Oper) (E:List Nat) (L0:Array Bool):Bool:=(E.all (jZ ops)&&jb ops E L0)&&(AS ops E&&Adf ops E L0)
def sM (ops:Array Oper) (E:List Nat) (Ah:Array Bool) (r:Nat):Bool:=(List.range ops.size).any λj=>!E.contains j&&(Ah.getD j false&&Region.waitsFor .any ops j r)
def Abl (Γ:Env) (ops:Array Oper) (E:List Nat) (Ah:Array Bool) (st:St):Prop:=
 ∀r∈E,sM ops E Ah r=true\/ ∃o v,ops[r]?=some o/\Xd T Γ ops st o=some v/\ ∀d,o.dst=some d->st.get d=v
def wb (Γ:Env) (ops:Array Oper) (E:List Nat) (K:St->Prop):Nat->Array Bool->St->Prop
 |0,Ah,st=>Abl T Γ ops E Ah st/\Region.ready .any ops Ah= []/\K st
 |f+1,Ah,st=>Abl T Γ ops E Ah st/\Region.ready .any ops Ah≠ []/\ ∀i∈Region.ready .any ops Ah,∃o st',ops[i]?=some o/\Eo T Γ ops st o=some st'/\wb Γ ops E K f (Ah.setIfInBounds i true) st'
def Ahv (Γ:Env) (ops:Array Oper) (K:St->Prop) (n:Nat) (L0:Array Bool) (ck:St):Prop:=
 ∃E st1,kf ops E L0=true/\E.length<=n/\Fz T Γ ops E ck=some st1/\wb T Γ ops E K (n-E.length) (Fm E L0) st1
def za (Γ:Env) (ops:Array Oper) (draw:Bool) (st:St) (K:St->Prop):Prop:=
 (∃st',Rj T Γ ops draw st=some st'/\K st')\/
 (draw=true/\Region.noSelect ops=true/\ ∃ck,Fz T Γ ops (Na ops) st=some ck/\
  (anyS T Γ ops K (ops.size-(Na ops).length) (Fm (Na ops) (Array.replicate ops.size false)) ck\/Ahv T Γ ops K (ops.size-(Na ops).length) (Fm (Na ops) (Array.replicate ops.size false)) ck))
def BC (Γ:Env) (draw:Bool):Env:= λf=>match Γ f with
 |some (.b s m)=>some (if draw then .q s else .m m)
 |r=>r
inductive Le where
 |normal
 |exit (id:Nat)
 |ret
def Kc (live:List Nat):Nat->List AV->List AV
 |_,[]=> []
 |i,v::r=>(if live.contains i then v else .undef)::Kc live (i+1) r
def AV.refs:AV->List Nat
 | .at a=>a.refs
 | .agg cs=>cs.flatMap AC.refs
 | .bz _ _ _=> []
 | .Mq l=>l.flatMap λp=>p.2.flatMap AC.refs
def OB.refs:OB->List Nat
 | .var _ vs=>vs.flatMap AC.refs
 |_=> []
def dP:List Nat->St->St
 | [],st=>st
 |l::r,st=>dP r (st.forget l)
def pL (l k m:Nat):Nat:=if m=l then k else m
def Vj (l k:Nat):AC->AC
 | .own m off len=> .own (pL l k m) off len
 | .Hm m i=> .Hm (pL l k m) i
 | .Jy m i=> .Jy (pL l k m) i
 | .clo f Ec=> .clo f (Ec.map λp=>(pL l k p.1,p.2))
 | .Kg m=> .Kg (pL l k m)
 | .sub m i c=> .sub (pL l k m) i c
 | .Jv m i c=> .Jv (pL l k m) i c
 |a=>a
def St.rename (l k:Nat) (st:St):St:=
 match Au st.heap k,Au st.heap l with
 |none,some b=>if (Nat.blt l Bn&&Nat.blt k Bn)=true then
   (let s:=st.Kr (Vj l k); {s with heap:=Og (aF s.heap l) k (b.map (Vj l k))}) else st
 |_,_=>st
def Mm:Nat->Nat->St->St
 |0,_,st=>st
 |n+1,t,st=>Mm n (t+1) (match st.get t with
  | .at (.own l _ _)=>match Au st.heap l with
   |some (.arr _ _ _ _ _)=>if (st.tmps.take t).any (λv=>v.refs.contains l) then st else st.rename l (700000+t)
   |_=>st
  |_=>st)
def cQ:Nat:=1000000007
def AC.Ahm (flat:Bool):AC->AC
 | .data fr τ x=> .data (fr&&!(flat&&τ.flat)) τ x
 |c=>c
def OB.Ip (flat all one:Bool):OB->OB
 | .arr fr tr e tid xs=> .arr (fr&&!(all||(one||(flat&&e.flat)))) (tr&&!all) e tid xs
 | .var tid vs=> .var tid (vs.map (AC.Ahm flat))
 |b=>b
def Ub:Nat:=1000000009
def aa:Nat:=1100000000
def jI:Nat:=1200000000
def St.Ip (live:List Nat) (st:St):St:= {st with heap:=st.heap.map λp=>(p.1,p.2.Ip (live.contains Ub) (live.contains (aa+p.1)) (live.contains (jI+p.1)))}
def Rv:Nat:=900000000
def bY (t:Nat) (st:St):St:=match st.get t with
 | .at (.own l off len)=>match Au st.heap l with
  |some (.arr fr tr e tid xs)=>if Nat.blt l Bn=true then (st.new l (.arr fr tr e tid ((xs.drop off).take len))).put (some t) (.at (.own l 0 ((xs.drop off).take len).length)) else st
  |_=>st
 |_=>st
def Oz:Nat:=1900000000
def mV:Nat:=950000000
def Qa (c:Nat) (st:St):St:=match Au st.heap Oz with
 |some (.var _ vs)=>match vs[c]? with
  |some (.own l off len)=>match Au st.heap l with
   |some (.arr fr tr e te xs)=>if Nat.blt l Bn=true then match Au (st.new l (.arr fr tr e te ((xs.drop off).take len))).heap Oz with
     |some (.var tid vs')=>(st.new l (.arr fr tr e te ((xs.drop off).take len))).Ju Oz (.var tid (vs'.set c (.own l 0 ((xs.drop off).take len).length)))
     |_=>st
    else st
   |_=>st
  |_=>st
 |_=>st
def Pp (live:List Nat):Nat->Nat->St->St
 |0,_,st=>st
 |n+1,c,st=>Pp live n (c+1) (if live.contains (mV+c) then Qa c st else st)
def Ow (live:List Nat):Nat->Nat->St->St
 |0,_,st=>Pp live 16 0 st
 |n+1,t,st=>Ow live n (t+1) (if live.contains (Rv+t) then bY t st else st)
def St.clean (live:List Nat) (st:St):St:=
 let s:St:= {st with tmps:=Kc live 0 st.tmps}
 let r1:=s.tmps.flatMap AV.refs
 let r2:=r1++(s.heap.filter λp=>r1.contains p.1).flatMap λp=>p.2.refs
 let s2:=dP ((s.heap.map (·.1)).filter λl=>!r2.contains l&&Nat.blt l Bn) s
 let s2:=if live.any (λt=>Nat.ble Rv t&&Nat.blt t cQ) then Ow live s2.tmps.length 0 s2 else s2
 let s3:=if live.contains cQ then Mm s2.tmps.length 0 s2 else s2
 if live.any (λt=>Nat.ble Ub t) then s3.Ip live else s3
def Ep:Code->Nat
 | .region id _ _=>id
 | .seq a _=>Ep a
 | .cond _ a _=>Ep a
 | .block _ c=>Ep c
 | .loop c=>1000+Ep c
 |_=>0
def Aht (a b:List Nat):List Nat:=a++b.filter λt=>!a.contains t
def zY:List Oper->List Nat->List Nat
 | [],out=>out
 |o::r,out=>Aht (o.op.operands.toList.filterMap λ | .tmp t=>some t|_=>none) (match o.dst with|some d=>(zY r out).filter (·!=d)|none=>zY r out)
def LV:List (Nat×List Nat)->Nat->List Nat
 | [],_=> []
 |(k,l)::r,id=>if k=id then l else LV r id
def qM:Code->List (Nat×List Nat)->List Nat->List Nat->List Nat×List (Nat×List Nat)
 | .region _ ops _,_,_,out=>(zY ops.toList out,[])
 | .seq a b,env,ret,out=>let rb:=qM b env ret out;let ra:=qM a env ret rb.1;(ra.1,ra.2++rb.2)
 | .cond c a b,env,ret,out=>let ra:=qM a env ret out;let rb:=qM b env ret out
  (Aht (match c with| .tmp t=> [t]|_=> []) (Aht ra.1 rb.1),ra.2++rb.2)
 | .block id c,env,ret,out=>qM c ((id,out)::env) ret out
 | .exit id,env,_,_=>(LV env id,[])
 | .ret,_,ret,_=>(ret,[])
 | .loop c,env,ret,_=>let l:=(qM c env ret []).1;let r:=qM c env ret l;(l,(Ep c,l)::r.2)
 |_,_,_,out=>(out,[])
def zZ:List ResultVar->List Nat
 | []=> []
 | .tmp t::r=>t::zZ r
 | .cell p _::r=>p::zZ r
def zX (marks:List Nat) (fn:Func) (c:Code):Nat->List Nat:=let ret:=zZ fn.results.toList;let g:=LV (qM c [] ret ret).2;match marks with
 | []=>g
 |m=> λid=>g id++m
def NP (K:St->Prop) (Q:Le->St->Prop):Le->St->Prop
 | .normal,s=>K s
 |e,s=>Q e s
def yf (id:Nat) (Q:Le->St->Prop):Le->St->Prop
 | .exit UD,s=>if UD=id then Q .normal s else Q (.exit UD) s
 |e,s=>Q e s
def Abc (ops:Array Oper) (t:Nat):Bool:=ops.toList.any λo=>match o.op with
 | .extract (.tmp s) _=>Nat.beq s t
 | .move (.tmp s)=>Nat.beq s t
 | .assign (.tmp s)=>Nat.beq s t
 |_=>false
def Oq (ops:Array Oper):Nat->List AV->List AV
 |_,[]=> []
 |i, .Mq l::r=>(if Abc ops i=true then .Mq l else .undef)::Oq ops (i+1) r
 |i,v::r=>v::Oq ops (i+1) r
def St.mY (ops:Array Oper) (st:St):St:= {st with tmps:=Oq ops 0 st.tmps}
inductive Of (Γ:Env) (live:Nat->List Nat):Code->St->(Le->St->Prop)->Prop where
 |skip {st:St} {Q:Le->St->Prop} :Q .normal st->Of Γ live .skip st Q
 |label {l:Nat} {st:St} {Q:Le->St->Prop} :Q .normal st->Of Γ live (.label l) st Q
 |exit {id:Nat} {st:St} {Q:Le->St->Prop} :Q (.exit id) st->Of Γ live (.exit id) st Q
 |ret {st:St} {Q:Le->St->Prop} :Q .ret st->Of Γ live .ret st Q
 |region {id:Nat} {ops:Array Oper} {draw:Bool} {st:St} {Q:Le->St->Prop} :za T (BC Γ draw) ops draw (st.mY ops) (Q .normal)->Of Γ live (.region id ops draw) st Q
 |seq {x y:Code} {st:St} {Q:Le->St->Prop} (Q1:Le->St->Prop):Of Γ live x st Q1->(∀s,Q1 .normal s->Of Γ live y s Q)->(∀e s,e≠ .normal->Q1 e s->Q e s)->Of Γ live (.seq x y) st Q
 |cond {c:Operand} {x y:Code} {st:St} {fr t:Bool} {Q:Le->St->Prop} :st.ev c= .at (.data fr .bool t)->(t=true->Of Γ live x st Q)->(t=false->Of Γ live y st Q)->Of Γ live (.cond c x y) st Q
 |block {id:Nat} {c:Code} {st:St} {Q:Le->St->Prop} (Q1:Le->St->Prop):Of Γ live c st Q1->(∀e s,Q1 e s->yf id Q e s)->Of Γ live (.block id c) st Q
 |loop {c:Code} {st:St} {Q:Le->St->Prop} (Q1:Le->St->Prop):Of Γ live c (st.clean (live (Ep c))) Q1->(∀s,Q1 .normal s->Of Γ live (.loop c) s Q)->(∀e s,e≠ .normal->Q1 e s->Q e s)->Of Γ live (.loop c) st Q
def dw (st:St):List ResultVar->Option (List AV)
 | []=>some []
 | .tmp t::r=>(dw st r).map λl=>st.get t::l
 | .cell p t::r=>match Qd T st t (st.get p),dw st r with
  |some v,some l=>some (v::l)
  |_,_=>none
def nk (s:Spec) (fn:Func) (st:St):Option (Bool×s.res.den):=
 match dw T st fn.results.toList with
 |some [v]=>if s.Gy then none else Fu st s.res v
 |some [v,u]=>if s.Gy then Dw st s.res [v,u] else none
 |some [v,u,t]=>if s.Gy then Dw st s.res [v,u,t] else none
 |_=>none
def Sz:(τ:Ty)->τ.den->List AV
 | .pair a r,x=> .at (.data a.flat a x.1)::Sz r x.2
 |_,_=> []
def kJ (st:St):(c:CK)->AC->Option (c.den×List Nat)
 | .Eu τ,a=>if τ.flat||a.settled then (Dt st τ a).map λp=>(p.2,[]) else none
 | .row e te, .own l off len=>match st.at l with
  |some (.arr _ _ e' Rb xs)=>if h:e'=e/\Rb=te then some ((((h.1▸xs:List e.den).drop off).take len),[l]) else none
  |_=>none
 | .row _ _, .Ly=>some ([],[])
 | .Hi e te, .own l off len=>match st.at l with
  |some (.arr _ tr e' Rb xs)=>if h:e'=e/\Rb=te/\(tr||e.flat)=true then some ((((h.1▸xs:List e.den).drop off).take len),[l]) else none
  |some (.Gt e' Rb xs)=>if h:e'=e/\Rb=te then some ((((h.1▸xs:List e.den).drop off).take len),[l]) else none
  |_=>none
 | .Hi _ _, .Ly=>some ([],[])
 | .Bm e te _, .own l off len=>match st.at l with
  |some (.Bm e' Rb rows none _)=>if h:e'=e/\Rb=te/\off=0/\len=rows.length then some ((h.1▸rows:List (List e.den)),[l]) else none
  |_=>none
 |_,_=>none
def Vi (st:St):(cs:List CK)->List AC->Option (CKs.den cs×List Nat)
 | [],[]=>some ((),[])
 |c::r,a::as=>match kJ st c a,Vi st r as with
  |some (x,t1),some (y,t2)=>some ((x,y),t1++t2)
  |_,_=>none
 |_,_=>none
def qn (st:St) (l:Nat):(c:CK)->Option c.den
 | .Eu _=>none
 | .row e te=>match st.at l with
  |some (.arr _ _ e' Rb xs)=>if h:e'=e/\Rb=te then some (h.1▸xs) else none
  |_=>none
 | .Hi e te=>match st.at l with
  |some (.Gt e' Rb xs)=>if h:e'=e/\Rb=te then some (h.1▸xs) else none
  |_=>none
 | .part _ _=>none
 | .Bm _ _ _=>none
def On (st:St):(k:Nat)->(cs:List (Bool×CK))->Option (IOs.den cs)
 |_,[]=>some ()
 |k,(true, .Eu _)::r=>On st (k+1) r
 |k,(true, .Bm _ _ _)::r=>On st (k+1) r
 |k,(true, .row e te)::r=>match qn st (Dr true k) (.row e te),On st (k+1) r with
  |some x,some y=>some (x,y)
  |_,_=>none
 |k,(true, .Hi e te)::r=>match qn st (Dr true k) (.Hi e te),On st (k+1) r with
  |some x,some y=>some (x,y)
  |_,_=>none
 |k,(true, .part e te)::r=>match qn st (Dr true k) (.row e te),On st (k+1) r with
  |some x,some y=>some (x,y)
  |_,_=>none
 |k,(false,_)::r=>On st (k+1) r
def Py:(k:Nat)->List (Bool×CK)->List Nat
 |_,[]=> []
 |k,(true, .Eu _)::r=>Py (k+1) r
 |k,(true, .Bm _ _ _)::r=>Py (k+1) r
 |k,(true,_)::r=>Dr true k::Py (k+1) r
 |k,(false,_)::r=>Py (k+1) r
def Jg:(k:Nat)->List (Bool×CK)->List AC->Option (List AC)
 |_,_,[]=>some []
 |k,(true, .row _ _)::r, .own l _ _::as=>if Nat.beq l (Dr true k) then Jg (k+1) r as else none
 |k,(true, .Hi _ _)::r, .own l _ _::as=>if Nat.beq l (Dr true k) then Jg (k+1) r as else none
 |k,(false,_)::r,a::as=>(Jg (k+1) r as).map λl=>a::l
 |_,_,_=>none
def iS (st:St):List AC->List (Bool×CK)->Prop
 | .own l off len::as,(true,_)::r=>(off=0/\match st.at l with
  |some (.arr _ _ _ _ xs)=>len=xs.length
  |some (.Gt _ _ xs)=>len=xs.length
  |_=>False)/\iS st as r
 |_::as,(false,_)::r=>iS st as r
 |_,_=>True
def OQ (s:MSpec) (st:St) (l:List AV):Option (List AC×List Nat):=match s.rp with
 |none=>if s.Gy=Nat.blt 1 l.length then (ungroup s.Hz l).map λas=>(as,[]) else none
 |some tid=>match l with
  | [.at (.Hm m i)]=>match st.at m with
   |some (.var Ux vs)=>if Ux=tid/\i=0/\Nat.blt m Bn=true then some (vs,[m]) else none
   |_=>none
  |_=>none
def yk (st:St) (n:Nat) (as:List AC):List (Nat×Nat)->Prop
 | []=>True
 |(k,j)::r=>(match as[j]? with
  |some (.own l _ _)=>match st.at l with
   |some (.Bm _ _ _ _ (some p))=>p.1=Dr false k/\n<=p.2/\Nat.blt k 1000=true
   |_=>False
  |_=>False)/\yk st n as r
def ki (s:MSpec) (fn:Func) (x:Ins.den s.ins) (st:St) (cs:List AC) (P:CKs.den s.outs×IOs.den s.ins->Prop):Prop:=
 match dw T st fn.results.toList with
 |none=>False
 |some l=>match OQ s st l with
  |none=>False
  |some (as,ml)=>match Vi st s.outs (cs++as),On st 0 s.ins with
   |some (r,ls),some o=>(aq (ml++ls++Py 0 s.ins)&&Nat.blt s.ins.length 1000&&Nat.blt s.outs.length 1000&&s.Aao)=true/\yk st (s.Ez x) (cs++as) s.keeps/\P (r,o)
   |_,_=>False
def XX (s:MSpec) (fn:Func) (x:Ins.den s.ins) (st:St) (P:CKs.den s.outs×IOs.den s.ins->Prop):Prop:=
 match s.ptr with
 |none=>ki T s fn x st [] P
 |some p=> ∃vs cs,st.at Oz=some (.var p.1 vs)/\vs.length=p.2/\Jg 0 s.ins vs=some cs/\iS st vs s.ins/\ki T s fn x st cs P
def aH (s:MSpec) (as:List AC):List AV:=match s.ptr with
 |none=>Tc s.Je as
 |some p=> .at (.Hm Oz 0)::Tc s.Je (as.drop p.2)
def qJ (s:MSpec) (x:Ins.den s.ins):List (Nat×OB):=match s.ptr with
 |none=>Zs 0 s.ins x
 |some p=>Zs 0 s.ins x++ [(Oz, .var p.1 ((bP 0 s.ins x).take p.2))]
def Zx:List (Bool×CK)->Bool
 | []=>true
 |(true, .Bm _ _ _)::_=>false
 |_::r=>Zx r
def AW (s:MSpec):Bool:=Zx s.ins&&match s.ptr with
 |none=>true
 |some p=>Nat.ble p.2 s.ins.length
def Afu (Γ:Env) (s:MSpec) (fn:Func) (x:Ins.den s.ins) (P:CKs.den s.outs×IOs.den s.ins->Prop):Prop:=
 (Nat.blt s.ins.length 1000&&AW s)=true/\ ∃c,fn.body=some c/\Of T Γ (zX T.marks fn c) c {tmps:=aH s (bP 0 s.ins x)++List.replicate (fn.ntmps-(aH s (bP 0 s.ins x)).length) .undef,heap:=qJ s x}
  (λe st=>(∀id,e≠ .exit id)/\XX T s fn x st P)
def XY (Γ:Env) (s:Spec) (fn:Func) (x:s.arg.den) (P:s.res.den->Prop):Prop:=
 ∃c,fn.body=some c/\Of T Γ (zX T.marks fn c) c {tmps:=Sz s.arg x++List.replicate (fn.ntmps-(Sz s.arg x).length) .undef,heap:= []}
  (λe st=>(∀id,e≠ .exit id)/\ ∃fr y,nk T s fn st=some (fr,y)/\(fr||!s.fresh)=true/\P y)
end Go.Proofs.YtfolipnappekaaaGreat
