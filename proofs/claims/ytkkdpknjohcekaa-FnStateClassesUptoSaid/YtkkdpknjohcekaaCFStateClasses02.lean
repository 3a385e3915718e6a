/-
  Part 3 of the proof that the statement FnStateClasses holds.
-/
import Derived.Test.YtkkdpknjohcekaaCFStateClasses01
namespace Go.Proofs.Ytkkdpknjohcekaa
open Go.RowKit
def Gx:Nat->St->List AC->Option (List AC×St)
 |0,st,cs=>if cs.all (·.settled) then some (cs,st) else none
 |n+1,st,cs=>
  match cs.find? (λc=>!c.settled) with
  |none=>some (cs,st)
  |some (.own l _ _)=>match st.at l with
   |some (.arr fr _ e _ xs)=>Gx n (st.freeze l fr e xs) (cs.map (Cu l fr e xs))
   |some (.Gg e _ xs)=>Gx n (st.freeze l false e xs) (cs.map (Cu l false e xs))
   |_=>none
  |some (.Jt l)=>match st.at l with
   |some (.Ur v m)=>Gx n (st.Ie l v m) (cs.map (Gj l v m))
   |_=>none
  |some _=>none
def settle (st:St):AV->Option (AV×St)
 | .at (.own l off len)=>match st.at l with
  |some (.arr fr _ e _ xs)=>some (.at (.data fr (.slice e) ((xs.drop off).take len)),st.freeze l fr e xs)
  |some (.Gg e _ xs)=>some (.at (.data false (.slice e) ((xs.drop off).take len)),st.freeze l false e xs)
  |_=>none
 | .at (.Jt l)=>match st.at l with
  |some (.Ur v m)=>some (.at (.data false (.smap v) m),st.Ie l v m)
  |_=>none
 | .at a=>if a.settled then some (.at a,st) else none
 | .agg cs=>(Gx cs.length st cs).map λp=>(.agg p.1,p.2)
 | .ay fr τ x=>some (.ay fr τ x,st)
 | .Mh _=>none
def AC.refs:AC->List Nat
 | .own l _ _| .Gp l _| .Jm l _| .Jt l| .sub l _ _| .Jj l _ _=> [l]
 | .clo _ Dz=>Dz.map (·.1)
 |_=> []
def Zc:List Nat->Bool
 | []=>true
 |a::r=>!r.contains a&&Zc r
def Ty.tree:Ty->Bool
 | .int _| .bool| .str| .unit=>true
 | .slice e=>e.tree
 | .pair a r=>a.tree&&r.tree
 |_=>false
def Rk (st:St):AC->Bool
 | .data _ τ _=>τ.flat
 | .Ln=>true
 | .own l _ _=>match st.at l with
  |some (.arr _ tr e _ _)=>tr||e.flat
  |some (.Gg _ _ _)=>true
  |_=>false
 |_=>false
def Sr (st:St):AV->Bool
 | .at a=>Rk st a
 | .agg cs=>cs.all (Rk st)&&Zc (cs.flatMap AC.refs)
 |_=>false
def Bl:Nat:=1000000000
variable (T:Tab)
def KC (t:TypeId) (τ:Ty) (i:Nat):Option TypeId:=
 if τ.Ap then (List.range 24).findSome? λf=>match T.off t f with
  |some (o,u)=>if o=i then some u else none
  |none=>none
 else some t
def Tab.KK (te:TypeId):Option Ty:=if T.Aal.contains te then (match T.ty te with
 |some (.slice e)=>some e
 |_=>none) else none
def cG (te:TypeId) (e:Ty):OB:=match T.KK te with
 |some e'=> .Bo e' te [] none none
 |none=> .arr (T.sS||e.flat) T.z8 e te []
def Tt (b:OB) (key l i:Nat) (st:St):St:=
 match st.at l with
 |some (.var _ vs)=>match vs[i]? with
  |some .Ln=>
   let s1:=st.new key b
   match s1.at l with
   |some (.var tid vs')=>s1.Ji l (.var tid (Rx vs' i (.own key 0 0)))
   |_=>s1
  |_=>st
 |_=>st
def ee (l:Nat) (t:TypeId) (τ:Ty):Nat->Nat->St->St
 |0,_,st=>st
 |n+1,i,st=>
  ee l t τ n (i+1) (match ((KC T t τ i).bind T.elem).bind λte=>(T.ty te).map λe=>(te,e) with
   |some (te,e)=>Tt (cG T te e) (100000+l*100+i) l i st
   |none=>st)
def da (l off:Nat) (t:TypeId) (τ:Ty):Nat->Nat->St->St
 |0,_,st=>st
 |n+1,i,st=>
  da l off t τ n (i+1) (match ((KC T t τ i).bind T.elem).bind λte=>(T.ty te).map λe=>(te,e) with
   |some (te,e)=>Tt (cG T te e) (100000+l*100+(off+i)) l (off+i) st
   |none=>st)
def zeroCells:(τ:Ty)->List AC
 | .unit=> []
 | .pair a r=>zeroCells a++zeroCells r
 | .slice _=> [.Ln]
 | .oslice _=> [.Ln]
 | .ptr _=> [.Up]
 | .optr _=> [.Up]
 | .clo _ _=> [.undef]
 |τ=> [.data true τ τ.zero]
def cellsOf (τ:Ty):AV->Option (List AC)
 | .agg cs=>if τ.Ap&&cs.length==τ.size then some cs else none
 | .at (.data fr Nx x)=>if Nx=τ then some (Ro fr Nx x) else none
 | .at .undef=>none
 | .at .skip=>none
 | .at a=>if τ.Ap then none else some [a]
 |_=>none
def mkVar (st:St) (l:Nat) (t:TypeId) (τ:Ty) (cs:List AC):Option (AV×St):=
 if Bl<=100000+l*100+cs.length then none else
 let s:=ee T l t τ cs.length 0 (st.new l (.var t (cs.map (Cl l))))
 match s.at l with
 |some (.var _ _)=>some (.at (.Gp l 0),s)
 |_=>none
def Pn:(τ:Ty)->List AC
 | .unit=> []
 | .pair a r=>Pn a++Pn r
 | .slice e=> [.data false (.slice e) []]
 | .oslice _=> [.Ln]
 | .ptr _=> [.Up]
 | .optr _=> [.Up]
 | .clo _ _=> [.undef]
 |τ=> [.data false τ τ.zero]
def qx:Nat:=1300000000
def eA:Nat:=1400000000
def rF (st:St) (l:Nat) (t:TypeId) (cs:List AC):Option (AV×St):=
 if Bl<=100000+l*100+cs.length then none else some (.at (.Gp l 0),st.new l (.var t (cs.map (Cl l))))
def Dp {α:Type} (xs:List α) (i:Nat) (ys:List α):List α:=xs.take i++ys++xs.drop (i+ys.length)
def SA (st:St) (τ:Ty) (l:Nat) (v:AV):AV:=match T.marks.contains (qx+l)&&v.settled with
 |true=>match Ff st τ v with
  |some p=> .at (.data false τ p.2)
  |none=>v
 |false=>v
def Tz (st:St) (t:TypeId) (p v:AV):Option St:=
 match T.ty t,p with
 |some τ, .at (.Gp l i)=>match st.at l,cellsOf τ (SA T st τ l v) with
  |some (.var tid vs),some cs=>if i+cs.length<=vs.length then some (if τ.Ap&&Nat.blt (100000+l*100+(i+cs.length)) Bl then da T l i t τ cs.length 0 (st.Ji l (.var tid (Dp vs i cs))) else st.Ji l (.var tid (Dp vs i cs))) else none
  |_,_=>none
 |some τ, .at (.Jm l j)=>match settle st v with
  |some (v',st')=>match st'.at l,Ff st' τ v' with
   |some (.arr fr tr e tid xs),some (Vc,x)=>if h:τ=e then (if j<xs.length then some (st'.Ji l (.arr (fr&&Vc) (tr&&(Sr st v&&e.tree)) e tid (xs.set j (h▸x)))) else none) else none
   |_,_=>none
  |none=>none
 |_,_=>none
def Dd:Nat:=4294967296
def Nq (st:St) (dst:Nat) (t:TypeId) (x y:Operand):Option (AV×St):=
 match T.elem t with
 |none=>none
 |some te=>match T.ty te,settle st (st.ev y) with
  |some e,some (y',st')=>match Ff st' (.slice e) y' with
   |none=>none
   |some (pH,ys)=>
    let tr2:=e.flat||(Sr st (st.ev y)&&e.tree)
    match st'.ev x with
    | .at .Ln=>if ys.length<=Dd/\dst<Bl then some (.at (.own dst 0 (0+ys.length)),(st'.new dst (.arr (T.sS||e.flat) T.z8 e te [])).new dst (.arr ((T.sS||e.flat)&&(pH||e.flat)) (T.z8&&tr2) e te (((([]:List e.den).drop 0).take 0)++ys))) else none
    | .at (.own l off len)=>match st'.at l with
     |some (.arr fr tr e' tid xs)=>if h:e'=e/\tid=te then
       (if len+ys.length<=Dd/\l<Bl then
        some (.at (.own l 0 (len+ys.length)),st'.new l (.arr (fr&&(pH||e.flat)) (tr&&tr2) e te ((((h.1▸xs:List e.den).drop off).take len)++ys))) else none)
      else none
     |_=>none
    |_=>none
  |_,_=>none
def Pp (st:St) (l i m:Nat) (e:Ty) (te tid:TypeId) (rows:List (List e.den)) (kp:Option (Nat×Nat)):St:=
 (st.Ji l (.Bo e te rows (some i) kp)).new m (.arr false false e tid (rows.getD i []))
def Qy (st:St) (dst:Nat) (t:TypeId) (x y:Operand):Option (AV×St):=
 match x with
 | .tmp tx=>match st.get tx with
  | .at (.sub l i _)=>match st.at l,T.elem t with
   |some (.Bo e te rows none kp),some tid=>if (Nat.blt l Bl&&(Nat.blt dst Bl&&!Nat.beq dst l))=true then Nq T ((Pp st l i dst e te tid rows kp).put (some tx) (.at (.own dst 0 (rows.getD i []).length))) dst t x y else none
   |_,_=>none
  |_=>Nq T st dst t x y
 |_=>Nq T st dst t x y
def l5:Ty->Bool
 | .int _| .bool| .str| .slice _| .oslice _=>true
 |_=>false
def eL:Ty->Bool
 | .unit=>true
 | .pair a r=>eL a&&eL r
 |e=>l5 e
def aK (st:St) (dst:Nat) (t:TypeId) (l c:AV):Option (AV×St):=
 match T.elem t,l,c with
 |some te, .at (.data _ (.int _) n), .at (.data _ (.int _) m)=>match T.ty te with
  |some e=>if inb n (Dd+1)=true/\n=m/\eL e=true/\dst<Bl then some (.at (.own dst 0 n.toNat),st.new dst (.arr (T.sS||e.flat) (T.z8&&e.tree) e te (List.replicate n.toNat e.zero))) else none
  |none=>none
 |_,_,_=>none
def Kv (e:Ty):Nat->List (Nat×Operand)->St->Option (Bool×Bool×List e.den×St)
 |_,[],st=>some (true,true,[],st)
 |i,(j,x)::r,st=>
  if i=j then match settle st (st.ev x) with
   |some (v,st')=>match Ff st' e v with
    |some (fr,y)=>match Kv e (i+1) r st' with
     |some (Vc,WG,ys,Ant)=>some (fr&&Vc,Sr st (st.ev x)&&e.tree&&WG,y::ys,Ant)
     |none=>none
    |none=>none
   |none=>none
  else none
def Mc (st:St) (dst:Nat) (t:TypeId) (len:Nat) (parts:Array (Nat×Operand)):Option (AV×St):=
 match T.elem t with
 |none=>none
 |some te=>match T.ty te with
  |none=>none
  |some e=>if parts.size=len/\len<=64/\e.size<=64/\dst<Bl then (match Kv e 0 parts.toList st with
   |some (fr,tr,ys,st')=>some (.at (.own dst 0 len),st'.new dst (.arr ((T.sS||e.flat)&&fr) (T.z8&&tr) e te ys))
   |none=>none) else none
def Tx (st:St) (dst:Nat) (t:TypeId):Option (AV×St):=
 match T.mapOf t with
 |some v=>if dst<Bl then some (.at (.Jt dst),st.new dst (.Ur v λ_=>none)) else none
 |none=>none
def eI {α:Type} (m:ByteArray->Option α) (k:ByteArray) (x:α):ByteArray->Option α:= λs=>if s=k then some x else m s
def Ip (st:St) (t:TypeId) (m k x:AV):Option St:=
 match T.mapOf t,m,k with
 |some v, .at (.Jt l), .at (.data _ .str s)=>match st.at l,Ff st v x with
  |some (.Ur v' f),some (_,y)=>if h:v'=v/\v.flat=true/\v.Ap=false then some (st.Ji l (.Ur v (eI (h.1▸f:ByteArray->Option v.den) s y))) else none
  |_,_=>none
 |_,_,_=>none
def gl (st:St) (t t':TypeId) (x y:AV):Option (AV×St):=
 match x,(T.elem t).bind T.ty with
 | .at (.own l off len),some e=>if T.elem t=T.elem t'/\e.flat=true/\e.size=1 then match st.at l,Ff st (.slice e) y with
  |some (.arr fr _ e' tid xs),some (_,ys)=>if h:e'=e/\T.elem t=some tid then
    some (.at (.data true (.int .i64) (min len ys.length:Nat)),st.Ji l (.arr fr false e tid (Dp (h.1▸xs:List e.den) off (ys.take len))))
   else none
  |_,_=>none
  else none
 |_,_=>none
def evalClear (st:St) (t:TypeId) (x:AV):Option St:=
 match x,(T.elem t).bind T.ty with
 | .at (.own l off len),some e=>if e.flat=true/\l5 e=true then match st.at l with
  |some (.arr fr _ e' tid xs)=>if h:e'=e/\T.elem t=some tid then
    some (st.Ji l (.arr fr false e tid (Dp (h.1▸xs:List e.den) off (List.replicate len e.zero))))
   else none
  |_=>none
  else none
 |_,_=>none
def Mb (st:St) (t:TypeId):List (Nat×Operand)->List AC->Option (List AC)
 | [],cs=>some cs
 |(i,x)::r,cs=>
  match T.off t i with
  |some (o,u)=>match T.ty u with
   |some ρ=>match cellsOf ρ (st.ev x) with
    |some c=>if o+c.length<=cs.length then Mb st t r (Dp cs o c) else none
    |none=>none
   |none=>none
  |none=>none
def Wq (st:St) (t:TypeId) (parts:Array (Nat×Operand)):Option AV:=
 match T.ty t with
 |none=>none
 |some τ=>if τ.Ap then (Mb T st t parts.toList (zeroCells τ)).map .agg else none
def Dr (io:Bool) (k:Nat):Nat:=if io then 1000000000+k else 500000+k
def Jn (k:Nat):Nat:=600000+k
def UH (dst:Nat) (k:Nat):Nat:=1000000*(dst+1)+k
def Sk:List (Option Nat)->List AC->List AV
 |none::s,a::as=> .at a::Sk s as
 |some n::s,as=> .agg (as.take n)::Sk s (as.drop n)
 |_,_=> []
def Kk:List (Option Nat)->List Value->List Value
 |none::s,u::us=>u::Kk s us
 |some n::s,us=> .agg (us.take n).toArray::Kk s (us.drop n)
 |_,_=> []
def ungroup:List (Option Nat)->List AV->Option (List AC)
 | [],[]=>some []
 |none::s, .at a::as=>(ungroup s as).map λr=>a::r
 |some n::s, .agg cs::as=>if cs.length=n then (ungroup s as).map λr=>cs++r else none
 |some n::s, .at (.data fr τ x)::as=>if τ.Ap=true/\(Ro fr τ x).length=n then (ungroup s as).map λr=>Ro fr τ x++r else none
 |_,_=>none
def j6 (l:Nat):(c:CK)->c.den->Option OB
 | .Hx _,_=>none
 | .row e te,xs=>some (.arr false false e te xs)
 | .Gz e te,xs=>some (.Gg e te xs)
 | .part e te,x=>some (.arr false false e te x.1)
 | .Bo e te kp,xs=>some (.Bo e te xs none (if kp then some (l,List.length xs) else none))
def Ako (l:Nat):(c:CK)->c.den->AC
 | .Hx τ,x=> .data τ.flat τ x
 | .row _ _,xs=> .own l 0 (List.length xs)
 | .Gz _ _,xs=> .own l 0 (List.length xs)
 | .part _ _,x=> .own l x.2.1 x.2.2
 | .Bo _ _ _,xs=> .own l 0 (List.length xs)
def ga {α:Type} (l:Nat):Option α->List (Nat×α)->List (Nat×α)
 |none,r=>r
 |some b,r=>(l,b)::r
def Ym:(k:Nat)->(cs:List (Bool×CK))->Ins.den cs->List (Nat×OB)
 |_,[],_=> []
 |k,p::r,x=>ga (Dr p.1 k) (j6 (Dr p.1 k) p.2 x.1) (Ym (k+1) r x.2)
def aR:(k:Nat)->(cs:List (Bool×CK))->Ins.den cs->List AC
 |_,[],_=> []
 |k,p::r,x=>Ako (Dr p.1 k) p.2 x.1::aR (k+1) r x.2
inductive Loc where
 |row (l:Nat)
 |sub (l i c:Nat)
 |view (l:Nat)
 deriving DecidableEq
def Loc.Vx:Loc->Nat
 | .row l=>l
 | .sub l _ _=>l
 | .view l=>l
def Loc.reads:Loc->Bool
 | .view _=>true
 |_=>false
def bj (st:St) (ls:List Nat):Bool:=ls.all λl=>match st.at l with|some (.var _ vs)=>vs.all (·.settled)|_=>false
def views (k:Nat) (ls:List Nat):List (Nat×Loc):=ls.map λl=>(Dr false k, .view l)
def Lt (st:St) (io:Bool) (k:Nat):(c:CK)->AC->Option (c.den×List (Nat×Loc))
 | .Hx τ, .own l off len=>(Dk st τ (.own l off len)).map λp=>(p.2,[(Dr false k, .view l)])
 | .Hx τ, .clo g Dz=>if bj st (Dz.map (·.1))&&!τ.Ap then (Jg st τ (.clo g Dz)).map λp=>(p.2,views k (Dz.map (·.1))) else none
 | .Hx τ, .Gp l i=>if bj st [l]&&!τ.Ap then (Jg st τ (.Gp l i)).map λp=>(p.2,views k [l]) else none
 | .Hx τ, .sub l i c=>(Dk st τ (.sub l i c)).map λp=>(p.2,[(Dr false k, .view l)])
 | .Hx τ,a=>if τ.flat||a.settled then (Dk st τ a).map λp=>(p.2,[]) else none
 | .row e te, .own l off len=>match st.at l with
  |some (.arr _ _ e' Qr xs)=>if h:e'=e/\Qr=te/\off=0/\len=xs.length then some ((h.1▸xs:List e.den),[(Dr io k, .row l)]) else none
  |_=>none
 | .row e _, .sub l i c=>match st.at l with
  |some (.Gg e' _ xs)=>if h:e'= .slice e/\e.flat=true/\io=true/\c=0 then xs[i]?.map λy=>((h.1▸y:(Ty.slice e).den),[(Dr io k, .sub l i c)]) else none
  |_=>none
 | .row _ _, .Ln=>some ([],[])
 | .Gz e te, .own l off len=>match st.at l with
  |some (.Gg e' Qr xs)=>if h:e'=e/\Qr=te/\off=0/\len=xs.length then some ((h.1▸xs:List e.den),[(Dr io k, .row l)]) else none
  |_=>none
 | .Gz e _, .sub l i c=>match st.at l with
  |some (.Gg e' _ xs)=>if h:e'= .slice e/\io=true/\c=0 then xs[i]?.map λy=>((h.1▸y:(Ty.slice e).den),[(Dr io k, .sub l i c)]) else none
  |_=>none
 | .Gz _ _, .Ln=>some ([],[])
 | .part e te, .own l off len=>match st.at l with
  |some (.arr _ _ e' Qr xs)=>if h:e'=e/\Qr=te/\e.flat=true/\io=true then some (((h.1▸xs:List e.den),off,len),[(Dr io k, .row l)]) else none
  |_=>none
 | .Bo e te _, .own l off len=>match st.at l with
  |some (.Bo e' Qr rows none _)=>if h:e'=e/\Qr=te/\off=0/\len=rows.length/\io=false then some ((h.1▸rows:List (List e.den)),[(Dr io k, .row l)]) else none
  |_=>none
 |_,_=>none
def eG (st:St):(k:Nat)->(cs:List (Bool×CK))->List AC->Option (Ins.den cs×List (Nat×Loc))
 |_,[],[]=>some ((),[])
 |k,p::r,a::as=>match Lt st p.1 k p.2 a,eG st (k+1) r as with
  |some (x,t1),some (y,t2)=>some ((x,y),t1++t2)
  |_,_=>none
 |_,_,_=>none
def bq (st:St):(c:CK)->c.den->AC->Option St
 | .row e _,ys, .own l _ len=>match st.at l with
  |some (.arr fr tr e' te xs)=>if h:e=e'/\List.length ys=len/\xs.length=len then some (st.Ji l (.arr (fr&&e'.flat) (tr&&e'.flat) e' te (h.1▸ys))) else none
  |_=>none
 | .Gz e _,ys, .own l _ len=>match st.at l with
  |some (.Gg e' te xs)=>if h:e=e'/\List.length ys=len/\xs.length=len then some (st.Ji l (.Gg e' te (h.1▸ys))) else none
  |_=>none
 | .row e _,ys, .sub l i _=>match st.at l with
  |some (.Gg e' te xs)=>if h: .slice e=e' then (match xs[i]? with
   |some y=>if List.length ys=List.length (h▸y:(Ty.slice e).den) then some (st.Ji l (.Gg e' te (xs.set i (h▸(ys:(Ty.slice e).den))))) else none
   |none=>none) else none
  |_=>none
 | .Gz e _,ys, .sub l i _=>match st.at l with
  |some (.Gg e' te xs)=>if h: .slice e=e' then (match xs[i]? with
   |some y=>if List.length ys=List.length (h▸y:(Ty.slice e).den) then some (st.Ji l (.Gg e' te (xs.set i (h▸(ys:(Ty.slice e).den))))) else none
   |none=>none) else none
  |_=>none
 |_,_, .Ln=>some st
 |_,_,_=>none
def IC (st:St) (e:Ty) (ys:List e.den):AC->Option St
 | .own l _ _=>match st.at l with
  |some (.arr fr tr e' te xs)=>if h:e=e'/\List.length ys=xs.length then some (st.Ji l (.arr fr tr e' te (h.1▸ys))) else none
  |_=>none
 |_=>none
def Hi:(cs:List (Bool×CK))->IOs.den cs->List AC->St->Option St
 | [],_,_,st=>some st
 |(true, .Hx _)::r,x,_::as,st=>Hi r x as st
 |(true, .row e te)::r,x,a::as,st=>match bq st (.row e te) x.1 a with
  |some st'=>Hi r x.2 as st'
  |none=>none
 |(true, .Gz e te)::r,x,a::as,st=>match bq st (.Gz e te) x.1 a with
  |some st'=>Hi r x.2 as st'
  |none=>none
 |(true, .part e _)::r,x,a::as,st=>match IC st e x.1 a with
  |some st'=>Hi r x.2 as st'
  |none=>none
 |(true, .Bo _ _ _)::r,x,_::as,st=>Hi r x as st
 |(false,_)::r,x,_::as,st=>Hi r x as st
 |_,_,_,_=>none
def Cn (dead part:List Nat) (c:AC):AC:=if c.refs.any (λl=>dead.contains l) then .undef else match c with
 | .sub l i c=>if part.contains l then .undef else .sub l i c
 | .Jj l i c=>if part.contains l then .undef else .Jj l i c
 |c=>c
def Wo:List (Nat×OB)->List Nat->List (Nat×OB)
 | [],_=> []
 |(k,b)::r,dead=>if dead.contains k then Wo r dead else (k,b)::Wo r dead
def St.bC (st:St) (dead part:List Nat):St:=let s:=st.Km (Cn dead part); {s with heap:=Wo s.heap dead}
def Sx (st:St) (l j m:Nat) (e:Ty) (te:TypeId) (rows:List (List e.den)) (xs:List e.den) (kp:Option (Nat×Nat)):St:=
 (st.bC [m] [l]).Ji l (.Bo e te (rows.set j xs) none kp)
def aV (j:Nat):Option (Nat×Nat)->Option (Nat×Nat)
 |none=>none
 |some p=>some (p.1,min p.2 j)
def aM (st:St) (t:TypeId) (p v:AV):Option St:=
 match T.ty t,p with
 |some τ, .at (.Jj l i j)=>match settle st v with
  |some (v',st')=>match st'.at l,Ff st' τ v' with
   |some (.Bo e te rows none kp),some (_,x)=>if h:τ=e then some (st'.Ji l (.Bo e te (rows.set i ((rows.getD i []).set j (h▸x))) none kp)) else none
   |_,_=>none
  |none=>none
 |some τ, .at (.Jm l j)=>match st.at l,v with
  |some (.Bo e te rows out kp), .at (.own m off len)=>match st.at m with
   |some (.arr _ _ e' _ xs)=>if h:e'=e/\(Nat.blt l Bl&&(!Nat.beq m l&&!τ.Ap))=true/\off=0/\len=xs.length/\(out=none\/out=some j) then some (Sx st l j m e te rows (h.1▸xs) (aV j kp)) else none
   |_=>none
  |_,_=>none
 |_,_=>none
def KL (st:St):AV->Bool
 | .at (.Jj _ _ _)=>true
 | .at (.Jm l _)=>match st.at l with
  |some (.Bo _ _ _ _ _)=>true
  |_=>false
 |_=>false
def Pe (st:St) (t:TypeId) (p v:AV):Option St:=match KL st p with
 |true=>aM T st t p v
 |false=>Tz T st t p v
def Qj (st:St) (k m:Nat) (b:OB):St:=let s:=st.bC [m,k] []; {s with heap:=Nz s.heap k b}
def cO (t:TypeId):Option (TypeId×Ty):=(T.elem t).bind λte=>(T.KK te).map λe=>(te,e)
def Wt (st:St) (dst:Nat) (t:TypeId) (l c:AV):Option (AV×St):=
 match cO T t with
 |none=>aK T st dst t l c
 |some (te,e)=>match l,c with
  | .at (.data _ (.int _) n), .at (.data _ (.int _) m)=>if inb n (Dd+1)=true/\n=m/\dst<Bl then some (.at (.own dst 0 n.toNat),Qj st dst dst (.Bo e te (List.replicate n.toNat []) none none)) else none
  |_,_=>none
def Io (st:St) (dst:Nat) (t:TypeId) (len:Nat) (parts:Array (Nat×Operand)):Option (AV×St):=
 match cO T t with
 |none=>Mc T st dst t len parts
 |some (te,e)=>match parts.toList with
  | [(0,x)]=>match st.ev x with
   | .at (.own m off ln)=>match st.at m with
    |some (.arr _ _ e' _ xs)=>if h:e'=e/\(Nat.beq len 1&&(Nat.blt dst Bl&&Nat.blt m Bl))=true/\off=0/\ln=xs.length then some (.at (.own dst 0 1),Qj st dst m (.Bo e te [h.1▸xs] none none)) else none
    |_=>none
   |_=>none
  |_=>none
def Qz (st:St) (dst:Nat) (t:TypeId) (x y:Operand):Option (AV×St):=
 match cO T t with
 |none=>Qy T st dst t x y
 |some (te,e)=>match st.ev x,st.ev y with
  | .at (.own l off len), .at (.own m UJ rj)=>match st.at l,st.at m with
   |some (.Bo e1 te1 A none _),some (.Bo e2 uc B none _)=>
    if h:(e1=e/\e2=e)/\(decide (te1=te)&&decide (uc=te)&&(Nat.blt l Bl&&(Nat.blt m Bl&&!Nat.beq m l)))=true/\(off=0/\len=A.length)/\(UJ=0/\rj=B.length)/\0<B.length/\A.length+B.length<=Dd then
     some (.at (.own l 0 (A.length+B.length)),Qj st l m (.Bo e te ((h.1.1▸A:List (List e.den))++(h.1.2▸B:List (List e.den))) none none))
    else none
   |_,_=>none
  |_,_=>none
def tE (fr:Bool):(c:CK)->c.den->Option OB
 | .Hx _,_=>none
 | .row e te,xs=>some (.arr (fr&&e.flat) false e te xs)
 | .Gz e te,xs=>some (.Gg e te xs)
 | .part e te,x=>some (.arr (fr&&e.flat) false e te x.1)
 | .Bo e te _,xs=>some (.Bo e te xs none none)
def AJ (H:List (Nat×OB)) (l:Nat):Option OB->List (Nat×OB)
 |some b=>Nz H l b
 |none=>H
def Xe (fr:Bool) (key:Nat->Nat):(k:Nat)->(cs:List CK)->CKs.den cs->List (Nat×OB)->List (Nat×OB)
 |_,[],_,H=>H
 |k,c::r,x,H=>Xe fr key (k+1) r x.2 (AJ H (key k) (tE fr c x.1))
def aY (key:Nat->Nat):(k:Nat)->(cs:List CK)->CKs.den cs->List AC
 |_,[],_=> []
 |k,c::r,x=>(match c,x.1 with
  | .Hx τ,y=> .data τ.flat τ y
  | .row _ _,xs=> .own (key k) 0 (List.length xs)
  | .Gz _ _,xs=> .own (key k) 0 (List.length xs)
  | .Bo _ _ _,xs=> .own (key k) 0 (List.length xs)
  | .part _ _,_=> .undef)::aY key (k+1) r x.2
def Zd:List (Option Nat)->List AC->List (Bool×List AC)
 |none::s,a::as=>(false,[a])::Zd s as
 |some n::s,as=>(true,as.take n)::Zd s (as.drop n)
 |_,_=> []
def Aim (Gh:Bool) (sh:List (Option Nat)) (as:List AC):Option AV:=
 if Gh then some (.Mh (Zd sh as)) else match Sk sh as with
  | [v]=>some v
  | []=>some .undef
  |_=>none
def lq (tks:List (Nat×Loc)):List Nat:=(tks.filter λt=>Nat.blt t.1 Bl&&!t.2.reads).map λt=>t.2.Vx
def whole (tks:List (Nat×Loc)):List Nat:=tks.flatMap λt=>match t.2 with| .row l=> [l]|_=> []
def yN (tks:List (Nat×Loc)):List Nat:=(tks.filter λt=>t.2.reads).map λt=>t.2.Vx
def AT (ins:List (Bool×CK)) (te:TypeId) (used:List Nat):List (Nat×Loc)->Option Nat
 | []=>none
 |(k, .row l)::r=>if Nat.blt k Bl&&(!used.contains l&&(match ins[k-500000]? with
   |some (false, .row _ Qr)=>decide (Qr=te)
   |some (false, .Gz _ Qr)=>decide (Qr=te)
   |some (false, .Bo _ Qr _)=>decide (Qr=te)
   |_=>false)) then some l else AT ins te used r
 |_::r=>AT ins te used r
def GY (ins:List (Bool×CK)) (tks:List (Nat×Loc)) (d:Nat):(k:Nat)->(used:List Nat)->List CK->List Nat
 |_,_,[]=> []
 |k,used,c::r=>match (match c with
   | .row _ te=>AT ins te used tks
   | .Gz _ te=>AT ins te used tks
   | .Bo _ te _=>AT ins te used tks
   |_=>none) with
  |some l=>l::GY ins tks d (k+1) (l::used) r
  |none=>UH d k::GY ins tks d (k+1) used r
def lh (s:MSpec) (tks:List (Nat×Loc)) (d:Nat):List Nat:=GY s.ins tks d 0 [] s.outs
def Dy (ks:List Nat) (j:Nat):Nat:=match ks[j]? with
 |some l=>l
 |none=>Bl+j
def xf (ks:List Nat) (n:Nat):Bool:=Nat.beq ks.length n&&(Zc ks&&ks.all λl=>Nat.blt l Bl)
def KG (st:St) (l:List Nat):Bool:=l.all λk=>match st.at k with|some (.arr fr _ _ _ _)=>fr|_=>false
def LR (st:St) (s:MSpec) (args:List AV):Option (List Nat×List AC×List AV):=
 match s.ptr with
 |none=>some ([],[],args)
 |some p=>match args with
  | .at (.Gp l i)::rest=>match st.at l with
   |some (.var tid vs)=>if tid=p.1/\vs.length=p.2/\i=0 then some ([l],vs,rest) else none
   |_=>none
  |_=>none
def Vi:List (Bool×CK)->List AC->Bool
 |(true, .row _ _)::r, .own _ _ _::as=>Vi r as
 |(true, .Gz _ _)::r, .own _ _ _::as=>Vi r as
 |(true,_)::_,_::_=>false
 |(false,_)::r,_::as=>Vi r as
 |_,as=>as.isEmpty
def fg {α:Type} :List (Bool×CK)->List α->List α->List α
 |(true,_)::r,v::vs,as=>v::fg r vs as
 |(false,_)::r,_::vs,a::as=>a::fg r vs as
 |_,vs,_=>vs
def s5:List (Bool×CK)->Nat->Nat
 |(true,_)::r,n+1=>s5 r n
 |(false,_)::r,n+1=>s5 r n+1
 |_,_=>0
def MSpec.Zp (s:MSpec):Nat:=match s.ptr with|none=>0|some p=>s5 s.ins p.2
def pj (ins:List (Bool×CK)) (as:List AC) (pl:List Nat) (st:St):St:=
 match pl with
 | []=>st
 |l::_=>match st.at l with
  |some (.var tid vs)=>st.Ji l (.var tid (fg ins vs as))
  |_=>st
def Ss (d:Nat):Nat:=UH d 999
def kS (s:MSpec) (d:Nat):List Nat:=match s.rp with|none=> []|some _=> [Ss d]
def Rn (s:MSpec) (tks:List (Nat×Loc)) (d:Nat):List Nat:=lh s tks d++kS s d
def lY (H:List (Nat×OB)) (l:Nat):Bool:=match At H l with
 |some (.Bo _ _ _ _ _)=>true
 |_=>false
def aT (H:List (Nat×OB)) (ks:List Nat) (tks:List (Nat×Loc)):List (Nat×Nat)->List Nat
 | []=> []
 |(k,j)::r=>match tks.find? (λt=>Nat.beq t.1 (Dr false k)),ks[j]? with
  |some (_, .row l),some l'=>if Nat.beq l' l&&lY H l then l::aT H ks tks r else aT H ks tks r
  |_,_=>aT H ks tks r
def pJ (H:List (Nat×OB)) (l:Nat):Nat:=match At H l with
 |some (.Bo _ _ rows _ _)=>rows.length
 |_=>0
def cr (H:List (Nat×OB)) (ls:List Nat) (n:Nat):List AV->Bool
 | []=>true
 | .at (.sub l i _)::r=>(!ls.contains l||(Nat.blt i n&&Nat.blt i (pJ H l)))&&cr H ls n r
 |_::r=>cr H ls n r
def Lg (ls:List Nat):List AV->List AV->List AV
 | .at (.sub l i c)::r,v::vs=>(if ls.contains l then .at (.sub l i c) else v)::Lg ls r vs
 |_::r,v::vs=>v::Lg ls r vs
 |_,vs=>vs
def Adv:Option OB->Option (Nat×Nat)
 |some (.Bo _ _ _ _ kp)=>kp
 |_=>none
def OB.CS (b:OB) (kp:Option (Nat×Nat)):OB:=match b with
 | .Bo e te rows out _=> .Bo e te rows out kp
 |b=>b
def cf (H0:List (Nat×OB)) (ls:List Nat) (n:Nat):List (Nat×OB)->List (Nat×OB)
 | []=> []
 |(l,b)::r=>(l,if ls.contains l then b.CS (aV n (Adv (At H0 l))) else b)::cf H0 ls n r
def kD (bn st:St) (ls:List Nat) (n:Nat):St:=match ls with
 | []=>st
 |_=> {tmps:=Lg ls bn.tmps st.tmps,heap:=cf bn.heap ls n st.heap}
def ZQ (s:MSpec) (d:Nat) (as:List AC):Option AV:=match s.rp with
 |none=>Aim s.Gh s.Hb as
 |some _=>some (.at (.Gp (Ss d) 0))
def kd (st st1:St) (d:Nat) (s:MSpec) (pl:List Nat) (tks:List (Nat×Loc)) (r:CKs.den s.outs):St:=
 let ks:=Rn s tks d
 let key:=Dy ks
 let st2:=pj s.ins (aY key 0 s.outs r) pl (st1.bC (lq tks++ks++(if s.flat then [] else yN tks)) (whole tks))
 {st2 with heap:=Xe (KG st (lq tks)) key 0 s.outs r (AJ st2.heap (Ss d) (s.rp.map λtid=> .var tid ((aY key 0 s.outs r).drop s.Zp)))}
def Wr (st:St) (dst:Option Nat) (s:MSpec) (args:List AV):Option (AV×St):=
 match LR st s args with
 |none=>none
 |some (pl,vs,rest)=>match ungroup s.Ih rest with
 |none=>none
 |some mK=>match eG st 0 s.ins (vs++mK) with
  |none=>none
  |some (x,tks)=>if Zc (tks.map λt=>t.2.Vx)&&xf (Rn s tks (dst.getD 0)) (s.outs.length+(kS s (dst.getD 0)).length)&&Nat.blt s.outs.length 1000&&Nat.blt s.ins.length 1000&&(Vi s.ins vs&&pl.all λl=>!((tks.map λt=>t.2.Vx)++Rn s tks (dst.getD 0)).contains l) then match s.fn x with
   |none=>none
   |some (r,o)=>match Hi s.ins o (vs++mK) st with
    |none=>none
    |some st1=>match ZQ s (dst.getD 0) ((aY (Dy (Rn s tks (dst.getD 0))) 0 s.outs r).drop s.Zp) with
     |none=>none
     |some v=>if cr (kd st st1 (dst.getD 0) s pl tks r).heap (aT st.heap (Rn s tks (dst.getD 0)) tks s.keeps) (s.Fb x) st.tmps=true then
       some (v,kD st (kd st st1 (dst.getD 0) s pl tks r) (aT st.heap (Rn s tks (dst.getD 0)) tks s.keeps) (s.Fb x)) else none
   else none
def Mx:List Operand->St->Option St
 | [],st=>some st
 |x::r,st=>match settle st (st.ev x) with
  |some (_,st')=>Mx r st'
  |none=>none
def Ob (st:St) (p x:Operand):St:=match st.ev p with
 | .at (.Gp l _)=>match T.marks.contains (eA+l) with
  |true=>match Mx [x] st with
   |some s0=>s0
   |none=>st
  |false=>st
 |_=>st
def dZ (s:Spec) (args:List AV):Bool:=!(s.fresh||s.res.flat||args.all (·.settled))
def evalOp (Γ:Env) (st:St) (o:Oper):Option (AV×St):=
 match o.op with
 | .assign x=>match st.ev x,o.dst,(T.elem o.type).bind λte=>(T.ty te).map λe=>(te,e) with
  | .at .Ln,some d,some (te,e)=>if d<Bl then some (.at (.own d 0 0),st.new d (.arr (T.sS||e.flat) T.z8 e te [])) else none
  |v,_,_=>some (v,st)
 | .alloc t=>match o.dst,T.ty t with
  |some d,some τ=>match T.marks.contains (qx+d) with
   |true=>rF st d t (Pn τ)
   |false=>mkVar T st d t τ (zeroCells τ)
  |_,_=>none
 | .box t x=>match o.dst,T.ty t with
  |some d,some τ=>match cellsOf τ (st.ev x) with
   |some cs=>match T.marks.contains (qx+d) with
    |true=>if cs.all (·.settled)=true then (Et st τ cs).map λp=>(.at (.data false (.optr τ) (some p.2)),st) else none
    |false=>mkVar T st d t τ cs
   |none=>none
  |_,_=>none
 | .store t p x=>(Pe T (Ob T st p x) t ((Ob T st p x).ev p) ((Ob T st p x).ev x)).map λs=>(.undef,s)
 | .makeSlice t l c=>match o.dst with
  |some d=>Wt T st d t (st.ev l) (st.ev c)
  |none=>none
 | .makeMap t none=>match o.dst with
  |some d=>Tx T st d t
  |none=>none
 | .mapUpdate t m k x=>(Ip T st t (st.ev m) (st.ev k) (st.ev x)).map λs=>(.undef,s)
 | .insert t m k x=>(Ip T st t (st.ev m) (st.ev k) (st.ev x)).map λs=>(.undef,s)
 | .buildSlice t len parts=>match o.dst with
  |some d=>Io T st d t len parts
  |none=>none
 | .build t parts=>(Wq T st t parts).map λv=>(v,st)
 | .call {callee:= .builtin .append,args,argTypes} =>match o.dst,args.toList,argTypes.toList with
  |some d,[x,y],[t,t']=>if t=t' then Qz T st d t x y else none
  |_,_,_=>none
 | .call {callee:= .builtin .copy,args,argTypes} =>match args.toList,argTypes.toList with
  | [x,y],[t,t']=>gl T st t t' (st.ev x) (st.ev y)
  |_,_=>none
 | .call {callee:= .builtin .clear,args,argTypes} =>match args.toList,argTypes.toList with
  | [x],[t]=>(evalClear T st t (st.ev x)).map λs=>(.undef,s)
  |_,_=>none
 | .call {callee:= .value (.func f),args, .. } =>match Γ f with
  |some (.m s)=>Wr st o.dst s (args.toList.map st.ev)
  |some (.q s)=>if dZ s (args.toList.map st.ev) then (match Mx args.toList st with
   |some st1=>(Eu T Γ st1 o).map λv=>(v,st1)
   |none=>none) else (Eu T Γ st o).map λv=>(v,st)
  |_=>(Eu T Γ st o).map λv=>(v,st)
 |_=>(Eu T Γ st o).map λv=>(v,st)
def ed (e:Ty):Nat->List (Nat×Operand)->St->Option (Bool×List e.den)
 |_,[],_=>some (true,[])
 |i,(j,x)::r,st=>
  if i=j/\(st.ev x).settled=true then match Ff st e (st.ev x),ed e (i+1) r st with
   |some (fr,y),some (Vc,ys)=>some (fr&&Vc,y::ys)
   |_,_=>none
  else none
def aJ (st:St) (t:TypeId) (len:Nat) (parts:Array (Nat×Operand)):Option AV:=
 match T.elem t with
 |none=>none
 |some te=>match T.ty te with
  |none=>none
  |some e=>if parts.size=len/\len<=64/\e.size<=64 then (ed e 0 parts.toList st).map λp=> .at (.data p.1 (.slice e) p.2) else none
def Wc (Γ:Env) (st:St) (o:Oper):Option AV:=
 match o.op with
 | .buildSlice t len parts=>aJ T st t len parts
 | .build t parts=>Wq T st t parts
 |_=>Eu T Γ st o
def UB (q:Bool) (Γ:Env) (o:Oper):Bool:=
 match o.op with
 | .buildSlice _ _ _| .build _ _=>!q
 | .alloc _| .box _ _| .store _ _ _| .makeSlice _ _ _| .makeMap _ _| .mapUpdate _ _ _ _| .insert _ _ _ _=>true
 | .assign (.const _)=>true
 | .call {callee:= .builtin .append, .. } =>true
 | .call {callee:= .builtin .copy, .. } =>true
 | .call {callee:= .builtin .clear, .. } =>true
 | .call {callee:= .value (.func f), .. } =>match Γ f with
  |some (.m _)=>true
  |_=>false
 |_=>false
def Er (Γ:Env) (ops:Array Oper) (st:St) (o:Oper):Option St:=
 match o.guard with
 |none=>(evalOp T Γ st o).map λr=>r.2.put o.dst r.1
 |some (j,want)=>match Wk st ((ops[j]?).bind (·.dst)) with
  |some (some b)=>if b==want then (evalOp T Γ st o).map λr=>r.2.put o.dst r.1 else some (st.put o.dst (.at .skip))
  |some none=>some (st.put o.dst (.at .skip))
  |none=>none
def Zx (Γ:Env) (ops:Array Oper):List Oper->St->Option St
 | [],st=>some st
 |o::r,st=>match Er T Γ ops st o with
  |some st'=>Zx Γ ops r st'
  |none=>none
def Iy (q:Bool) (Γ:Env) (ops:Array Oper):List Nat:=
 (List.range ops.size).foldl (init:= []) λacc i=>match ops[i]? with
  |some o=>if UB q Γ o||o.after.any (λe=>Region.binds .any e&&acc.contains e.on) then acc++ [i] else acc
  |none=>acc
def bE (q:Bool) (Γ:Env) (ops:Array Oper):List Nat:=(List.range ops.size).filter λi=>!(Iy q Γ ops).contains i
def lX (ops:Array Oper) (hd tl:List Nat) (i:Nat):Bool:=
 match ops[i]? with
 |some o=>(match o.op,o.guard with
  | .move (.tmp _),none=>true
  |_,_=>false)&&!((tl.take 1++hd).any λj=>decide (i<j)&&Region.waitsFor .any ops j i)
 |none=>false
def Va (q:Bool) (Γ:Env) (ops:Array Oper):List Nat:=(bE q Γ ops).filter λi=>lX ops (bE q Γ ops) (Iy q Γ ops) i
def Vf (q:Bool) (Γ:Env) (ops:Array Oper):List Nat:=(bE q Γ ops).filter λi=>!lX ops (bE q Γ ops) (Iy q Γ ops) i
def iH (q:Bool) (Γ:Env) (ops:Array Oper):List Nat:=Va q Γ ops++Vf q Γ ops
def TS (ops:Array Oper) (i:Nat):Bool:=match ops[i]? with
 |some o=>(match o.op,o.guard with
  | .extract _ _,none=>true
  |_,_=>false)
 |none=>false
def my (ops:Array Oper):List Nat->Array Bool->Bool
 | [],Af=>(Region.ready .any ops Af).isEmpty
 |k::r,Af=>(decide (Region.ready .any ops Af= [k])||(TS ops k&&((Region.ready .any ops Af).contains k&&Region.free .any ops Af k)))&&my ops r (Af.setIfInBounds k true)
def ng (ops:Array Oper) (tl:List Nat):List Nat->Array Bool->Bool
 | [],Af=>my ops tl Af
 |k::r,Af=>(Region.ready .any ops Af).contains k&&Region.free .any ops Af k&&ng ops tl r (Af.setIfInBounds k true)
def se (ops:Array Oper) (hd:List Nat):List Nat->Bool
 | []=>true
 |f::r=>(hd.all λi=>(f::hd).any λj=>decide (i<j)&&Region.waitsFor .any ops j i)&&r.all λt=>(f::r).any λk=>Region.waitsFor .any ops t k
def lG (ops:Array Oper) (tl hd:List Nat):List Nat->Array Bool->Bool
 | [],Af=>ng ops tl hd Af
 |k::r,Af=>(Region.ready .any ops Af).contains k&&Region.free .any ops Af k&&lG ops tl hd r (Af.setIfInBounds k true)
def bL (q:Bool) (Γ:Env) (ops:Array Oper):Bool:=
 Region.noSelect ops&&((Va q Γ ops).length+((Vf q Γ ops).length+(Iy q Γ ops).length)==ops.size)&&lG ops (Iy q Γ ops) (Vf q Γ ops) (Va q Γ ops) (Array.replicate ops.size false)&&se ops (Vf q Γ ops) (Iy q Γ ops)
def Vz (Γ:Env) (ops:Array Oper) (st:St) (o:Oper):Option AV:=
 match o.guard with
 |none=>Wc T Γ st o
 |some (j,want)=>match Wk st ((ops[j]?).bind (·.dst)) with
  |some (some b)=>if b==want then Wc T Γ st o else some (.at .skip)
  |some none=>some (.at .skip)
  |none=>none
def Fq (Γ:Env) (ops:Array Oper):List Nat->St->Option St
 | [],st=>some st
 |i::r,st=>match ops[i]? with
  |none=>none
  |some o=>match Vz T Γ ops st o with
   |some v=>Fq Γ ops r (st.put o.dst v)
   |none=>none
def Mk (Γ:Env) (ops:Array Oper):List Nat->St->Option St
 | [],st=>some st
 |i::r,st=>match ops[i]? with
  |none=>none
  |some o=>match Er T Γ ops st o with
   |some st'=>Mk Γ ops r st'
   |none=>none
def Rb (Γ:Env) (ops:Array Oper) (draw:Bool) (st:St):Option St:=
 if draw then (if bL false Γ ops then (match Fq T Γ ops (iH false Γ ops) st with
  |some st'=>Mk T Γ ops (Iy false Γ ops) st'
  |none=>none) else if bL true Γ ops then (match Fq T Γ ops (iH true Γ ops) st with
  |some st'=>Mk T Γ ops (Iy true Γ ops) st'
  |none=>none) else none)
 else Zx T Γ ops ops.toList st
def x9 (ops:Array Oper) (i:Nat):Bool:=match ops[i]? with
 |some o=>(match o.op,o.guard with
  | .move (.tmp _),none=>true
  |_,_=>false)
 |none=>false
def iK (ops:Array Oper) (i:Nat):Bool:=match ops[i]? with
 |some o=>(match o.op,o.guard with
  | .move (.tmp _),none=>true
  | .nilCheck _,none=>true
  | .fieldAddr _ _ _,none=>true
  |_,_=>false)
 |none=>false
def Ais (q:Bool) (ops:Array Oper) (i:Nat):Bool:=match q with
 |true=>iK ops i
 |false=>x9 ops i
def Iu (q:Bool) (ops:Array Oper):List Nat->Array Bool->List Nat
 | [],_=> []
 |i::r,Af=>if Ais q ops i&&((Region.ready .any ops Af).contains i&&Region.free .any ops Af i) then i::Iu q ops r (Af.setIfInBounds i true) else Iu q ops r Af
def UF (q:Bool) (ops:Array Oper):List Nat:=Iu q ops (List.range ops.size) (Array.replicate ops.size false)
def iF (q:Bool) (ops:Array Oper):Bool:=Nat.ble (ops.size-(UF q ops).length) 8
def Ju (ops:Array Oper):List Nat:=UF (!iF false ops) ops
def Ef:List Nat->Array Bool->Array Bool
 | [],Af=>Af
 |i::r,Af=>Ef r (Af.setIfInBounds i true)
def anyS (Γ:Env) (ops:Array Oper) (K:St->Prop):Nat->Array Bool->St->Prop
 |0,Af,st=>Region.ready .any ops Af= []/\K st
 |f+1,Af,st=>Region.ready .any ops Af≠ []/\ ∀i∈Region.ready .any ops Af,∃o st',ops[i]?=some o/\Er T Γ ops st o=some st'/\anyS Γ ops K f (Af.setIfInBounds i true) st'
def iL (ops:Array Oper) (i:Nat):Bool:=match ops[i]? with
 |some o=>(match o.op,o.guard with
  | .move _,none=>true
  | .load _ _,none=>true
  | .indexAddr _ _ _,none=>true
  | .fieldAddr _ _ _,none=>true
  |_,_=>false)
 |none=>false
def iO (ops:Array Oper):List Nat->Array Bool->List Nat
 | [],_=> []
 |i::r,Af=>if iL ops i&&((Region.ready .any ops Af).contains i&&Region.free .any ops Af i) then i::iO ops r (Af.setIfInBounds i true) else iO ops r Af
def nV (ops:Array Oper) (i j:Nat) (p:Oper->Oper->Bool):Bool:=match ops[i]?,ops[j]? with
 |some x,some y=>p x y
 |_,_=>false
def mH (ops:Array Oper) (x y:Oper):Bool:=match x.dst with
 |some d=>!(y.looksAt ops).contains d
 |none=>true
def FN (x y:Oper):Bool:=match x.dst with
 |some d=>y.dst !=some d
 |none=>true
def gW (ops:Array Oper):List Nat->Array Bool->Bool
 | [],_=>true
 |r::E,Af=>(Region.ready .any ops Af).contains r&&gW ops E (Af.setIfInBounds r true)
def xI (ops:Array Oper):List Nat->Bool
 | []=>true
 |r::E=>(nV ops r r (mH ops)&&E.all λq=>nV ops r q (λx y=>FN x y&&mH ops y x)&&(Region.waitsFor .any ops q r||nV ops r q (mH ops)))&&xI ops E
def XQ (ops:Array Oper) (E:List Nat) (L0:Array Bool):Bool:=E.all λr=>(List.range ops.size).all λj=>E.contains j||L0.getD j false||Region.waitsFor .any ops j r||nV ops r j (λx y=>x.apart ops y)
def bM (ops:Array Oper) (E:List Nat) (L0:Array Bool):Bool:=(E.all (iL ops)&&gW ops E L0)&&(xI ops E&&XQ ops E L0)
def pT (ops:Array Oper) (E:List Nat) (Af:Array Bool) (r:Nat):Bool:=(List.range ops.size).any λj=>!E.contains j&&(Af.getD j false&&Region.waitsFor .any ops j r)
def VQ (Γ:Env) (ops:Array Oper) (E:List Nat) (Af:Array Bool) (st:St):Prop:=
 ∀r∈E,pT ops E Af r=true\/ ∃o v,ops[r]?=some o/\Vz T Γ ops st o=some v/\ ∀d,o.dst=some d->st.get d=v
def p8 (Γ:Env) (ops:Array Oper) (E:List Nat) (K:St->Prop):Nat->Array Bool->St->Prop
 |0,Af,st=>VQ T Γ ops E Af st/\Region.ready .any ops Af= []/\K st
 |f+1,Af,st=>VQ T Γ ops E Af st/\Region.ready .any ops Af≠ []/\ ∀i∈Region.ready .any ops Af,∃o st',ops[i]?=some o/\Er T Γ ops st o=some st'/\p8 Γ ops E K f (Af.setIfInBounds i true) st'
def XP (Γ:Env) (ops:Array Oper) (K:St->Prop) (n:Nat) (L0:Array Bool) (bn:St):Prop:=
 ∃E st1,bM ops E L0=true/\E.length<=n/\Fq T Γ ops E bn=some st1/\p8 T Γ ops E K (n-E.length) (Ef E L0) st1
def xQ (Γ:Env) (draw:Bool):Env:= λf=>match Γ f with
 |some (.b s m)=>some (if draw then .q s else .m m)
 |r=>r
inductive Lc where
 |normal
 |exit (id:Nat)
 |ret
def Hp (live:List Nat):Nat->List AV->List AV
 |_,[]=> []
 |i,v::r=>(if live.contains i then v else .undef)::Hp live (i+1) r
def AV.refs:AV->List Nat
 | .at a=>a.refs
 | .agg cs=>cs.flatMap AC.refs
 | .ay _ _ _=> []
 | .Mh l=>l.flatMap λp=>p.2.flatMap AC.refs
def OB.refs:OB->List Nat
 | .var _ vs=>vs.flatMap AC.refs
 |_=> []
def ak:List Nat->St->St
 | [],st=>st
 |l::r,st=>ak r (st.forget l)
def nF (l k m:Nat):Nat:=if m=l then k else m
def Ug (l k:Nat):AC->AC
 | .own m off len=> .own (nF l k m) off len
 | .Gp m i=> .Gp (nF l k m) i
 | .Jm m i=> .Jm (nF l k m) i
 | .clo f Dz=> .clo f (Dz.map λp=>(nF l k p.1,p.2))
 | .Jt m=> .Jt (nF l k m)
 | .sub m i c=> .sub (nF l k m) i c
 | .Jj m i c=> .Jj (nF l k m) i c
 |a=>a
def St.rename (l k:Nat) (st:St):St:=
 match At st.heap k,At st.heap l with
 |none,some b=>if (Nat.blt l Bl&&Nat.blt k Bl)=true then
   (let s:=st.Km (Ug l k); {s with heap:=Nz (Zk s.heap l) k (b.map (Ug l k))}) else st
 |_,_=>st
def Mf:Nat->Nat->St->St
 |0,_,st=>st
 |n+1,t,st=>Mf n (t+1) (match st.get t with
  | .at (.own l _ _)=>match At st.heap l with
   |some (.arr _ _ _ _ _)=>if (st.tmps.take t).any (λv=>v.refs.contains l) then st else st.rename l (700000+t)
   |_=>st
  |_=>st)
def bP:Nat:=1000000007
def AC.Aby (flat:Bool):AC->AC
 | .data fr τ x=> .data (fr&&!(flat&&τ.flat)) τ x
 |c=>c
def OB.Ij (flat all one:Bool):OB->OB
 | .arr fr tr e tid xs=> .arr (fr&&!(all||(one||(flat&&e.flat)))) (tr&&!all) e tid xs
 | .var tid vs=> .var tid (vs.map (AC.Aby flat))
 |b=>b
def Td:Nat:=1000000009
def EF:Nat:=1100000000
def WW:Nat:=1200000000
def St.Ij (live:List Nat) (st:St):St:= {st with heap:=st.heap.map λp=>(p.1,p.2.Ij (live.contains Td) (live.contains (EF+p.1)) (live.contains (WW+p.1)))}
def Ri:Nat:=900000000
def aZ (t:Nat) (st:St):St:=match st.get t with
 | .at (.own l off len)=>match At st.heap l with
  |some (.arr fr tr e tid xs)=>if Nat.blt l Bl=true then (st.new l (.arr fr tr e tid ((xs.drop off).take len))).put (some t) (.at (.own l 0 ((xs.drop off).take len).length)) else st
  |_=>st
 |_=>st
def Oo:Nat:=1900000000
def RT:Nat:=950000000
def Pk (c:Nat) (st:St):St:=match At st.heap Oo with
 |some (.var _ vs)=>match vs[c]? with
  |some (.own l off len)=>match At st.heap l with
   |some (.arr fr tr e te xs)=>if Nat.blt l Bl=true then match At (st.new l (.arr fr tr e te ((xs.drop off).take len))).heap Oo with
     |some (.var tid vs')=>(st.new l (.arr fr tr e te ((xs.drop off).take len))).Ji Oo (.var tid (vs'.set c (.own l 0 ((xs.drop off).take len).length)))
     |_=>st
    else st
   |_=>st
  |_=>st
 |_=>st
def Pc (live:List Nat):Nat->Nat->St->St
 |0,_,st=>st
 |n+1,c,st=>Pc live n (c+1) (if live.contains (RT+c) then Pk c st else st)
def Ol (live:List Nat):Nat->Nat->St->St
 |0,_,st=>Pc live 16 0 st
 |n+1,t,st=>Ol live n (t+1) (if live.contains (Ri+t) then aZ t st else st)
def St.clean (live:List Nat) (st:St):St:=
 let s:St:= {st with tmps:=Hp live 0 st.tmps}
 let r1:=s.tmps.flatMap AV.refs
 let r2:=r1++(s.heap.filter λp=>r1.contains p.1).flatMap λp=>p.2.refs
 let s2:=ak ((s.heap.map (·.1)).filter λl=>!r2.contains l&&Nat.blt l Bl) s
 let s2:=if live.any (λt=>Nat.ble Ri t&&Nat.blt t bP) then Ol live s2.tmps.length 0 s2 else s2
 let s3:=if live.contains bP then Mf s2.tmps.length 0 s2 else s2
 if live.any (λt=>Nat.ble Td t) then s3.Ij live else s3
def Es:Code->Nat
 | .region id _ _=>id
 | .seq a _=>Es a
 | .cond _ a _=>Es a
 | .block _ c=>Es c
 | .loop c=>1000+Es c
 |_=>0
def Ac4 (a b:List Nat):List Nat:=a++b.filter λt=>!a.contains t
def xm:List Oper->List Nat->List Nat
 | [],out=>out
 |o::r,out=>Ac4 (o.op.operands.toList.filterMap λ | .tmp t=>some t|_=>none) (match o.dst with|some d=>(xm r out).filter (·!=d)|none=>xm r out)
def FO:List (Nat×List Nat)->Nat->List Nat
 | [],_=> []
 |(k,l)::r,id=>if k=id then l else FO r id
def oz:Code->List (Nat×List Nat)->List Nat->List Nat->List Nat×List (Nat×List Nat)
 | .region _ ops _,_,_,out=>(xm ops.toList out,[])
 | .seq a b,env,ret,out=>let rb:=oz b env ret out;let ra:=oz a env ret rb.1;(ra.1,ra.2++rb.2)
 | .cond c a b,env,ret,out=>let ra:=oz a env ret out;let rb:=oz b env ret out
  (Ac4 (match c with| .tmp t=> [t]|_=> []) (Ac4 ra.1 rb.1),ra.2++rb.2)
 | .block id c,env,ret,out=>oz c ((id,out)::env) ret out
 | .exit id,env,_,_=>(FO env id,[])
 | .ret,_,ret,_=>(ret,[])
 | .loop c,env,ret,_=>let l:=(oz c env ret []).1;let r:=oz c env ret l;(l,(Es c,l)::r.2)
 |_,_,_,out=>(out,[])
def xo:List ResultVar->List Nat
 | []=> []
 | .tmp t::r=>t::xo r
 | .cell p _::r=>p::xo r
def xl (marks:List Nat) (fn:Func) (c:Code):Nat->List Nat:=let ret:=xo fn.results.toList;let g:=FO (oz c [] ret ret).2;match marks with
 | []=>g
 |m=> λid=>g id++m
def St.Pv (dead:List Nat) (st:St):St:=
 let s:St:= {st with tmps:=Hp ((List.range st.tmps.length).filter λt=>!dead.contains t) 0 st.tmps}
 let r1:=s.tmps.flatMap AV.refs
 let r2:=r1++(s.heap.filter λp=>r1.contains p.1).flatMap λp=>p.2.refs
 ak ((s.heap.map (·.1)).filter λl=>!r2.contains l&&Nat.blt l Bl) s
def Xs (ops:Array Oper) (t:Nat):Bool:=ops.toList.any λo=>o.dst==some t
def je (Γ:Env) (ops:Array Oper) (draw:Bool) (st:St) (K:St->Prop):Prop:=
 (∃st',Rb T Γ ops draw st=some st'/\K st')\/
 (draw=true/\Region.noSelect ops=true/\ ∃bn,Fq T Γ ops (Ju ops) st=some bn/\
  (anyS T Γ ops K (ops.size-(Ju ops).length) (Ef (Ju ops) (Array.replicate ops.size false)) bn\/XP T Γ ops K (ops.size-(Ju ops).length) (Ef (Ju ops) (Array.replicate ops.size false)) bn))
def wo (Γ:Env) (ops:Array Oper) (draw:Bool) (st:St) (K:St->Prop):Prop:=
 je T Γ ops draw st K\/ ∃dead:List Nat,(dead.all (Xs ops))=true/\je T Γ ops draw st λs=>K (s.Pv dead)
def HM (K:St->Prop) (Q:Lc->St->Prop):Lc->St->Prop
 | .normal,s=>K s
 |e,s=>Q e s
def uV (id:Nat) (Q:Lc->St->Prop):Lc->St->Prop
 | .exit NK,s=>if NK=id then Q .normal s else Q (.exit NK) s
 |e,s=>Q e s
def VE (ops:Array Oper) (t:Nat):Bool:=ops.toList.any λo=>match o.op with
 | .extract (.tmp s) _=>Nat.beq s t
 | .move (.tmp s)=>Nat.beq s t
 | .assign (.tmp s)=>Nat.beq s t
 |_=>false
def Oe (ops:Array Oper):Nat->List AV->List AV
 |_,[]=> []
 |i, .Mh l::r=>(if VE ops i=true then .Mh l else .undef)::Oe ops (i+1) r
 |i,v::r=>v::Oe ops (i+1) r
def St.lp (ops:Array Oper) (st:St):St:= {st with tmps:=Oe ops 0 st.tmps}
inductive Ny (Γ:Env) (live:Nat->List Nat):Code->St->(Lc->St->Prop)->Prop where
 |skip {st:St} {Q:Lc->St->Prop} :Q .normal st->Ny Γ live .skip st Q
 |label {l:Nat} {st:St} {Q:Lc->St->Prop} :Q .normal st->Ny Γ live (.label l) st Q
 |exit {id:Nat} {st:St} {Q:Lc->St->Prop} :Q (.exit id) st->Ny Γ live (.exit id) st Q
 |ret {st:St} {Q:Lc->St->Prop} :Q .ret st->Ny Γ live .ret st Q
 |region {id:Nat} {ops:Array Oper} {draw:Bool} {st:St} {Q:Lc->St->Prop} :wo T (xQ Γ draw) ops draw (st.lp ops) (Q .normal)->Ny Γ live (.region id ops draw) st Q
 |seq {x y:Code} {st:St} {Q:Lc->St->Prop} (Q1:Lc->St->Prop):Ny Γ live x st Q1->(∀s,Q1 .normal s->Ny Γ live y s Q)->(∀e s,e≠ .normal->Q1 e s->Q e s)->Ny Γ live (.seq x y) st Q
 |cond {c:Operand} {x y:Code} {st:St} {fr t:Bool} {Q:Lc->St->Prop} :st.ev c= .at (.data fr .bool t)->(t=true->Ny Γ live x st Q)->(t=false->Ny Γ live y st Q)->Ny Γ live (.cond c x y) st Q
 |block {id:Nat} {c:Code} {st:St} {Q:Lc->St->Prop} (Q1:Lc->St->Prop):Ny Γ live c st Q1->(∀e s,Q1 e s->uV id Q e s)->Ny Γ live (.block id c) st Q
 |loop {c:Code} {st:St} {Q:Lc->St->Prop} (Q1:Lc->St->Prop):Ny Γ live c (st.clean (live (Es c))) Q1->(∀s,Q1 .normal s->Ny Γ live (.loop c) s Q)->(∀e s,e≠ .normal->Q1 e s->Q e s)->Ny Γ live (.loop c) st Q
def ck (st:St):List ResultVar->Option (List AV)
 | []=>some []
 | .tmp t::r=>(ck st r).map λl=>st.get t::l
 | .cell p t::r=>match Pq T st t (st.get p),ck st r with
  |some v,some l=>some (v::l)
  |_,_=>none
def lD (s:Spec) (fn:Func) (st:St):Option (Bool×s.res.den):=
 match ck T st fn.results.toList with
 |some [v]=>if s.Gh then none else Ff st s.res v
 |some [v,u]=>if s.Gh then Dq st s.res [v,u] else none
 |some [v,u,t]=>if s.Gh then Dq st s.res [v,u,t] else none
 |_=>none
def Sf:(τ:Ty)->τ.den->List AV
 | .pair a r,x=> .at (.data a.flat a x.1)::Sf r x.2
 |_,_=> []
def jd (st:St):(c:CK)->AC->Option (c.den×List Nat)
 | .Hx τ,a=>if τ.flat||a.settled then (Dk st τ a).map λp=>(p.2,[]) else none
 | .row e te, .own l off len=>match st.at l with
  |some (.arr _ _ e' Qr xs)=>if h:e'=e/\Qr=te then some ((((h.1▸xs:List e.den).drop off).take len),[l]) else none
  |_=>none
 | .row _ _, .Ln=>some ([],[])
 | .Gz e te, .own l off len=>match st.at l with
  |some (.arr _ tr e' Qr xs)=>if h:e'=e/\Qr=te/\(tr||e.flat)=true then some ((((h.1▸xs:List e.den).drop off).take len),[l]) else none
  |some (.Gg e' Qr xs)=>if h:e'=e/\Qr=te then some ((((h.1▸xs:List e.den).drop off).take len),[l]) else none
  |_=>none
 | .Gz _ _, .Ln=>some ([],[])
 | .Bo e te _, .own l off len=>match st.at l with
  |some (.Bo e' Qr rows none _)=>if h:e'=e/\Qr=te/\off=0/\len=rows.length then some ((h.1▸rows:List (List e.den)),[l]) else none
  |_=>none
 |_,_=>none
def Ue (st:St):(cs:List CK)->List AC->Option (CKs.den cs×List Nat)
 | [],[]=>some ((),[])
 |c::r,a::as=>match jd st c a,Ue st r as with
  |some (x,t1),some (y,t2)=>some ((x,y),t1++t2)
  |_,_=>none
 |_,_=>none
def o1 (st:St) (l:Nat):(c:CK)->Option c.den
 | .Hx _=>none
 | .row e te=>match st.at l with
  |some (.arr _ _ e' Qr xs)=>if h:e'=e/\Qr=te then some (h.1▸xs) else none
  |_=>none
 | .Gz e te=>match st.at l with
  |some (.Gg e' Qr xs)=>if h:e'=e/\Qr=te then some (h.1▸xs) else none
  |_=>none
 | .part _ _=>none
 | .Bo _ _ _=>none
def Od (st:St):(k:Nat)->(cs:List (Bool×CK))->Option (IOs.den cs)
 |_,[]=>some ()
 |k,(true, .Hx _)::r=>Od st (k+1) r
 |k,(true, .Bo _ _ _)::r=>Od st (k+1) r
 |k,(true, .row e te)::r=>match o1 st (Dr true k) (.row e te),Od st (k+1) r with
  |some x,some y=>some (x,y)
  |_,_=>none
 |k,(true, .Gz e te)::r=>match o1 st (Dr true k) (.Gz e te),Od st (k+1) r with
  |some x,some y=>some (x,y)
  |_,_=>none
 |k,(true, .part e te)::r=>match o1 st (Dr true k) (.row e te),Od st (k+1) r with
  |some x,some y=>some (x,y)
  |_,_=>none
 |k,(false,_)::r=>Od st (k+1) r
def Pg:(k:Nat)->List (Bool×CK)->List Nat
 |_,[]=> []
 |k,(true, .Hx _)::r=>Pg (k+1) r
 |k,(true, .Bo _ _ _)::r=>Pg (k+1) r
 |k,(true,_)::r=>Dr true k::Pg (k+1) r
 |k,(false,_)::r=>Pg (k+1) r
def Is:(k:Nat)->List (Bool×CK)->List AC->Option (List AC)
 |_,_,[]=>some []
 |k,(true, .row _ _)::r, .own l _ _::as=>if Nat.beq l (Dr true k) then Is (k+1) r as else none
 |k,(true, .Gz _ _)::r, .own l _ _::as=>if Nat.beq l (Dr true k) then Is (k+1) r as else none
 |k,(false,_)::r,a::as=>(Is (k+1) r as).map λl=>a::l
 |_,_,_=>none
def gI (st:St):List AC->List (Bool×CK)->Prop
 | .own l off len::as,(true,_)::r=>(off=0/\match st.at l with
  |some (.arr _ _ _ _ xs)=>len=xs.length
  |some (.Gg _ _ xs)=>len=xs.length
  |_=>False)/\gI st as r
 |_::as,(false,_)::r=>gI st as r
 |_,_=>True
def IH (s:MSpec) (st:St) (l:List AV):Option (List AC×List Nat):=match s.rp with
 |none=>if s.Gh=Nat.blt 1 l.length then (ungroup s.Hb l).map λas=>(as,[]) else none
 |some tid=>match l with
  | [.at (.Gp m i)]=>match st.at m with
   |some (.var Tw vs)=>if Tw=tid/\i=0/\Nat.blt m Bl=true then some (vs,[m]) else none
   |_=>none
  |_=>none
def ve (st:St) (n:Nat) (as:List AC):List (Nat×Nat)->Prop
 | []=>True
 |(k,j)::r=>(match as[j]? with
  |some (.own l _ _)=>match st.at l with
   |some (.Bo _ _ _ _ (some p))=>p.1=Dr false k/\n<=p.2/\Nat.blt k 1000=true
   |_=>False
  |_=>False)/\ve st n as r
def iQ (s:MSpec) (fn:Func) (x:Ins.den s.ins) (st:St) (cs:List AC) (P:CKs.den s.outs×IOs.den s.ins->Prop):Prop:=
 match ck T st fn.results.toList with
 |none=>False
 |some l=>match IH s st l with
  |none=>False
  |some (as,ml)=>match Ue st s.outs (cs++as),Od st 0 s.ins with
   |some (r,ls),some o=>(Zc (ml++ls++Pg 0 s.ins)&&Nat.blt s.ins.length 1000&&Nat.blt s.outs.length 1000&&s.UE)=true/\ve st (s.Fb x) (cs++as) s.keeps/\P (r,o)
   |_,_=>False
def RF (s:MSpec) (fn:Func) (x:Ins.den s.ins) (st:St) (P:CKs.den s.outs×IOs.den s.ins->Prop):Prop:=
 match s.ptr with
 |none=>iQ T s fn x st [] P
 |some p=> ∃vs cs,st.at Oo=some (.var p.1 vs)/\vs.length=p.2/\Is 0 s.ins vs=some cs/\gI st vs s.ins/\iQ T s fn x st cs P
def Zm (s:MSpec) (as:List AC):List AV:=match s.ptr with
 |none=>Sk s.Ih as
 |some p=> .at (.Gp Oo 0)::Sk s.Ih (as.drop p.2)
def ou (s:MSpec) (x:Ins.den s.ins):List (Nat×OB):=match s.ptr with
 |none=>Ym 0 s.ins x
 |some p=>Ym 0 s.ins x++ [(Oo, .var p.1 ((aR 0 s.ins x).take p.2))]
def Yp:List (Bool×CK)->Bool
 | []=>true
 |(true, .Bo _ _ _)::_=>false
 |_::r=>Yp r
def xK (s:MSpec):Bool:=Yp s.ins&&match s.ptr with
 |none=>true
 |some p=>Nat.ble p.2 s.ins.length
def Aad (Γ:Env) (s:MSpec) (fn:Func) (x:Ins.den s.ins) (P:CKs.den s.outs×IOs.den s.ins->Prop):Prop:=
 (Nat.blt s.ins.length 1000&&xK s)=true/\ ∃c,fn.body=some c/\Ny T Γ (xl T.marks fn c) c {tmps:=Zm s (aR 0 s.ins x)++List.replicate (fn.ntmps-(Zm s (aR 0 s.ins x)).length) .undef,heap:=ou s x}
  (λe st=>(∀id,e≠ .exit id)/\RF T s fn x st P)
def RG (Γ:Env) (s:Spec) (fn:Func) (x:s.arg.den) (P:s.res.den->Prop):Prop:=
 ∃c,fn.body=some c/\Ny T Γ (xl T.marks fn c) c {tmps:=Sf s.arg x++List.replicate (fn.ntmps-(Sf s.arg x).length) .undef,heap:= []}
  (λe st=>(∀id,e≠ .exit id)/\ ∃fr y,lD T s fn st=some (fr,y)/\(fr||!s.fresh)=true/\P y)
end Go.Proofs.Ytkkdpknjohcekaa
