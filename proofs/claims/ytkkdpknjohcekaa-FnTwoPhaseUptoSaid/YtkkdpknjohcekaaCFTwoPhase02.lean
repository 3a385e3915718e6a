/-
  Part 3 of the proof that the statement FnTwoPhase holds.
-/
import Derived.Test.YtkkdpknjohcekaaCFTwoPhase01
namespace Go.Proofs.Ytkkdpknjohcekaa
open Go.RowKit
def Hv:Nat->St->List AC->Option (List AC×St)
 |0,st,cs=>if cs.all (·.settled) then some (cs,st) else none
 |n+1,st,cs=>
  match cs.find? (λc=>!c.settled) with
  |none=>some (cs,st)
  |some (.own l _ _)=>match st.at l with
   |some (.arr fr _ e _ xs)=>Hv n (st.freeze l fr e xs) (cs.map (De l fr e xs))
   |some (.Hc e _ xs)=>Hv n (st.freeze l false e xs) (cs.map (De l false e xs))
   |_=>none
  |some (.Ky l)=>match st.at l with
   |some (.Wb v m)=>Hv n (st.Jb l v m) (cs.map (Hi l v m))
   |_=>none
  |some _=>none
def settle (st:St):AV->Option (AV×St)
 | .at (.own l off len)=>match st.at l with
  |some (.arr fr _ e _ xs)=>some (.at (.data fr (.slice e) ((xs.drop off).take len)),st.freeze l fr e xs)
  |some (.Hc e _ xs)=>some (.at (.data false (.slice e) ((xs.drop off).take len)),st.freeze l false e xs)
  |_=>none
 | .at (.Ky l)=>match st.at l with
  |some (.Wb v m)=>some (.at (.data false (.smap v) m),st.Jb l v m)
  |_=>none
 | .at a=>if a.settled then some (.at a,st) else none
 | .agg cs=>(Hv cs.length st cs).map λp=>(.agg p.1,p.2)
 | .bB fr τ x=>some (.bB fr τ x,st)
 | .Nd _=>none
def AC.refs:AC->List Nat
 | .own l _ _| .Ho l _| .Kp l _| .Ky l| .sub l _ _| .Km l _ _=> [l]
 | .clo _ Ew=>Ew.map (·.1)
 |_=> []
def aw:List Nat->Bool
 | []=>true
 |a::r=>!r.contains a&&aw r
def Ty.tree:Ty->Bool
 | .int _| .bool| .str| .unit=>true
 | .slice e=>e.tree
 | .pair a r=>a.tree&&r.tree
 |_=>false
def So (st:St):AC->Bool
 | .data _ τ _=>τ.flat
 | .Mj=>true
 | .own l _ _=>match st.at l with
  |some (.arr _ tr e _ _)=>tr||e.flat
  |some (.Hc _ _ _)=>true
  |_=>false
 |_=>false
def Ts (st:St):AV->Bool
 | .at a=>So st a
 | .agg cs=>cs.all (So st)&&aw (cs.flatMap AC.refs)
 |_=>false
def Bq:Nat:=1000000000
variable (T:Tab)
def QD (t:TypeId) (τ:Ty) (i:Nat):Option TypeId:=
 if τ.Ar then (List.range 24).findSome? λf=>match T.off t f with
  |some (o,u)=>if o=i then some u else none
  |none=>none
 else some t
def Tab.QQ (te:TypeId):Option Ty:=if T.Agl.contains te then (match T.ty te with
 |some (.slice e)=>some e
 |_=>none) else none
def dZ (te:TypeId) (e:Ty):OB:=match T.QQ te with
 |some e'=> .Bu e' te [] none none
 |none=> .arr (T.tb||e.flat) T.CG e te []
def Ve (b:OB) (key l i:Nat) (st:St):St:=
 match st.at l with
 |some (.var _ vs)=>match vs[i]? with
  |some .Mj=>
   let s1:=st.new key b
   match s1.at l with
   |some (.var tid vs')=>s1.Kl l (.var tid (Ta vs' i (.own key 0 0)))
   |_=>s1
  |_=>st
 |_=>st
def fO (l:Nat) (t:TypeId) (τ:Ty):Nat->Nat->St->St
 |0,_,st=>st
 |n+1,i,st=>
  fO l t τ n (i+1) (match ((QD T t τ i).bind T.elem).bind λte=>(T.ty te).map λe=>(te,e) with
   |some (te,e)=>Ve (dZ T te e) (100000+l*100+i) l i st
   |none=>st)
def eE (l off:Nat) (t:TypeId) (τ:Ty):Nat->Nat->St->St
 |0,_,st=>st
 |n+1,i,st=>
  eE l off t τ n (i+1) (match ((QD T t τ i).bind T.elem).bind λte=>(T.ty te).map λe=>(te,e) with
   |some (te,e)=>Ve (dZ T te e) (100000+l*100+(off+i)) l (off+i) st
   |none=>st)
def zeroCells:(τ:Ty)->List AC
 | .unit=> []
 | .pair a r=>zeroCells a++zeroCells r
 | .slice _=> [.Mj]
 | .oslice _=> [.Mj]
 | .ptr _=> [.Wa]
 | .optr _=> [.Wa]
 | .clo _ _=> [.undef]
 |τ=> [.data true τ τ.zero]
def cellsOf (τ:Ty):AV->Option (List AC)
 | .agg cs=>if τ.Ar&&cs.length==τ.size then some cs else none
 | .at (.data fr Ox x)=>if Ox=τ then some (Sr fr Ox x) else none
 | .at .undef=>none
 | .at .skip=>none
 | .at a=>if τ.Ar then none else some [a]
 |_=>none
def mkVar (st:St) (l:Nat) (t:TypeId) (τ:Ty) (cs:List AC):Option (AV×St):=
 if Bq<=100000+l*100+cs.length then none else
 let s:=fO T l t τ cs.length 0 (st.new l (.var t (cs.map (Cv l))))
 match s.at l with
 |some (.var _ _)=>some (.at (.Ho l 0),s)
 |_=>none
def Qf:(τ:Ty)->List AC
 | .unit=> []
 | .pair a r=>Qf a++Qf r
 | .slice e=> [.data false (.slice e) []]
 | .oslice _=> [.Mj]
 | .ptr _=> [.Wa]
 | .optr _=> [.Wa]
 | .clo _ _=> [.undef]
 |τ=> [.data false τ τ.zero]
def dY:Nat:=1300000000
def fZ:Nat:=1400000000
def u7 (st:St) (l:Nat) (t:TypeId) (cs:List AC):Option (AV×St):=
 if Bq<=100000+l*100+cs.length then none else some (.at (.Ho l 0),st.new l (.var t (cs.map (Cv l))))
def Dw {α:Type} (xs:List α) (i:Nat) (ys:List α):List α:=xs.take i++ys++xs.drop (i+ys.length)
def YT (st:St) (τ:Ty) (l:Nat) (v:AV):AV:=match T.marks.contains (dY+l)&&v.settled with
 |true=>match Ge st τ v with
  |some p=> .at (.data false τ p.2)
  |none=>v
 |false=>v
def Vl (st:St) (t:TypeId) (p v:AV):Option St:=
 match T.ty t,p with
 |some τ, .at (.Ho l i)=>match st.at l,cellsOf τ (YT T st τ l v) with
  |some (.var tid vs),some cs=>if i+cs.length<=vs.length then some (if τ.Ar&&Nat.blt (100000+l*100+(i+cs.length)) Bq then eE T l i t τ cs.length 0 (st.Kl l (.var tid (Dw vs i cs))) else st.Kl l (.var tid (Dw vs i cs))) else none
  |_,_=>none
 |some τ, .at (.Kp l j)=>match settle st v with
  |some (v',st')=>match st'.at l,Ge st' τ v' with
   |some (.arr fr tr e tid xs),some (Wm,x)=>if h:τ=e then (if j<xs.length then some (st'.Kl l (.arr (fr&&Wm) (tr&&(Ts st v&&e.tree)) e tid (xs.set j (h▸x)))) else none) else none
   |_,_=>none
  |none=>none
 |_,_=>none
def Dt:Nat:=4294967296
def On (st:St) (dst:Nat) (t:TypeId) (x y:Operand):Option (AV×St):=
 match T.elem t with
 |none=>none
 |some te=>match T.ty te,settle st (st.ev y) with
  |some e,some (y',st')=>match Ge st' (.slice e) y' with
   |none=>none
   |some (s9,ys)=>
    let tr2:=e.flat||(Ts st (st.ev y)&&e.tree)
    match st'.ev x with
    | .at .Mj=>if ys.length<=Dt/\dst<Bq then some (.at (.own dst 0 (0+ys.length)),(st'.new dst (.arr (T.tb||e.flat) T.CG e te [])).new dst (.arr ((T.tb||e.flat)&&(s9||e.flat)) (T.CG&&tr2) e te (((([]:List e.den).drop 0).take 0)++ys))) else none
    | .at (.own l off len)=>match st'.at l with
     |some (.arr fr tr e' tid xs)=>if h:e'=e/\tid=te then
       (if len+ys.length<=Dt/\l<Bq then
        some (.at (.own l 0 (len+ys.length)),st'.new l (.arr (fr&&(s9||e.flat)) (tr&&tr2) e te ((((h.1▸xs:List e.den).drop off).take len)++ys))) else none)
      else none
     |_=>none
    |_=>none
  |_,_=>none
def Qh (st:St) (l i m:Nat) (e:Ty) (te tid:TypeId) (rows:List (List e.den)) (kp:Option (Nat×Nat)):St:=
 (st.Kl l (.Bu e te rows (some i) kp)).new m (.arr false false e tid (rows.getD i []))
def Rx (st:St) (dst:Nat) (t:TypeId) (x y:Operand):Option (AV×St):=
 match x with
 | .tmp tx=>match st.get tx with
  | .at (.sub l i _)=>match st.at l,T.elem t with
   |some (.Bu e te rows none kp),some tid=>if (Nat.blt l Bq&&(Nat.blt dst Bq&&!Nat.beq dst l))=true then On T ((Qh st l i dst e te tid rows kp).put (some tx) (.at (.own dst 0 (rows.getD i []).length))) dst t x y else none
   |_,_=>none
  |_=>On T st dst t x y
 |_=>On T st dst t x y
def mS:Ty->Bool
 | .int _| .bool| .str| .slice _| .oslice _=>true
 |_=>false
def gy:Ty->Bool
 | .unit=>true
 | .pair a r=>gy a&&gy r
 |e=>mS e
def bO (st:St) (dst:Nat) (t:TypeId) (l c:AV):Option (AV×St):=
 match T.elem t,l,c with
 |some te, .at (.data _ (.int _) n), .at (.data _ (.int _) m)=>match T.ty te with
  |some e=>if inb n (Dt+1)=true/\n=m/\gy e=true/\dst<Bq then some (.at (.own dst 0 n.toNat),st.new dst (.arr (T.tb||e.flat) (T.CG&&e.tree) e te (List.replicate n.toNat e.zero))) else none
  |none=>none
 |_,_,_=>none
def Lx (e:Ty):Nat->List (Nat×Operand)->St->Option (Bool×Bool×List e.den×St)
 |_,[],st=>some (true,true,[],st)
 |i,(j,x)::r,st=>
  if i=j then match settle st (st.ev x) with
   |some (v,st')=>match Ge st' e v with
    |some (fr,y)=>match Lx e (i+1) r st' with
     |some (Wm,tr',ys,Avk)=>some (fr&&Wm,Ts st (st.ev x)&&e.tree&&tr',y::ys,Avk)
     |none=>none
    |none=>none
   |none=>none
  else none
def Mu (st:St) (dst:Nat) (t:TypeId) (len:Nat) (parts:Array (Nat×Operand)):Option (AV×St):=
 match T.elem t with
 |none=>none
 |some te=>match T.ty te with
  |none=>none
  |some e=>if parts.size=len/\len<=64/\e.size<=64/\dst<Bq then (match Lx e 0 parts.toList st with
   |some (fr,tr,ys,st')=>some (.at (.own dst 0 len),st'.new dst (.arr ((T.tb||e.flat)&&fr) (T.CG&&tr) e te ys))
   |none=>none) else none
def Vk (st:St) (dst:Nat) (t:TypeId):Option (AV×St):=
 match T.mapOf t with
 |some v=>if dst<Bq then some (.at (.Ky dst),st.new dst (.Wb v λ_=>none)) else none
 |none=>none
def gr {α:Type} (m:ByteArray->Option α) (k:ByteArray) (x:α):ByteArray->Option α:= λs=>if s=k then some x else m s
def Jo (st:St) (t:TypeId) (m k x:AV):Option St:=
 match T.mapOf t,m,k with
 |some v, .at (.Ky l), .at (.data _ .str s)=>match st.at l,Ge st v x with
  |some (.Wb v' f),some (_,y)=>if h:v'=v/\v.flat=true/\v.Ar=false then some (st.Kl l (.Wb v (gr (h.1▸f:ByteArray->Option v.den) s y))) else none
  |_,_=>none
 |_,_,_=>none
def iO (st:St) (t t':TypeId) (x y:AV):Option (AV×St):=
 match x,(T.elem t).bind T.ty with
 | .at (.own l off len),some e=>if T.elem t=T.elem t'/\e.flat=true/\e.size=1 then match st.at l,Ge st (.slice e) y with
  |some (.arr fr _ e' tid xs),some (_,ys)=>if h:e'=e/\T.elem t=some tid then
    some (.at (.data true (.int .i64) (min len ys.length:Nat)),st.Kl l (.arr fr false e tid (Dw (h.1▸xs:List e.den) off (ys.take len))))
   else none
  |_,_=>none
  else none
 |_,_=>none
def evalClear (st:St) (t:TypeId) (x:AV):Option St:=
 match x,(T.elem t).bind T.ty with
 | .at (.own l off len),some e=>if e.flat=true/\mS e=true then match st.at l with
  |some (.arr fr _ e' tid xs)=>if h:e'=e/\T.elem t=some tid then
    some (st.Kl l (.arr fr false e tid (Dw (h.1▸xs:List e.den) off (List.replicate len e.zero))))
   else none
  |_=>none
  else none
 |_,_=>none
def Mt (st:St) (t:TypeId):List (Nat×Operand)->List AC->Option (List AC)
 | [],cs=>some cs
 |(i,x)::r,cs=>
  match T.off t i with
  |some (o,u)=>match T.ty u with
   |some ρ=>match cellsOf ρ (st.ev x) with
    |some c=>if o+c.length<=cs.length then Mt st t r (Dw cs o c) else none
    |none=>none
   |none=>none
  |none=>none
def Ye (st:St) (t:TypeId) (parts:Array (Nat×Operand)):Option AV:=
 match T.ty t with
 |none=>none
 |some τ=>if τ.Ar then (Mt T st t parts.toList (zeroCells τ)).map .agg else none
def Em (io:Bool) (k:Nat):Nat:=if io then 1000000000+k else 500000+k
def Kq (k:Nat):Nat:=600000+k
def Aaw (dst:Nat) (k:Nat):Nat:=1000000*(dst+1)+k
def Tm:List (Option Nat)->List AC->List AV
 |none::s,a::as=> .at a::Tm s as
 |some n::s,as=> .agg (as.take n)::Tm s (as.drop n)
 |_,_=> []
def Lk:List (Option Nat)->List Value->List Value
 |none::s,u::us=>u::Lk s us
 |some n::s,us=> .agg (us.take n).toArray::Lk s (us.drop n)
 |_,_=> []
def ungroup:List (Option Nat)->List AV->Option (List AC)
 | [],[]=>some []
 |none::s, .at a::as=>(ungroup s as).map λr=>a::r
 |some n::s, .agg cs::as=>if cs.length=n then (ungroup s as).map λr=>cs++r else none
 |some n::s, .at (.data fr τ x)::as=>if τ.Ar=true/\(Sr fr τ x).length=n then (ungroup s as).map λr=>Sr fr τ x++r else none
 |_,_=>none
def kN (l:Nat):(c:CK)->c.den->Option OB
 | .Gw _,_=>none
 | .row e te,xs=>some (.arr false false e te xs)
 | .Ie e te,xs=>some (.Hc e te xs)
 | .part e te,x=>some (.arr false false e te x.1)
 | .Bu e te kp,xs=>some (.Bu e te xs none (if kp then some (l,List.length xs) else none))
def As4 (l:Nat):(c:CK)->c.den->AC
 | .Gw τ,x=> .data τ.flat τ x
 | .row _ _,xs=> .own l 0 (List.length xs)
 | .Ie _ _,xs=> .own l 0 (List.length xs)
 | .part _ _,x=> .own l x.2.1 x.2.2
 | .Bu _ _ _,xs=> .own l 0 (List.length xs)
def iI {α:Type} (l:Nat):Option α->List (Nat×α)->List (Nat×α)
 |none,r=>r
 |some b,r=>(l,b)::r
def Zz:(k:Nat)->(cs:List (Bool×CK))->Ins.den cs->List (Nat×OB)
 |_,[],_=> []
 |k,p::r,x=>iI (Em p.1 k) (kN (Em p.1 k) p.2 x.1) (Zz (k+1) r x.2)
def bX:(k:Nat)->(cs:List (Bool×CK))->Ins.den cs->List AC
 |_,[],_=> []
 |k,p::r,x=>As4 (Em p.1 k) p.2 x.1::bX (k+1) r x.2
inductive Loc where
 |row (l:Nat)
 |sub (l i c:Nat)
 |view (l:Nat)
 deriving DecidableEq
def Loc.Xn:Loc->Nat
 | .row l=>l
 | .sub l _ _=>l
 | .view l=>l
def Loc.reads:Loc->Bool
 | .view _=>true
 |_=>false
def cr (st:St) (ls:List Nat):Bool:=ls.all λl=>match st.at l with|some (.var _ vs)=>vs.all (·.settled)|_=>false
def views (k:Nat) (ls:List Nat):List (Nat×Loc):=ls.map λl=>(Em false k, .view l)
def Mn (st:St) (io:Bool) (k:Nat):(c:CK)->AC->Option (c.den×List (Nat×Loc))
 | .Gw τ, .own l off len=>(Ee st τ (.own l off len)).map λp=>(p.2,[(Em false k, .view l)])
 | .Gw τ, .clo g Ew=>if cr st (Ew.map (·.1))&&!τ.Ar then (Kj st τ (.clo g Ew)).map λp=>(p.2,views k (Ew.map (·.1))) else none
 | .Gw τ, .Ho l i=>if cr st [l]&&!τ.Ar then (Kj st τ (.Ho l i)).map λp=>(p.2,views k [l]) else none
 | .Gw τ, .sub l i c=>(Ee st τ (.sub l i c)).map λp=>(p.2,[(Em false k, .view l)])
 | .Gw τ,a=>if τ.flat||a.settled then (Ee st τ a).map λp=>(p.2,[]) else none
 | .row e te, .own l off len=>match st.at l with
  |some (.arr _ _ e' Ro xs)=>if h:e'=e/\Ro=te/\off=0/\len=xs.length then some ((h.1▸xs:List e.den),[(Em io k, .row l)]) else none
  |_=>none
 | .row e _, .sub l i c=>match st.at l with
  |some (.Hc e' _ xs)=>if h:e'= .slice e/\e.flat=true/\io=true/\c=0 then xs[i]?.map λy=>((h.1▸y:(Ty.slice e).den),[(Em io k, .sub l i c)]) else none
  |_=>none
 | .row _ _, .Mj=>some ([],[])
 | .Ie e te, .own l off len=>match st.at l with
  |some (.Hc e' Ro xs)=>if h:e'=e/\Ro=te/\off=0/\len=xs.length then some ((h.1▸xs:List e.den),[(Em io k, .row l)]) else none
  |_=>none
 | .Ie e _, .sub l i c=>match st.at l with
  |some (.Hc e' _ xs)=>if h:e'= .slice e/\io=true/\c=0 then xs[i]?.map λy=>((h.1▸y:(Ty.slice e).den),[(Em io k, .sub l i c)]) else none
  |_=>none
 | .Ie _ _, .Mj=>some ([],[])
 | .part e te, .own l off len=>match st.at l with
  |some (.arr _ _ e' Ro xs)=>if h:e'=e/\Ro=te/\e.flat=true/\io=true then some (((h.1▸xs:List e.den),off,len),[(Em io k, .row l)]) else none
  |_=>none
 | .Bu e te _, .own l off len=>match st.at l with
  |some (.Bu e' Ro rows none _)=>if h:e'=e/\Ro=te/\off=0/\len=rows.length/\io=false then some ((h.1▸rows:List (List e.den)),[(Em io k, .row l)]) else none
  |_=>none
 |_,_=>none
def gp (st:St):(k:Nat)->(cs:List (Bool×CK))->List AC->Option (Ins.den cs×List (Nat×Loc))
 |_,[],[]=>some ((),[])
 |k,p::r,a::as=>match Mn st p.1 k p.2 a,gp st (k+1) r as with
  |some (x,t1),some (y,t2)=>some ((x,y),t1++t2)
  |_,_=>none
 |_,_,_=>none
def cA (st:St):(c:CK)->c.den->AC->Option St
 | .row e _,ys, .own l _ len=>match st.at l with
  |some (.arr fr tr e' te xs)=>if h:e=e'/\List.length ys=len/\xs.length=len then some (st.Kl l (.arr (fr&&e'.flat) (tr&&e'.flat) e' te (h.1▸ys))) else none
  |_=>none
 | .Ie e _,ys, .own l _ len=>match st.at l with
  |some (.Hc e' te xs)=>if h:e=e'/\List.length ys=len/\xs.length=len then some (st.Kl l (.Hc e' te (h.1▸ys))) else none
  |_=>none
 | .row e _,ys, .sub l i _=>match st.at l with
  |some (.Hc e' te xs)=>if h: .slice e=e' then (match xs[i]? with
   |some y=>if List.length ys=List.length (h▸y:(Ty.slice e).den) then some (st.Kl l (.Hc e' te (xs.set i (h▸(ys:(Ty.slice e).den))))) else none
   |none=>none) else none
  |_=>none
 | .Ie e _,ys, .sub l i _=>match st.at l with
  |some (.Hc e' te xs)=>if h: .slice e=e' then (match xs[i]? with
   |some y=>if List.length ys=List.length (h▸y:(Ty.slice e).den) then some (st.Kl l (.Hc e' te (xs.set i (h▸(ys:(Ty.slice e).den))))) else none
   |none=>none) else none
  |_=>none
 |_,_, .Mj=>some st
 |_,_,_=>none
def NR (st:St) (e:Ty) (ys:List e.den):AC->Option St
 | .own l _ _=>match st.at l with
  |some (.arr fr tr e' te xs)=>if h:e=e'/\List.length ys=xs.length then some (st.Kl l (.arr fr tr e' te (h.1▸ys))) else none
  |_=>none
 |_=>none
def Ik:(cs:List (Bool×CK))->IOs.den cs->List AC->St->Option St
 | [],_,_,st=>some st
 |(true, .Gw _)::r,x,_::as,st=>Ik r x as st
 |(true, .row e te)::r,x,a::as,st=>match cA st (.row e te) x.1 a with
  |some st'=>Ik r x.2 as st'
  |none=>none
 |(true, .Ie e te)::r,x,a::as,st=>match cA st (.Ie e te) x.1 a with
  |some st'=>Ik r x.2 as st'
  |none=>none
 |(true, .part e _)::r,x,a::as,st=>match NR st e x.1 a with
  |some st'=>Ik r x.2 as st'
  |none=>none
 |(true, .Bu _ _ _)::r,x,_::as,st=>Ik r x as st
 |(false,_)::r,x,_::as,st=>Ik r x as st
 |_,_,_,_=>none
def Cx (dead part:List Nat) (c:AC):AC:=if c.refs.any (λl=>dead.contains l) then .undef else match c with
 | .sub l i c=>if part.contains l then .undef else .sub l i c
 | .Km l i c=>if part.contains l then .undef else .Km l i c
 |c=>c
def Yc:List (Nat×OB)->List Nat->List (Nat×OB)
 | [],_=> []
 |(k,b)::r,dead=>if dead.contains k then Yc r dead else (k,b)::Yc r dead
def St.cJ (st:St) (dead part:List Nat):St:=let s:=st.Ln (Cx dead part); {s with heap:=Yc s.heap dead}
def Ub (st:St) (l j m:Nat) (e:Ty) (te:TypeId) (rows:List (List e.den)) (xs:List e.den) (kp:Option (Nat×Nat)):St:=
 (st.cJ [m] [l]).Kl l (.Bu e te (rows.set j xs) none kp)
def c7 (j:Nat):Option (Nat×Nat)->Option (Nat×Nat)
 |none=>none
 |some p=>some (p.1,min p.2 j)
def bQ (st:St) (t:TypeId) (p v:AV):Option St:=
 match T.ty t,p with
 |some τ, .at (.Km l i j)=>match settle st v with
  |some (v',st')=>match st'.at l,Ge st' τ v' with
   |some (.Bu e te rows none kp),some (_,x)=>if h:τ=e then some (st'.Kl l (.Bu e te (rows.set i ((rows.getD i []).set j (h▸x))) none kp)) else none
   |_,_=>none
  |none=>none
 |some τ, .at (.Kp l j)=>match st.at l,v with
  |some (.Bu e te rows out kp), .at (.own m off len)=>match st.at m with
   |some (.arr _ _ e' _ xs)=>if h:e'=e/\(Nat.blt l Bq&&(!Nat.beq m l&&!τ.Ar))=true/\off=0/\len=xs.length/\(out=none\/out=some j) then some (Ub st l j m e te rows (h.1▸xs) (c7 j kp)) else none
   |_=>none
  |_,_=>none
 |_,_=>none
def QR (st:St):AV->Bool
 | .at (.Km _ _ _)=>true
 | .at (.Kp l _)=>match st.at l with
  |some (.Bu _ _ _ _ _)=>true
  |_=>false
 |_=>false
def Py (st:St) (t:TypeId) (p v:AV):Option St:=match QR st p with
 |true=>bQ T st t p v
 |false=>Vl T st t p v
def Rg (st:St) (k m:Nat) (b:OB):St:=let s:=st.cJ [m,k] []; {s with heap:=Pb s.heap k b}
def ej (t:TypeId):Option (TypeId×Ty):=(T.elem t).bind λte=>(T.QQ te).map λe=>(te,e)
def Yh (st:St) (dst:Nat) (t:TypeId) (l c:AV):Option (AV×St):=
 match ej T t with
 |none=>bO T st dst t l c
 |some (te,e)=>match l,c with
  | .at (.data _ (.int _) n), .at (.data _ (.int _) m)=>if inb n (Dt+1)=true/\n=m/\dst<Bq then some (.at (.own dst 0 n.toNat),Rg st dst dst (.Bu e te (List.replicate n.toNat []) none none)) else none
  |_,_=>none
def Jl (st:St) (dst:Nat) (t:TypeId) (len:Nat) (parts:Array (Nat×Operand)):Option (AV×St):=
 match ej T t with
 |none=>Mu T st dst t len parts
 |some (te,e)=>match parts.toList with
  | [(0,x)]=>match st.ev x with
   | .at (.own m off ln)=>match st.at m with
    |some (.arr _ _ e' _ xs)=>if h:e'=e/\(Nat.beq len 1&&(Nat.blt dst Bq&&Nat.blt m Bq))=true/\off=0/\ln=xs.length then some (.at (.own dst 0 1),Rg st dst m (.Bu e te [h.1▸xs] none none)) else none
    |_=>none
   |_=>none
  |_=>none
def Ry (st:St) (dst:Nat) (t:TypeId) (x y:Operand):Option (AV×St):=
 match ej T t with
 |none=>Rx T st dst t x y
 |some (te,e)=>match st.ev x,st.ev y with
  | .at (.own l off len), .at (.own m Aay tP)=>match st.at l,st.at m with
   |some (.Bu e1 te1 A none _),some (.Bu e2 wN B none _)=>
    if h:(e1=e/\e2=e)/\(decide (te1=te)&&decide (wN=te)&&(Nat.blt l Bq&&(Nat.blt m Bq&&!Nat.beq m l)))=true/\(off=0/\len=A.length)/\(Aay=0/\tP=B.length)/\0<B.length/\A.length+B.length<=Dt then
     some (.at (.own l 0 (A.length+B.length)),Rg st l m (.Bu e te ((h.1.1▸A:List (List e.den))++(h.1.2▸B:List (List e.den))) none none))
    else none
   |_,_=>none
  |_,_=>none
def wb (fr:Bool):(c:CK)->c.den->Option OB
 | .Gw _,_=>none
 | .row e te,xs=>some (.arr (fr&&e.flat) false e te xs)
 | .Ie e te,xs=>some (.Hc e te xs)
 | .part e te,x=>some (.arr (fr&&e.flat) false e te x.1)
 | .Bu e te _,xs=>some (.Bu e te xs none none)
def FM (H:List (Nat×OB)) (l:Nat):Option OB->List (Nat×OB)
 |some b=>Pb H l b
 |none=>H
def Yr (fr:Bool) (key:Nat->Nat):(k:Nat)->(cs:List CK)->CKs.den cs->List (Nat×OB)->List (Nat×OB)
 |_,[],_,H=>H
 |k,c::r,x,H=>Yr fr key (k+1) r x.2 (FM H (key k) (wb fr c x.1))
def cc (key:Nat->Nat):(k:Nat)->(cs:List CK)->CKs.den cs->List AC
 |_,[],_=> []
 |k,c::r,x=>(match c,x.1 with
  | .Gw τ,y=> .data τ.flat τ y
  | .row _ _,xs=> .own (key k) 0 (List.length xs)
  | .Ie _ _,xs=> .own (key k) 0 (List.length xs)
  | .Bu _ _ _,xs=> .own (key k) 0 (List.length xs)
  | .part _ _,_=> .undef)::cc key (k+1) r x.2
def ay:List (Option Nat)->List AC->List (Bool×List AC)
 |none::s,a::as=>(false,[a])::ay s as
 |some n::s,as=>(true,as.take n)::ay s (as.drop n)
 |_,_=> []
def Apv (Ij:Bool) (sh:List (Option Nat)) (as:List AC):Option AV:=
 if Ij then some (.Nd (ay sh as)) else match Tm sh as with
  | [v]=>some v
  | []=>some .undef
  |_=>none
def nw (tks:List (Nat×Loc)):List Nat:=(tks.filter λt=>Nat.blt t.1 Bq&&!t.2.reads).map λt=>t.2.Xn
def whole (tks:List (Nat×Loc)):List Nat:=tks.flatMap λt=>match t.2 with| .row l=> [l]|_=> []
def CM (tks:List (Nat×Loc)):List Nat:=(tks.filter λt=>t.2.reads).map λt=>t.2.Xn
def FX (ins:List (Bool×CK)) (te:TypeId) (used:List Nat):List (Nat×Loc)->Option Nat
 | []=>none
 |(k, .row l)::r=>if Nat.blt k Bq&&(!used.contains l&&(match ins[k-500000]? with
   |some (false, .row _ Ro)=>decide (Ro=te)
   |some (false, .Ie _ Ro)=>decide (Ro=te)
   |some (false, .Bu _ Ro _)=>decide (Ro=te)
   |_=>false)) then some l else FX ins te used r
 |_::r=>FX ins te used r
def MK (ins:List (Bool×CK)) (tks:List (Nat×Loc)) (d:Nat):(k:Nat)->(used:List Nat)->List CK->List Nat
 |_,_,[]=> []
 |k,used,c::r=>match (match c with
   | .row _ te=>FX ins te used tks
   | .Ie _ te=>FX ins te used tks
   | .Bu _ te _=>FX ins te used tks
   |_=>none) with
  |some l=>l::MK ins tks d (k+1) (l::used) r
  |none=>Aaw d k::MK ins tks d (k+1) used r
def nm (s:MSpec) (tks:List (Nat×Loc)) (d:Nat):List Nat:=MK s.ins tks d 0 [] s.outs
def Ev (ks:List Nat) (j:Nat):Nat:=match ks[j]? with
 |some l=>l
 |none=>Bq+j
def zE (ks:List Nat) (n:Nat):Bool:=Nat.beq ks.length n&&(aw ks&&ks.all λl=>Nat.blt l Bq)
def QM (st:St) (l:List Nat):Bool:=l.all λk=>match st.at k with|some (.arr fr _ _ _ _)=>fr|_=>false
def SA (st:St) (s:MSpec) (args:List AV):Option (List Nat×List AC×List AV):=
 match s.ptr with
 |none=>some ([],[],args)
 |some p=>match args with
  | .at (.Ho l i)::rest=>match st.at l with
   |some (.var tid vs)=>if tid=p.1/\vs.length=p.2/\i=0 then some ([l],vs,rest) else none
   |_=>none
  |_=>none
def Wr:List (Bool×CK)->List AC->Bool
 |(true, .row _ _)::r, .own _ _ _::as=>Wr r as
 |(true, .Ie _ _)::r, .own _ _ _::as=>Wr r as
 |(true,_)::_,_::_=>false
 |(false,_)::r,_::as=>Wr r as
 |_,as=>as.isEmpty
def gQ {α:Type} :List (Bool×CK)->List α->List α->List α
 |(true,_)::r,v::vs,as=>v::gQ r vs as
 |(false,_)::r,_::vs,a::as=>a::gQ r vs as
 |_,vs,_=>vs
def ux:List (Bool×CK)->Nat->Nat
 |(true,_)::r,n+1=>ux r n
 |(false,_)::r,n+1=>ux r n+1
 |_,_=>0
def MSpec.aK (s:MSpec):Nat:=match s.ptr with|none=>0|some p=>ux s.ins p.2
def rP (ins:List (Bool×CK)) (as:List AC) (pl:List Nat) (st:St):St:=
 match pl with
 | []=>st
 |l::_=>match st.at l with
  |some (.var tid vs)=>st.Kl l (.var tid (gQ ins vs as))
  |_=>st
def Tu (d:Nat):Nat:=Aaw d 999
def mI (s:MSpec) (d:Nat):List Nat:=match s.rp with|none=> []|some _=> [Tu d]
def Sq (s:MSpec) (tks:List (Nat×Loc)) (d:Nat):List Nat:=nm s tks d++mI s d
def nV (H:List (Nat×OB)) (l:Nat):Bool:=match Ay H l with
 |some (.Bu _ _ _ _ _)=>true
 |_=>false
def c6 (H:List (Nat×OB)) (ks:List Nat) (tks:List (Nat×Loc)):List (Nat×Nat)->List Nat
 | []=> []
 |(k,j)::r=>match tks.find? (λt=>Nat.beq t.1 (Em false k)),ks[j]? with
  |some (_, .row l),some l'=>if Nat.beq l' l&&nV H l then l::c6 H ks tks r else c6 H ks tks r
  |_,_=>c6 H ks tks r
def sd (H:List (Nat×OB)) (l:Nat):Nat:=match Ay H l with
 |some (.Bu _ _ rows _ _)=>rows.length
 |_=>0
def dJ (H:List (Nat×OB)) (ls:List Nat) (n:Nat):List AV->Bool
 | []=>true
 | .at (.sub l i _)::r=>(!ls.contains l||(Nat.blt i n&&Nat.blt i (sd H l)))&&dJ H ls n r
 |_::r=>dJ H ls n r
def Mg (ls:List Nat):List AV->List AV->List AV
 | .at (.sub l i c)::r,v::vs=>(if ls.contains l then .at (.sub l i c) else v)::Mg ls r vs
 |_::r,v::vs=>v::Mg ls r vs
 |_,vs=>vs
def Ak2:Option OB->Option (Nat×Nat)
 |some (.Bu _ _ _ _ kp)=>kp
 |_=>none
def OB.ID (b:OB) (kp:Option (Nat×Nat)):OB:=match b with
 | .Bu e te rows out _=> .Bu e te rows out kp
 |b=>b
def dA (H0:List (Nat×OB)) (ls:List Nat) (n:Nat):List (Nat×OB)->List (Nat×OB)
 | []=> []
 |(l,b)::r=>(l,if ls.contains l then b.ID (c7 n (Ak2 (Ay H0 l))) else b)::dA H0 ls n r
def mq (cw st:St) (ls:List Nat) (n:Nat):St:=match ls with
 | []=>st
 |_=> {tmps:=Mg ls cw.tmps st.tmps,heap:=dA cw.heap ls n st.heap}
def Afj (s:MSpec) (d:Nat) (as:List AC):Option AV:=match s.rp with
 |none=>Apv s.Ij s.Iu as
 |some _=>some (.at (.Ho (Tu d) 0))
def lX (st st1:St) (d:Nat) (s:MSpec) (pl:List Nat) (tks:List (Nat×Loc)) (r:CKs.den s.outs):St:=
 let ks:=Sq s tks d
 let key:=Ev ks
 let st2:=rP s.ins (cc key 0 s.outs r) pl (st1.cJ (nw tks++ks++(if s.flat then [] else CM tks)) (whole tks))
 {st2 with heap:=Yr (QM st (nw tks)) key 0 s.outs r (FM st2.heap (Tu d) (s.rp.map λtid=> .var tid ((cc key 0 s.outs r).drop s.aK)))}
def Yf (st:St) (dst:Option Nat) (s:MSpec) (args:List AV):Option (AV×St):=
 match SA st s args with
 |none=>none
 |some (pl,vs,rest)=>match ungroup s.Jy rest with
 |none=>none
 |some oN=>match gp st 0 s.ins (vs++oN) with
  |none=>none
  |some (x,tks)=>if aw (tks.map λt=>t.2.Xn)&&zE (Sq s tks (dst.getD 0)) (s.outs.length+(mI s (dst.getD 0)).length)&&Nat.blt s.outs.length 1000&&Nat.blt s.ins.length 1000&&(Wr s.ins vs&&pl.all λl=>!((tks.map λt=>t.2.Xn)++Sq s tks (dst.getD 0)).contains l) then match s.fn x with
   |none=>none
   |some (r,o)=>match Ik s.ins o (vs++oN) st with
    |none=>none
    |some st1=>match Afj s (dst.getD 0) ((cc (Ev (Sq s tks (dst.getD 0))) 0 s.outs r).drop s.aK) with
     |none=>none
     |some v=>if dJ (lX st st1 (dst.getD 0) s pl tks r).heap (c6 st.heap (Sq s tks (dst.getD 0)) tks s.keeps) (s.Fz x) st.tmps=true then
       some (v,mq st (lX st st1 (dst.getD 0) s pl tks r) (c6 st.heap (Sq s tks (dst.getD 0)) tks s.keeps) (s.Fz x)) else none
   else none
def Nu:List Operand->St->Option St
 | [],st=>some st
 |x::r,st=>match settle st (st.ev x) with
  |some (_,st')=>Nu r st'
  |none=>none
def Pe (st:St) (p x:Operand):St:=match st.ev p with
 | .at (.Ho l _)=>match T.marks.contains (fZ+l) with
  |true=>match Nu [x] st with
   |some s0=>s0
   |none=>st
  |false=>st
 |_=>st
def fJ (s:Spec) (args:List AV):Bool:=!(s.fresh||s.res.flat||args.all (·.settled))
def evalOp (Γ:Env) (st:St) (o:Oper):Option (AV×St):=
 match o.op with
 | .assign x=>match st.ev x,o.dst,(T.elem o.type).bind λte=>(T.ty te).map λe=>(te,e) with
  | .at .Mj,some d,some (te,e)=>if d<Bq then some (.at (.own d 0 0),st.new d (.arr (T.tb||e.flat) T.CG e te [])) else none
  |v,_,_=>some (v,st)
 | .alloc t=>match o.dst,T.ty t with
  |some d,some τ=>match T.marks.contains (dY+d) with
   |true=>u7 st d t (Qf τ)
   |false=>mkVar T st d t τ (zeroCells τ)
  |_,_=>none
 | .box t x=>match o.dst,T.ty t with
  |some d,some τ=>match cellsOf τ (st.ev x) with
   |some cs=>match T.marks.contains (dY+d) with
    |true=>if cs.all (·.settled)=true then (Fq st τ cs).map λp=>(.at (.data false (.optr τ) (some p.2)),st) else none
    |false=>mkVar T st d t τ cs
   |none=>none
  |_,_=>none
 | .store t p x=>(Py T (Pe T st p x) t ((Pe T st p x).ev p) ((Pe T st p x).ev x)).map λs=>(.undef,s)
 | .makeSlice t l c=>match o.dst with
  |some d=>Yh T st d t (st.ev l) (st.ev c)
  |none=>none
 | .makeMap t none=>match o.dst with
  |some d=>Vk T st d t
  |none=>none
 | .mapUpdate t m k x=>(Jo T st t (st.ev m) (st.ev k) (st.ev x)).map λs=>(.undef,s)
 | .insert t m k x=>(Jo T st t (st.ev m) (st.ev k) (st.ev x)).map λs=>(.undef,s)
 | .buildSlice t len parts=>match o.dst with
  |some d=>Jl T st d t len parts
  |none=>none
 | .build t parts=>(Ye T st t parts).map λv=>(v,st)
 | .call {callee:= .builtin .append,args,argTypes} =>match o.dst,args.toList,argTypes.toList with
  |some d,[x,y],[t,t']=>if t=t' then Ry T st d t x y else none
  |_,_,_=>none
 | .call {callee:= .builtin .copy,args,argTypes} =>match args.toList,argTypes.toList with
  | [x,y],[t,t']=>iO T st t t' (st.ev x) (st.ev y)
  |_,_=>none
 | .call {callee:= .builtin .clear,args,argTypes} =>match args.toList,argTypes.toList with
  | [x],[t]=>(evalClear T st t (st.ev x)).map λs=>(.undef,s)
  |_,_=>none
 | .call {callee:= .value (.func f),args, .. } =>match Γ f with
  |some (.m s)=>Yf st o.dst s (args.toList.map st.ev)
  |some (.q s)=>if fJ s (args.toList.map st.ev) then (match Nu args.toList st with
   |some st1=>(Ft T Γ st1 o).map λv=>(v,st1)
   |none=>none) else (Ft T Γ st o).map λv=>(v,st)
  |_=>(Ft T Γ st o).map λv=>(v,st)
 |_=>(Ft T Γ st o).map λv=>(v,st)
def fM (e:Ty):Nat->List (Nat×Operand)->St->Option (Bool×List e.den)
 |_,[],_=>some (true,[])
 |i,(j,x)::r,st=>
  if i=j/\(st.ev x).settled=true then match Ge st e (st.ev x),fM e (i+1) r st with
   |some (fr,y),some (Wm,ys)=>some (fr&&Wm,y::ys)
   |_,_=>none
  else none
def bN (st:St) (t:TypeId) (len:Nat) (parts:Array (Nat×Operand)):Option AV:=
 match T.elem t with
 |none=>none
 |some te=>match T.ty te with
  |none=>none
  |some e=>if parts.size=len/\len<=64/\e.size<=64 then (fM e 0 parts.toList st).map λp=> .at (.data p.1 (.slice e) p.2) else none
def Xt (Γ:Env) (st:St) (o:Oper):Option AV:=
 match o.op with
 | .buildSlice t len parts=>bN T st t len parts
 | .build t parts=>Ye T st t parts
 |_=>Ft T Γ st o
def Aan (q:Bool) (Γ:Env) (o:Oper):Bool:=
 match o.op with
 | .buildSlice _ _ _| .build _ _=>!q
 | .alloc _| .box _ _| .store _ _ _| .makeSlice _ _ _| .makeMap _ _| .mapUpdate _ _ _ _| .insert _ _ _ _=>true
 | .assign (.const _)=>true
 | .call {callee:= .builtin .append, .. } =>true
 | .call {callee:= .builtin .copy, .. } =>true
 | .call {callee:= .builtin .clear, .. } =>true
 | .call {callee:= .value (.func f), .. } =>match Γ f with
  |some (.m _)=>true
  |_=>false
 |_=>false
def Fm (Γ:Env) (ops:Array Oper) (st:St) (o:Oper):Option St:=
 match o.guard with
 |none=>(evalOp T Γ st o).map λr=>r.2.put o.dst r.1
 |some (j,want)=>match Xz st ((ops[j]?).bind (·.dst)) with
  |some (some b)=>if b==want then (evalOp T Γ st o).map λr=>r.2.put o.dst r.1 else some (st.put o.dst (.at .skip))
  |some none=>some (st.put o.dst (.at .skip))
  |none=>none
def aU (Γ:Env) (ops:Array Oper):List Oper->St->Option St
 | [],st=>some st
 |o::r,st=>match Fm T Γ ops st o with
  |some st'=>aU Γ ops r st'
  |none=>none
def Jx (q:Bool) (Γ:Env) (ops:Array Oper):List Nat:=
 (List.range ops.size).foldl (init:= []) λacc i=>match ops[i]? with
  |some o=>if Aan q Γ o||o.after.any (λe=>Region.binds .any e&&acc.contains e.on) then acc++ [i] else acc
  |none=>acc
def cL (q:Bool) (Γ:Env) (ops:Array Oper):List Nat:=(List.range ops.size).filter λi=>!(Jx q Γ ops).contains i
def nU (ops:Array Oper) (hd tl:List Nat) (i:Nat):Bool:=
 match ops[i]? with
 |some o=>(match o.op,o.guard with
  | .move (.tmp _),none=>true
  |_,_=>false)&&!((tl.take 1++hd).any λj=>decide (i<j)&&Region.waitsFor .any ops j i)
 |none=>false
def Wl (q:Bool) (Γ:Env) (ops:Array Oper):List Nat:=(cL q Γ ops).filter λi=>nU ops (cL q Γ ops) (Jx q Γ ops) i
def Wp (q:Bool) (Γ:Env) (ops:Array Oper):List Nat:=(cL q Γ ops).filter λi=>!nU ops (cL q Γ ops) (Jx q Γ ops) i
def kh (q:Bool) (Γ:Env) (ops:Array Oper):List Nat:=Wl q Γ ops++Wp q Γ ops
def Aaf (ops:Array Oper) (i:Nat):Bool:=match ops[i]? with
 |some o=>(match o.op,o.guard with
  | .extract _ _,none=>true
  |_,_=>false)
 |none=>false
def ov (ops:Array Oper):List Nat->Array Bool->Bool
 | [],Ah=>(Region.ready .any ops Ah).isEmpty
 |k::r,Ah=>(decide (Region.ready .any ops Ah= [k])||(Aaf ops k&&((Region.ready .any ops Ah).contains k&&Region.free .any ops Ah k)))&&ov ops r (Ah.setIfInBounds k true)
def ph (ops:Array Oper) (tl:List Nat):List Nat->Array Bool->Bool
 | [],Ah=>ov ops tl Ah
 |k::r,Ah=>(Region.ready .any ops Ah).contains k&&Region.free .any ops Ah k&&ph ops tl r (Ah.setIfInBounds k true)
def uF (ops:Array Oper) (hd:List Nat):List Nat->Bool
 | []=>true
 |f::r=>(hd.all λi=>(f::hd).any λj=>decide (i<j)&&Region.waitsFor .any ops j i)&&r.all λt=>(f::r).any λk=>Region.waitsFor .any ops t k
def nM (ops:Array Oper) (tl hd:List Nat):List Nat->Array Bool->Bool
 | [],Ah=>ph ops tl hd Ah
 |k::r,Ah=>(Region.ready .any ops Ah).contains k&&Region.free .any ops Ah k&&nM ops tl hd r (Ah.setIfInBounds k true)
def cV (q:Bool) (Γ:Env) (ops:Array Oper):Bool:=
 Region.noSelect ops&&((Wl q Γ ops).length+((Wp q Γ ops).length+(Jx q Γ ops).length)==ops.size)&&nM ops (Jx q Γ ops) (Wp q Γ ops) (Wl q Γ ops) (Array.replicate ops.size false)&&uF ops (Wp q Γ ops) (Jx q Γ ops)
def Xo (Γ:Env) (ops:Array Oper) (st:St) (o:Oper):Option AV:=
 match o.guard with
 |none=>Xt T Γ st o
 |some (j,want)=>match Xz st ((ops[j]?).bind (·.dst)) with
  |some (some b)=>if b==want then Xt T Γ st o else some (.at .skip)
  |some none=>some (.at .skip)
  |none=>none
def Gl (Γ:Env) (ops:Array Oper):List Nat->St->Option St
 | [],st=>some st
 |i::r,st=>match ops[i]? with
  |none=>none
  |some o=>match Xo T Γ ops st o with
   |some v=>Gl Γ ops r (st.put o.dst v)
   |none=>none
def Ni (Γ:Env) (ops:Array Oper):List Nat->St->Option St
 | [],st=>some st
 |i::r,st=>match ops[i]? with
  |none=>none
  |some o=>match Fm T Γ ops st o with
   |some st'=>Ni Γ ops r st'
   |none=>none
def Sa (Γ:Env) (ops:Array Oper) (draw:Bool) (st:St):Option St:=
 if draw then (if cV false Γ ops then (match Gl T Γ ops (kh false Γ ops) st with
  |some st'=>Ni T Γ ops (Jx false Γ ops) st'
  |none=>none) else if cV true Γ ops then (match Gl T Γ ops (kh true Γ ops) st with
  |some st'=>Ni T Γ ops (Jx true Γ ops) st'
  |none=>none) else none)
 else aU T Γ ops ops.toList st
def zy (ops:Array Oper) (i:Nat):Bool:=match ops[i]? with
 |some o=>(match o.op,o.guard with
  | .move (.tmp _),none=>true
  |_,_=>false)
 |none=>false
def kq (ops:Array Oper) (i:Nat):Bool:=match ops[i]? with
 |some o=>(match o.op,o.guard with
  | .move (.tmp _),none=>true
  | .nilCheck _,none=>true
  | .fieldAddr _ _ _,none=>true
  |_,_=>false)
 |none=>false
def Aq1 (q:Bool) (ops:Array Oper) (i:Nat):Bool:=match q with
 |true=>kq ops i
 |false=>zy ops i
def Jv (q:Bool) (ops:Array Oper):List Nat->Array Bool->List Nat
 | [],_=> []
 |i::r,Ah=>if Aq1 q ops i&&((Region.ready .any ops Ah).contains i&&Region.free .any ops Ah i) then i::Jv q ops r (Ah.setIfInBounds i true) else Jv q ops r Ah
def Aau (q:Bool) (ops:Array Oper):List Nat:=Jv q ops (List.range ops.size) (Array.replicate ops.size false)
def kd (q:Bool) (ops:Array Oper):Bool:=Nat.ble (ops.size-(Aau q ops).length) 8
def Kz (ops:Array Oper):List Nat:=Aau (!kd false ops) ops
def Fa:List Nat->Array Bool->Array Bool
 | [],Ah=>Ah
 |i::r,Ah=>Fa r (Ah.setIfInBounds i true)
def anyS (Γ:Env) (ops:Array Oper) (K:St->Prop):Nat->Array Bool->St->Prop
 |0,Ah,st=>Region.ready .any ops Ah= []/\K st
 |f+1,Ah,st=>Region.ready .any ops Ah≠ []/\ ∀i∈Region.ready .any ops Ah,∃o st',ops[i]?=some o/\Fm T Γ ops st o=some st'/\anyS Γ ops K f (Ah.setIfInBounds i true) st'
def kr (ops:Array Oper) (i:Nat):Bool:=match ops[i]? with
 |some o=>(match o.op,o.guard with
  | .move _,none=>true
  | .load _ _,none=>true
  | .indexAddr _ _ _,none=>true
  | .fieldAddr _ _ _,none=>true
  |_,_=>false)
 |none=>false
def kA (ops:Array Oper):List Nat->Array Bool->List Nat
 | [],_=> []
 |i::r,Ah=>if kr ops i&&((Region.ready .any ops Ah).contains i&&Region.free .any ops Ah i) then i::kA ops r (Ah.setIfInBounds i true) else kA ops r Ah
def q7 (ops:Array Oper) (i j:Nat) (p:Oper->Oper->Bool):Bool:=match ops[i]?,ops[j]? with
 |some x,some y=>p x y
 |_,_=>false
def oK (ops:Array Oper) (x y:Oper):Bool:=match x.dst with
 |some d=>!(y.looksAt ops).contains d
 |none=>true
def LD (x y:Oper):Bool:=match x.dst with
 |some d=>y.dst !=some d
 |none=>true
def jq (ops:Array Oper):List Nat->Array Bool->Bool
 | [],_=>true
 |r::E,Ah=>(Region.ready .any ops Ah).contains r&&jq ops E (Ah.setIfInBounds r true)
def AG (ops:Array Oper):List Nat->Bool
 | []=>true
 |r::E=>(q7 ops r r (oK ops)&&E.all λq=>q7 ops r q (λx y=>LD x y&&oK ops y x)&&(Region.waitsFor .any ops q r||q7 ops r q (oK ops)))&&AG ops E
def Adw (ops:Array Oper) (E:List Nat) (L0:Array Bool):Bool:=E.all λr=>(List.range ops.size).all λj=>E.contains j||L0.getD j false||Region.waitsFor .any ops j r||q7 ops r j (λx y=>x.apart ops y)
def cW (ops:Array Oper) (E:List Nat) (L0:Array Bool):Bool:=(E.all (kr ops)&&jq ops E L0)&&(AG ops E&&Adw ops E L0)
def sn (ops:Array Oper) (E:List Nat) (Ah:Array Bool) (r:Nat):Bool:=(List.range ops.size).any λj=>!E.contains j&&(Ah.getD j false&&Region.waitsFor .any ops j r)
def Abz (Γ:Env) (ops:Array Oper) (E:List Nat) (Ah:Array Bool) (st:St):Prop:=
 ∀r∈E,sn ops E Ah r=true\/ ∃o v,ops[r]?=some o/\Xo T Γ ops st o=some v/\ ∀d,o.dst=some d->st.get d=v
def ru (Γ:Env) (ops:Array Oper) (E:List Nat) (K:St->Prop):Nat->Array Bool->St->Prop
 |0,Ah,st=>Abz T Γ ops E Ah st/\Region.ready .any ops Ah= []/\K st
 |f+1,Ah,st=>Abz T Γ ops E Ah st/\Region.ready .any ops Ah≠ []/\ ∀i∈Region.ready .any ops Ah,∃o st',ops[i]?=some o/\Fm T Γ ops st o=some st'/\ru Γ ops E K f (Ah.setIfInBounds i true) st'
def Adv (Γ:Env) (ops:Array Oper) (K:St->Prop) (n:Nat) (L0:Array Bool) (cw:St):Prop:=
 ∃E st1,cW ops E L0=true/\E.length<=n/\Gl T Γ ops E cw=some st1/\ru T Γ ops E K (n-E.length) (Fa E L0) st1
def AN (Γ:Env) (draw:Bool):Env:= λf=>match Γ f with
 |some (.b s m)=>some (if draw then .q s else .m m)
 |r=>r
inductive Md where
 |normal
 |exit (id:Nat)
 |ret
def It (live:List Nat):Nat->List AV->List AV
 |_,[]=> []
 |i,v::r=>(if live.contains i then v else .undef)::It live (i+1) r
def AV.refs:AV->List Nat
 | .at a=>a.refs
 | .agg cs=>cs.flatMap AC.refs
 | .bB _ _ _=> []
 | .Nd l=>l.flatMap λp=>p.2.flatMap AC.refs
def OB.refs:OB->List Nat
 | .var _ vs=>vs.flatMap AC.refs
 |_=> []
def bp:List Nat->St->St
 | [],st=>st
 |l::r,st=>bp r (st.forget l)
def pM (l k m:Nat):Nat:=if m=l then k else m
def Vt (l k:Nat):AC->AC
 | .own m off len=> .own (pM l k m) off len
 | .Ho m i=> .Ho (pM l k m) i
 | .Kp m i=> .Kp (pM l k m) i
 | .clo f Ew=> .clo f (Ew.map λp=>(pM l k p.1,p.2))
 | .Ky m=> .Ky (pM l k m)
 | .sub m i c=> .sub (pM l k m) i c
 | .Km m i c=> .Km (pM l k m) i c
 |a=>a
def St.rename (l k:Nat) (st:St):St:=
 match Ay st.heap k,Ay st.heap l with
 |none,some b=>if (Nat.blt l Bq&&Nat.blt k Bq)=true then
   (let s:=st.Ln (Vt l k); {s with heap:=Pb (aG s.heap l) k (b.map (Vt l k))}) else st
 |_,_=>st
def Na:Nat->Nat->St->St
 |0,_,st=>st
 |n+1,t,st=>Na n (t+1) (match st.get t with
  | .at (.own l _ _)=>match Ay st.heap l with
   |some (.arr _ _ _ _ _)=>if (st.tmps.take t).any (λv=>v.refs.contains l) then st else st.rename l (700000+t)
   |_=>st
  |_=>st)
def cZ:Nat:=1000000007
def AC.Ai3 (flat:Bool):AC->AC
 | .data fr τ x=> .data (fr&&!(flat&&τ.flat)) τ x
 |c=>c
def OB.Jh (flat all one:Bool):OB->OB
 | .arr fr tr e tid xs=> .arr (fr&&!(all||(one||(flat&&e.flat)))) (tr&&!all) e tid xs
 | .var tid vs=> .var tid (vs.map (AC.Ai3 flat))
 |b=>b
def Um:Nat:=1000000009
def jY:Nat:=1100000000
def Ad6:Nat:=1200000000
def St.Jh (live:List Nat) (st:St):St:= {st with heap:=st.heap.map λp=>(p.1,p.2.Jh (live.contains Um) (live.contains (jY+p.1)) (live.contains (Ad6+p.1)))}
def Mz:Nat:=900000000
def cd (t:Nat) (st:St):St:=match st.get t with
 | .at (.own l off len)=>match Ay st.heap l with
  |some (.arr fr tr e tid xs)=>if Nat.blt l Bq=true then (st.new l (.arr fr tr e tid ((xs.drop off).take len))).put (some t) (.at (.own l 0 ((xs.drop off).take len).length)) else st
  |_=>st
 |_=>st
def Pp:Nat:=1900000000
def YO:Nat:=950000000
def Qc (c:Nat) (st:St):St:=match Ay st.heap Pp with
 |some (.var _ vs)=>match vs[c]? with
  |some (.own l off len)=>match Ay st.heap l with
   |some (.arr fr tr e te xs)=>if Nat.blt l Bq=true then match Ay (st.new l (.arr fr tr e te ((xs.drop off).take len))).heap Pp with
     |some (.var tid vs')=>(st.new l (.arr fr tr e te ((xs.drop off).take len))).Kl Pp (.var tid (vs'.set c (.own l 0 ((xs.drop off).take len).length)))
     |_=>st
    else st
   |_=>st
  |_=>st
 |_=>st
def Pw (live:List Nat):Nat->Nat->St->St
 |0,_,st=>st
 |n+1,c,st=>Pw live n (c+1) (if live.contains (YO+c) then Qc c st else st)
def Pn (live:List Nat):Nat->Nat->St->St
 |0,_,st=>Pw live 16 0 st
 |n+1,t,st=>Pn live n (t+1) (if live.contains (Mz+t) then cd t st else st)
def St.clean (live:List Nat) (st:St):St:=
 let s:St:= {st with tmps:=It live 0 st.tmps}
 let r1:=s.tmps.flatMap AV.refs
 let r2:=r1++(s.heap.filter λp=>r1.contains p.1).flatMap λp=>p.2.refs
 let s2:=bp ((s.heap.map (·.1)).filter λl=>!r2.contains l&&Nat.blt l Bq) s
 let s2:=if live.any (λt=>Nat.ble Mz t&&Nat.blt t cZ) then Pn live s2.tmps.length 0 s2 else s2
 let s3:=if live.contains cZ then Na s2.tmps.length 0 s2 else s2
 if live.any (λt=>Nat.ble Um t) then s3.Jh live else s3
def Fo:Code->Nat
 | .region id _ _=>id
 | .seq a _=>Fo a
 | .cond _ a _=>Fo a
 | .block _ c=>Fo c
 | .loop c=>1000+Fo c
 |_=>0
def Ai8 (a b:List Nat):List Nat:=a++b.filter λt=>!a.contains t
def zJ:List Oper->List Nat->List Nat
 | [],out=>out
 |o::r,out=>Ai8 (o.op.operands.toList.filterMap λ | .tmp t=>some t|_=>none) (match o.dst with|some d=>(zJ r out).filter (·!=d)|none=>zJ r out)
def LF:List (Nat×List Nat)->Nat->List Nat
 | [],_=> []
 |(k,l)::r,id=>if k=id then l else LF r id
def qF:Code->List (Nat×List Nat)->List Nat->List Nat->List Nat×List (Nat×List Nat)
 | .region _ ops _,_,_,out=>(zJ ops.toList out,[])
 | .seq a b,env,ret,out=>let rb:=qF b env ret out;let ra:=qF a env ret rb.1;(ra.1,ra.2++rb.2)
 | .cond c a b,env,ret,out=>let ra:=qF a env ret out;let rb:=qF b env ret out
  (Ai8 (match c with| .tmp t=> [t]|_=> []) (Ai8 ra.1 rb.1),ra.2++rb.2)
 | .block id c,env,ret,out=>qF c ((id,out)::env) ret out
 | .exit id,env,_,_=>(LF env id,[])
 | .ret,_,ret,_=>(ret,[])
 | .loop c,env,ret,_=>let l:=(qF c env ret []).1;let r:=qF c env ret l;(l,(Fo c,l)::r.2)
 |_,_,_,out=>(out,[])
def zK:List ResultVar->List Nat
 | []=> []
 | .tmp t::r=>t::zK r
 | .cell p _::r=>p::zK r
def zI (marks:List Nat) (fn:Func) (c:Code):Nat->List Nat:=let ret:=zK fn.results.toList;let g:=LF (qF c [] ret ret).2;match marks with
 | []=>g
 |m=> λid=>g id++m
def St.Qn (dead:List Nat) (st:St):St:=
 let s:St:= {st with tmps:=It ((List.range st.tmps.length).filter λt=>!dead.contains t) 0 st.tmps}
 let r1:=s.tmps.flatMap AV.refs
 let r2:=r1++(s.heap.filter λp=>r1.contains p.1).flatMap λp=>p.2.refs
 bp ((s.heap.map (·.1)).filter λl=>!r2.contains l&&Nat.blt l Bq) s
def Ze (ops:Array Oper) (t:Nat):Bool:=ops.toList.any λo=>o.dst==some t
def kV (Γ:Env) (ops:Array Oper) (draw:Bool) (st:St) (K:St->Prop):Prop:=
 (∃st',Sa T Γ ops draw st=some st'/\K st')\/
 (draw=true/\Region.noSelect ops=true/\ ∃cw,Gl T Γ ops (Kz ops) st=some cw/\
  (anyS T Γ ops K (ops.size-(Kz ops).length) (Fa (Kz ops) (Array.replicate ops.size false)) cw\/Adv T Γ ops K (ops.size-(Kz ops).length) (Fa (Kz ops) (Array.replicate ops.size false)) cw))
def yI (Γ:Env) (ops:Array Oper) (draw:Bool) (st:St) (K:St->Prop):Prop:=
 kV T Γ ops draw st K\/ ∃dead:List Nat,(dead.all (Ze ops))=true/\kV T Γ ops draw st λs=>K (s.Qn dead)
def MY (K:St->Prop) (Q:Md->St->Prop):Md->St->Prop
 | .normal,s=>K s
 |e,s=>Q e s
def xz (id:Nat) (Q:Md->St->Prop):Md->St->Prop
 | .exit TX,s=>if TX=id then Q .normal s else Q (.exit TX) s
 |e,s=>Q e s
def Abp (ops:Array Oper) (t:Nat):Bool:=ops.toList.any λo=>match o.op with
 | .extract (.tmp s) _=>Nat.beq s t
 | .move (.tmp s)=>Nat.beq s t
 | .assign (.tmp s)=>Nat.beq s t
 |_=>false
def Ph (ops:Array Oper):Nat->List AV->List AV
 |_,[]=> []
 |i, .Nd l::r=>(if Abp ops i=true then .Nd l else .undef)::Ph ops (i+1) r
 |i,v::r=>v::Ph ops (i+1) r
def St.nv (ops:Array Oper) (st:St):St:= {st with tmps:=Ph ops 0 st.tmps}
inductive Oy (Γ:Env) (live:Nat->List Nat):Code->St->(Md->St->Prop)->Prop where
 |skip {st:St} {Q:Md->St->Prop} :Q .normal st->Oy Γ live .skip st Q
 |label {l:Nat} {st:St} {Q:Md->St->Prop} :Q .normal st->Oy Γ live (.label l) st Q
 |exit {id:Nat} {st:St} {Q:Md->St->Prop} :Q (.exit id) st->Oy Γ live (.exit id) st Q
 |ret {st:St} {Q:Md->St->Prop} :Q .ret st->Oy Γ live .ret st Q
 |region {id:Nat} {ops:Array Oper} {draw:Bool} {st:St} {Q:Md->St->Prop} :yI T (AN Γ draw) ops draw (st.nv ops) (Q .normal)->Oy Γ live (.region id ops draw) st Q
 |seq {x y:Code} {st:St} {Q:Md->St->Prop} (Q1:Md->St->Prop):Oy Γ live x st Q1->(∀s,Q1 .normal s->Oy Γ live y s Q)->(∀e s,e≠ .normal->Q1 e s->Q e s)->Oy Γ live (.seq x y) st Q
 |cond {c:Operand} {x y:Code} {st:St} {fr t:Bool} {Q:Md->St->Prop} :st.ev c= .at (.data fr .bool t)->(t=true->Oy Γ live x st Q)->(t=false->Oy Γ live y st Q)->Oy Γ live (.cond c x y) st Q
 |block {id:Nat} {c:Code} {st:St} {Q:Md->St->Prop} (Q1:Md->St->Prop):Oy Γ live c st Q1->(∀e s,Q1 e s->xz id Q e s)->Oy Γ live (.block id c) st Q
 |loop {c:Code} {st:St} {Q:Md->St->Prop} (Q1:Md->St->Prop):Oy Γ live c (st.clean (live (Fo c))) Q1->(∀s,Q1 .normal s->Oy Γ live (.loop c) s Q)->(∀e s,e≠ .normal->Q1 e s->Q e s)->Oy Γ live (.loop c) st Q
def dE (st:St):List ResultVar->Option (List AV)
 | []=>some []
 | .tmp t::r=>(dE st r).map λl=>st.get t::l
 | .cell p t::r=>match Qi T st t (st.get p),dE st r with
  |some v,some l=>some (v::l)
  |_,_=>none
def nI (s:Spec) (fn:Func) (st:St):Option (Bool×s.res.den):=
 match dE T st fn.results.toList with
 |some [v]=>if s.Ij then none else Ge st s.res v
 |some [v,u]=>if s.Ij then El st s.res [v,u] else none
 |some [v,u,t]=>if s.Ij then El st s.res [v,u,t] else none
 |_=>none
def Tj:(τ:Ty)->τ.den->List AV
 | .pair a r,x=> .at (.data a.flat a x.1)::Tj r x.2
 |_,_=> []
def kT (st:St):(c:CK)->AC->Option (c.den×List Nat)
 | .Gw τ,a=>if τ.flat||a.settled then (Ee st τ a).map λp=>(p.2,[]) else none
 | .row e te, .own l off len=>match st.at l with
  |some (.arr _ _ e' Ro xs)=>if h:e'=e/\Ro=te then some ((((h.1▸xs:List e.den).drop off).take len),[l]) else none
  |_=>none
 | .row _ _, .Mj=>some ([],[])
 | .Ie e te, .own l off len=>match st.at l with
  |some (.arr _ tr e' Ro xs)=>if h:e'=e/\Ro=te/\(tr||e.flat)=true then some ((((h.1▸xs:List e.den).drop off).take len),[l]) else none
  |some (.Hc e' Ro xs)=>if h:e'=e/\Ro=te then some ((((h.1▸xs:List e.den).drop off).take len),[l]) else none
  |_=>none
 | .Ie _ _, .Mj=>some ([],[])
 | .Bu e te _, .own l off len=>match st.at l with
  |some (.Bu e' Ro rows none _)=>if h:e'=e/\Ro=te/\off=0/\len=rows.length then some ((h.1▸rows:List (List e.den)),[l]) else none
  |_=>none
 |_,_=>none
def Vr (st:St):(cs:List CK)->List AC->Option (CKs.den cs×List Nat)
 | [],[]=>some ((),[])
 |c::r,a::as=>match kT st c a,Vr st r as with
  |some (x,t1),some (y,t2)=>some ((x,y),t1++t2)
  |_,_=>none
 |_,_=>none
def qf (st:St) (l:Nat):(c:CK)->Option c.den
 | .Gw _=>none
 | .row e te=>match st.at l with
  |some (.arr _ _ e' Ro xs)=>if h:e'=e/\Ro=te then some (h.1▸xs) else none
  |_=>none
 | .Ie e te=>match st.at l with
  |some (.Hc e' Ro xs)=>if h:e'=e/\Ro=te then some (h.1▸xs) else none
  |_=>none
 | .part _ _=>none
 | .Bu _ _ _=>none
def Pg (st:St):(k:Nat)->(cs:List (Bool×CK))->Option (IOs.den cs)
 |_,[]=>some ()
 |k,(true, .Gw _)::r=>Pg st (k+1) r
 |k,(true, .Bu _ _ _)::r=>Pg st (k+1) r
 |k,(true, .row e te)::r=>match qf st (Em true k) (.row e te),Pg st (k+1) r with
  |some x,some y=>some (x,y)
  |_,_=>none
 |k,(true, .Ie e te)::r=>match qf st (Em true k) (.Ie e te),Pg st (k+1) r with
  |some x,some y=>some (x,y)
  |_,_=>none
 |k,(true, .part e te)::r=>match qf st (Em true k) (.row e te),Pg st (k+1) r with
  |some x,some y=>some (x,y)
  |_,_=>none
 |k,(false,_)::r=>Pg st (k+1) r
def Qa:(k:Nat)->List (Bool×CK)->List Nat
 |_,[]=> []
 |k,(true, .Gw _)::r=>Qa (k+1) r
 |k,(true, .Bu _ _ _)::r=>Qa (k+1) r
 |k,(true,_)::r=>Em true k::Qa (k+1) r
 |k,(false,_)::r=>Qa (k+1) r
def Jt:(k:Nat)->List (Bool×CK)->List AC->Option (List AC)
 |_,_,[]=>some []
 |k,(true, .row _ _)::r, .own l _ _::as=>if Nat.beq l (Em true k) then Jt (k+1) r as else none
 |k,(true, .Ie _ _)::r, .own l _ _::as=>if Nat.beq l (Em true k) then Jt (k+1) r as else none
 |k,(false,_)::r,a::as=>(Jt (k+1) r as).map λl=>a::l
 |_,_,_=>none
def j9 (st:St):List AC->List (Bool×CK)->Prop
 | .own l off len::as,(true,_)::r=>(off=0/\match st.at l with
  |some (.arr _ _ _ _ xs)=>len=xs.length
  |some (.Hc _ _ xs)=>len=xs.length
  |_=>False)/\j9 st as r
 |_::as,(false,_)::r=>j9 st as r
 |_,_=>True
def NW (s:MSpec) (st:St) (l:List AV):Option (List AC×List Nat):=match s.rp with
 |none=>if s.Ij=Nat.blt 1 l.length then (ungroup s.Iu l).map λas=>(as,[]) else none
 |some tid=>match l with
  | [.at (.Ho m i)]=>match st.at m with
   |some (.var Vh vs)=>if Vh=tid/\i=0/\Nat.blt m Bq=true then some (vs,[m]) else none
   |_=>none
  |_=>none
def xF (st:St) (n:Nat) (as:List AC):List (Nat×Nat)->Prop
 | []=>True
 |(k,j)::r=>(match as[j]? with
  |some (.own l _ _)=>match st.at l with
   |some (.Bu _ _ _ _ (some p))=>p.1=Em false k/\n<=p.2/\Nat.blt k 1000=true
   |_=>False
  |_=>False)/\xF st n as r
def kC (s:MSpec) (fn:Func) (x:Ins.den s.ins) (st:St) (cs:List AC) (P:CKs.den s.outs×IOs.den s.ins->Prop):Prop:=
 match dE T st fn.results.toList with
 |none=>False
 |some l=>match NW s st l with
  |none=>False
  |some (as,ml)=>match Vr st s.outs (cs++as),Pg st 0 s.ins with
   |some (r,ls),some o=>(aw (ml++ls++Qa 0 s.ins)&&Nat.blt s.ins.length 1000&&Nat.blt s.outs.length 1000&&s.Aat)=true/\xF st (s.Fz x) (cs++as) s.keeps/\P (r,o)
   |_,_=>False
def XY (s:MSpec) (fn:Func) (x:Ins.den s.ins) (st:St) (P:CKs.den s.outs×IOs.den s.ins->Prop):Prop:=
 match s.ptr with
 |none=>kC T s fn x st [] P
 |some p=> ∃vs cs,st.at Pp=some (.var p.1 vs)/\vs.length=p.2/\Jt 0 s.ins vs=some cs/\j9 st vs s.ins/\kC T s fn x st cs P
def aH (s:MSpec) (as:List AC):List AV:=match s.ptr with
 |none=>Tm s.Jy as
 |some p=> .at (.Ho Pp 0)::Tm s.Jy (as.drop p.2)
def qB (s:MSpec) (x:Ins.den s.ins):List (Nat×OB):=match s.ptr with
 |none=>Zz 0 s.ins x
 |some p=>Zz 0 s.ins x++ [(Pp, .var p.1 ((bX 0 s.ins x).take p.2))]
def a9:List (Bool×CK)->Bool
 | []=>true
 |(true, .Bu _ _ _)::_=>false
 |_::r=>a9 r
def AI (s:MSpec):Bool:=a9 s.ins&&match s.ptr with
 |none=>true
 |some p=>Nat.ble p.2 s.ins.length
def Agc (Γ:Env) (s:MSpec) (fn:Func) (x:Ins.den s.ins) (P:CKs.den s.outs×IOs.den s.ins->Prop):Prop:=
 (Nat.blt s.ins.length 1000&&AI s)=true/\ ∃c,fn.body=some c/\Oy T Γ (zI T.marks fn c) c {tmps:=aH s (bX 0 s.ins x)++List.replicate (fn.ntmps-(aH s (bX 0 s.ins x)).length) .undef,heap:=qB s x}
  (λe st=>(∀id,e≠ .exit id)/\XY T s fn x st P)
def XZ (Γ:Env) (s:Spec) (fn:Func) (x:s.arg.den) (P:s.res.den->Prop):Prop:=
 ∃c,fn.body=some c/\Oy T Γ (zI T.marks fn c) c {tmps:=Tj s.arg x++List.replicate (fn.ntmps-(Tj s.arg x).length) .undef,heap:= []}
  (λe st=>(∀id,e≠ .exit id)/\ ∃fr y,nI T s fn st=some (fr,y)/\(fr||!s.fresh)=true/\P y)
end Go.Proofs.Ytkkdpknjohcekaa
