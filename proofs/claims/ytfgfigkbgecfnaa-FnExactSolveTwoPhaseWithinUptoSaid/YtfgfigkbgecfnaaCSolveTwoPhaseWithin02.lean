/-
  Part 3 of the proof that the statement FnExactSolveTwoPhaseWithin holds.
-/
import Derived.Test.YtfgfigkbgecfnaaCSolveTwoPhaseWithin01
namespace Go.Proofs.Ytfgfigkbgecfnaa
open Go.RowKit
def Hx:Nat->St->List AC->Option (List AC×St)
 |0,st,cs=>if cs.all (·.settled) then some (cs,st) else none
 |n+1,st,cs=>
  match cs.find? (λc=>!c.settled) with
  |none=>some (cs,st)
  |some (.own l _ _)=>match st.at l with
   |some (.arr fr _ e _ xs)=>Hx n (st.freeze l fr e xs) (cs.map (Dj l fr e xs))
   |some (.Hl e _ xs)=>Hx n (st.freeze l false e xs) (cs.map (Dj l false e xs))
   |_=>none
  |some (.Le l)=>match st.at l with
   |some (.Wl v m)=>Hx n (st.Ja l v m) (cs.map (Hp l v m))
   |_=>none
  |some _=>none
def settle (st:St):AV->Option (AV×St)
 | .at (.own l off len)=>match st.at l with
  |some (.arr fr _ e _ xs)=>some (.at (.data fr (.slice e) ((xs.drop off).take len)),st.freeze l fr e xs)
  |some (.Hl e _ xs)=>some (.at (.data false (.slice e) ((xs.drop off).take len)),st.freeze l false e xs)
  |_=>none
 | .at (.Le l)=>match st.at l with
  |some (.Wl v m)=>some (.at (.data false (.smap v) m),st.Ja l v m)
  |_=>none
 | .at a=>if a.settled then some (.at a,st) else none
 | .agg cs=>(Hx cs.length st cs).map λp=>(.agg p.1,p.2)
 | .bL fr τ x=>some (.bL fr τ x,st)
 | .Nh _=>none
def AC.refs:AC->List Nat
 | .own l _ _| .Hs l _| .Kq l _| .Le l| .sub l _ _| .Kl l _ _=> [l]
 | .clo _ En=>En.map (·.1)
 |_=> []
def aL:List Nat->Bool
 | []=>true
 |a::r=>!r.contains a&&aL r
def Ty.tree:Ty->Bool
 | .int _| .bool| .str| .unit=>true
 | .slice e=>e.tree
 | .pair a r=>a.tree&&r.tree
 |_=>false
def Sz (st:St):AC->Bool
 | .data _ τ _=>τ.flat
 | .Mn=>true
 | .own l _ _=>match st.at l with
  |some (.arr _ tr e _ _)=>tr||e.flat
  |some (.Hl _ _ _)=>true
  |_=>false
 |_=>false
def Ud (st:St):AV->Bool
 | .at a=>Sz st a
 | .agg cs=>cs.all (Sz st)&&aL (cs.flatMap AC.refs)
 |_=>false
def Bv:Nat:=1000000000
variable (T:Tab)
def RK (t:TypeId) (τ:Ty) (i:Nat):Option TypeId:=
 if τ.Ar then (List.range 24).findSome? λf=>match T.off t f with
  |some (o,u)=>if o=i then some u else none
  |none=>none
 else some t
def Tab.RW (te:TypeId):Option Ty:=if T.Aht.contains te then (match T.ty te with
 |some (.slice e)=>some e
 |_=>none) else none
def eD (te:TypeId) (e:Ty):OB:=match T.RW te with
 |some e'=> .Ca e' te [] none none
 |none=> .arr (T.tN||e.flat) T.DA e te []
def Vr (b:OB) (key l i:Nat) (st:St):St:=
 match st.at l with
 |some (.var _ vs)=>match vs[i]? with
  |some .Mn=>
   let s1:=st.new key b
   match s1.at l with
   |some (.var tid vs')=>s1.Kk l (.var tid (Tm vs' i (.own key 0 0)))
   |_=>s1
  |_=>st
 |_=>st
def gp (l:Nat) (t:TypeId) (τ:Ty):Nat->Nat->St->St
 |0,_,st=>st
 |n+1,i,st=>
  gp l t τ n (i+1) (match ((RK T t τ i).bind T.elem).bind λte=>(T.ty te).map λe=>(te,e) with
   |some (te,e)=>Vr (eD T te e) (100000+l*100+i) l i st
   |none=>st)
def fa (l off:Nat) (t:TypeId) (τ:Ty):Nat->Nat->St->St
 |0,_,st=>st
 |n+1,i,st=>
  fa l off t τ n (i+1) (match ((RK T t τ i).bind T.elem).bind λte=>(T.ty te).map λe=>(te,e) with
   |some (te,e)=>Vr (eD T te e) (100000+l*100+(off+i)) l (off+i) st
   |none=>st)
def zeroCells:(τ:Ty)->List AC
 | .unit=> []
 | .pair a r=>zeroCells a++zeroCells r
 | .slice _=> [.Mn]
 | .oslice _=> [.Mn]
 | .ptr _=> [.Wk]
 | .optr _=> [.Wk]
 | .clo _ _=> [.undef]
 |τ=> [.data true τ τ.zero]
def cellsOf (τ:Ty):AV->Option (List AC)
 | .agg cs=>if τ.Ar&&cs.length==τ.size then some cs else none
 | .at (.data fr Ow x)=>if Ow=τ then some (Td fr Ow x) else none
 | .at .undef=>none
 | .at .skip=>none
 | .at a=>if τ.Ar then none else some [a]
 |_=>none
def mkVar (st:St) (l:Nat) (t:TypeId) (τ:Ty) (cs:List AC):Option (AV×St):=
 if Bv<=100000+l*100+cs.length then none else
 let s:=gp T l t τ cs.length 0 (st.new l (.var t (cs.map (Cy l))))
 match s.at l with
 |some (.var _ _)=>some (.at (.Hs l 0),s)
 |_=>none
def Qp:(τ:Ty)->List AC
 | .unit=> []
 | .pair a r=>Qp a++Qp r
 | .slice e=> [.data false (.slice e) []]
 | .oslice _=> [.Mn]
 | .ptr _=> [.Wk]
 | .optr _=> [.Wk]
 | .clo _ _=> [.undef]
 |τ=> [.data false τ τ.zero]
def tA:Nat:=1300000000
def PQ:Nat:=1400000000
def uD (st:St) (l:Nat) (t:TypeId) (cs:List AC):Option (AV×St):=
 if Bv<=100000+l*100+cs.length then none else some (.at (.Hs l 0),st.new l (.var t (cs.map (Cy l))))
def Du {α:Type} (xs:List α) (i:Nat) (ys:List α):List α:=xs.take i++ys++xs.drop (i+ys.length)
def ZX (st:St) (τ:Ty) (l:Nat) (v:AV):AV:=match T.marks.contains (tA+l)&&v.settled with
 |true=>match Gk st τ v with
  |some p=> .at (.data false τ p.2)
  |none=>v
 |false=>v
def Vw (st:St) (t:TypeId) (p v:AV):Option St:=
 match T.ty t,p with
 |some τ, .at (.Hs l i)=>match st.at l,cellsOf τ (ZX T st τ l v) with
  |some (.var tid vs),some cs=>if i+cs.length<=vs.length then some (if τ.Ar&&Nat.blt (100000+l*100+(i+cs.length)) Bv then fa T l i t τ cs.length 0 (st.Kk l (.var tid (Du vs i cs))) else st.Kk l (.var tid (Du vs i cs))) else none
  |_,_=>none
 |some τ, .at (.Kq l j)=>match settle st v with
  |some (v',st')=>match st'.at l,Gk st' τ v' with
   |some (.arr fr tr e tid xs),some (Ww,x)=>if h:τ=e then (if j<xs.length then some (st'.Kk l (.arr (fr&&Ww) (tr&&(Ud st v&&e.tree)) e tid (xs.set j (h▸x)))) else none) else none
   |_,_=>none
  |none=>none
 |_,_=>none
def Db:Nat:=4294967296
def Oo (st:St) (dst:Nat) (t:TypeId) (x y:Operand):Option (AV×St):=
 match T.elem t with
 |none=>none
 |some te=>match T.ty te,settle st (st.ev y) with
  |some e,some (y',st')=>match Gk st' (.slice e) y' with
   |none=>none
   |some (sA,ys)=>
    let tr2:=e.flat||(Ud st (st.ev y)&&e.tree)
    match st'.ev x with
    | .at .Mn=>if ys.length<=Db/\dst<Bv then some (.at (.own dst 0 (0+ys.length)),(st'.new dst (.arr (T.tN||e.flat) T.DA e te [])).new dst (.arr ((T.tN||e.flat)&&(sA||e.flat)) (T.DA&&tr2) e te (((([]:List e.den).drop 0).take 0)++ys))) else none
    | .at (.own l off len)=>match st'.at l with
     |some (.arr fr tr e' tid xs)=>if h:e'=e/\tid=te then
       (if len+ys.length<=Db/\l<Bv then
        some (.at (.own l 0 (len+ys.length)),st'.new l (.arr (fr&&(sA||e.flat)) (tr&&tr2) e te ((((h.1▸xs:List e.den).drop off).take len)++ys))) else none)
      else none
     |_=>none
    |_=>none
  |_,_=>none
def Qq (st:St) (l i m:Nat) (e:Ty) (te tid:TypeId) (rows:List (List e.den)) (kp:Option (Nat×Nat)):St:=
 (st.Kk l (.Ca e te rows (some i) kp)).new m (.arr false false e tid (rows.getD i []))
def Si (st:St) (dst:Nat) (t:TypeId) (x y:Operand):Option (AV×St):=
 match x with
 | .tmp tx=>match st.get tx with
  | .at (.sub l i _)=>match st.at l,T.elem t with
   |some (.Ca e te rows none kp),some tid=>if (Nat.blt l Bv&&(Nat.blt dst Bv&&!Nat.beq dst l))=true then Oo T ((Qq st l i dst e te tid rows kp).put (some tx) (.at (.own dst 0 (rows.getD i []).length))) dst t x y else none
   |_,_=>none
  |_=>Oo T st dst t x y
 |_=>Oo T st dst t x y
def nq:Ty->Bool
 | .int _| .bool| .str| .slice _| .oslice _=>true
 |_=>false
def gV:Ty->Bool
 | .unit=>true
 | .pair a r=>gV a&&gV r
 |e=>nq e
def bZ (st:St) (dst:Nat) (t:TypeId) (l c:AV):Option (AV×St):=
 match T.elem t,l,c with
 |some te, .at (.data _ (.int _) n), .at (.data _ (.int _) m)=>match T.ty te with
  |some e=>if inb n (Db+1)=true/\n=m/\gV e=true/\dst<Bv then some (.at (.own dst 0 n.toNat),st.new dst (.arr (T.tN||e.flat) (T.DA&&e.tree) e te (List.replicate n.toNat e.zero))) else none
  |none=>none
 |_,_,_=>none
def Lz (e:Ty):Nat->List (Nat×Operand)->St->Option (Bool×Bool×List e.den×St)
 |_,[],st=>some (true,true,[],st)
 |i,(j,x)::r,st=>
  if i=j then match settle st (st.ev x) with
   |some (v,st')=>match Gk st' e v with
    |some (fr,y)=>match Lz e (i+1) r st' with
     |some (Ww,tr',ys,Axe)=>some (fr&&Ww,Ud st (st.ev x)&&e.tree&&tr',y::ys,Axe)
     |none=>none
    |none=>none
   |none=>none
  else none
def My (st:St) (dst:Nat) (t:TypeId) (len:Nat) (parts:Array (Nat×Operand)):Option (AV×St):=
 match T.elem t with
 |none=>none
 |some te=>match T.ty te with
  |none=>none
  |some e=>if parts.size=len/\len<=64/\e.size<=64/\dst<Bv then (match Lz e 0 parts.toList st with
   |some (fr,tr,ys,st')=>some (.at (.own dst 0 len),st'.new dst (.arr ((T.tN||e.flat)&&fr) (T.DA&&tr) e te ys))
   |none=>none) else none
def Vv (st:St) (dst:Nat) (t:TypeId):Option (AV×St):=
 match T.mapOf t with
 |some v=>if dst<Bv then some (.at (.Le dst),st.new dst (.Wl v λ_=>none)) else none
 |none=>none
def gR {α:Type} (m:ByteArray->Option α) (k:ByteArray) (x:α):ByteArray->Option α:= λs=>if s=k then some x else m s
def Jo (st:St) (t:TypeId) (m k x:AV):Option St:=
 match T.mapOf t,m,k with
 |some v, .at (.Le l), .at (.data _ .str s)=>match st.at l,Gk st v x with
  |some (.Wl v' f),some (_,y)=>if h:v'=v/\v.flat=true/\v.Ar=false then some (st.Kk l (.Wl v (gR (h.1▸f:ByteArray->Option v.den) s y))) else none
  |_,_=>none
 |_,_,_=>none
def jc (st:St) (t t':TypeId) (x y:AV):Option (AV×St):=
 match x,(T.elem t).bind T.ty with
 | .at (.own l off len),some e=>if T.elem t=T.elem t'/\e.flat=true/\e.size=1 then match st.at l,Gk st (.slice e) y with
  |some (.arr fr _ e' tid xs),some (_,ys)=>if h:e'=e/\T.elem t=some tid then
    some (.at (.data true (.int .i64) (min len ys.length:Nat)),st.Kk l (.arr fr false e tid (Du (h.1▸xs:List e.den) off (ys.take len))))
   else none
  |_,_=>none
  else none
 |_,_=>none
def evalClear (st:St) (t:TypeId) (x:AV):Option St:=
 match x,(T.elem t).bind T.ty with
 | .at (.own l off len),some e=>if e.flat=true/\nq e=true then match st.at l with
  |some (.arr fr _ e' tid xs)=>if h:e'=e/\T.elem t=some tid then
    some (st.Kk l (.arr fr false e tid (Du (h.1▸xs:List e.den) off (List.replicate len e.zero))))
   else none
  |_=>none
  else none
 |_,_=>none
def Mx (st:St) (t:TypeId):List (Nat×Operand)->List AC->Option (List AC)
 | [],cs=>some cs
 |(i,x)::r,cs=>
  match T.off t i with
  |some (o,u)=>match T.ty u with
   |some ρ=>match cellsOf ρ (st.ev x) with
    |some c=>if o+c.length<=cs.length then Mx st t r (Du cs o c) else none
    |none=>none
   |none=>none
  |none=>none
def Yp (st:St) (t:TypeId) (parts:Array (Nat×Operand)):Option AV:=
 match T.ty t with
 |none=>none
 |some τ=>if τ.Ar then (Mx T st t parts.toList (zeroCells τ)).map .agg else none
def Eh (io:Bool) (k:Nat):Nat:=if io then 1000000000+k else 500000+k
def Kt (k:Nat):Nat:=600000+k
def Abr (dst:Nat) (k:Nat):Nat:=1000000*(dst+1)+k
def Tv:List (Option Nat)->List AC->List AV
 |none::s,a::as=> .at a::Tv s as
 |some n::s,as=> .agg (as.take n)::Tv s (as.drop n)
 |_,_=> []
def Lm:List (Option Nat)->List Value->List Value
 |none::s,u::us=>u::Lm s us
 |some n::s,us=> .agg (us.take n).toArray::Lm s (us.drop n)
 |_,_=> []
def ungroup:List (Option Nat)->List AV->Option (List AC)
 | [],[]=>some []
 |none::s, .at a::as=>(ungroup s as).map λr=>a::r
 |some n::s, .agg cs::as=>if cs.length=n then (ungroup s as).map λr=>cs++r else none
 |some n::s, .at (.data fr τ x)::as=>if τ.Ar=true/\(Td fr τ x).length=n then (ungroup s as).map λr=>Td fr τ x++r else none
 |_,_=>none
def l6 (l:Nat):(c:CK)->c.den->Option OB
 | .Ia _,_=>none
 | .row e te,xs=>some (.arr false false e te xs)
 | .Hz e te,xs=>some (.Hl e te xs)
 | .part e te,x=>some (.arr false false e te x.1)
 | .Ca e te kp,xs=>some (.Ca e te xs none (if kp then some (l,List.length xs) else none))
def Ats (l:Nat):(c:CK)->c.den->AC
 | .Ia τ,x=> .data τ.flat τ x
 | .row _ _,xs=> .own l 0 (List.length xs)
 | .Hz _ _,xs=> .own l 0 (List.length xs)
 | .part _ _,x=> .own l x.2.1 x.2.2
 | .Ca _ _ _,xs=> .own l 0 (List.length xs)
def j6 {α:Type} (l:Nat):Option α->List (Nat×α)->List (Nat×α)
 |none,r=>r
 |some b,r=>(l,b)::r
def al:(k:Nat)->(cs:List (Bool×CK))->Ins.den cs->List (Nat×OB)
 |_,[],_=> []
 |k,p::r,x=>j6 (Eh p.1 k) (l6 (Eh p.1 k) p.2 x.1) (al (k+1) r x.2)
def cf:(k:Nat)->(cs:List (Bool×CK))->Ins.den cs->List AC
 |_,[],_=> []
 |k,p::r,x=>Ats (Eh p.1 k) p.2 x.1::cf (k+1) r x.2
inductive Loc where
 |row (l:Nat)
 |sub (l i c:Nat)
 |view (l:Nat)
 deriving DecidableEq
def Loc.Xw:Loc->Nat
 | .row l=>l
 | .sub l _ _=>l
 | .view l=>l
def Loc.reads:Loc->Bool
 | .view _=>true
 |_=>false
def cL (st:St) (ls:List Nat):Bool:=ls.all λl=>match st.at l with|some (.var _ vs)=>vs.all (·.settled)|_=>false
def views (k:Nat) (ls:List Nat):List (Nat×Loc):=ls.map λl=>(Eh false k, .view l)
def Mt (st:St) (io:Bool) (k:Nat):(c:CK)->AC->Option (c.den×List (Nat×Loc))
 | .Ia τ, .own l off len=>(Dy st τ (.own l off len)).map λp=>(p.2,[(Eh false k, .view l)])
 | .Ia τ, .clo g En=>if cL st (En.map (·.1))&&!τ.Ar then (Kh st τ (.clo g En)).map λp=>(p.2,views k (En.map (·.1))) else none
 | .Ia τ, .Hs l i=>if cL st [l]&&!τ.Ar then (Kh st τ (.Hs l i)).map λp=>(p.2,views k [l]) else none
 | .Ia τ, .sub l i c=>(Dy st τ (.sub l i c)).map λp=>(p.2,[(Eh false k, .view l)])
 | .Ia τ,a=>if τ.flat||a.settled then (Dy st τ a).map λp=>(p.2,[]) else none
 | .row e te, .own l off len=>match st.at l with
  |some (.arr _ _ e' Rx xs)=>if h:e'=e/\Rx=te/\off=0/\len=xs.length then some ((h.1▸xs:List e.den),[(Eh io k, .row l)]) else none
  |_=>none
 | .row e _, .sub l i c=>match st.at l with
  |some (.Hl e' _ xs)=>if h:e'= .slice e/\e.flat=true/\io=true/\c=0 then xs[i]?.map λy=>((h.1▸y:(Ty.slice e).den),[(Eh io k, .sub l i c)]) else none
  |_=>none
 | .row _ _, .Mn=>some ([],[])
 | .Hz e te, .own l off len=>match st.at l with
  |some (.Hl e' Rx xs)=>if h:e'=e/\Rx=te/\off=0/\len=xs.length then some ((h.1▸xs:List e.den),[(Eh io k, .row l)]) else none
  |_=>none
 | .Hz e _, .sub l i c=>match st.at l with
  |some (.Hl e' _ xs)=>if h:e'= .slice e/\io=true/\c=0 then xs[i]?.map λy=>((h.1▸y:(Ty.slice e).den),[(Eh io k, .sub l i c)]) else none
  |_=>none
 | .Hz _ _, .Mn=>some ([],[])
 | .part e te, .own l off len=>match st.at l with
  |some (.arr _ _ e' Rx xs)=>if h:e'=e/\Rx=te/\e.flat=true/\io=true then some (((h.1▸xs:List e.den),off,len),[(Eh io k, .row l)]) else none
  |_=>none
 | .Ca e te _, .own l off len=>match st.at l with
  |some (.Ca e' Rx rows none _)=>if h:e'=e/\Rx=te/\off=0/\len=rows.length/\io=false then some ((h.1▸rows:List (List e.den)),[(Eh io k, .row l)]) else none
  |_=>none
 |_,_=>none
def gP (st:St):(k:Nat)->(cs:List (Bool×CK))->List AC->Option (Ins.den cs×List (Nat×Loc))
 |_,[],[]=>some ((),[])
 |k,p::r,a::as=>match Mt st p.1 k p.2 a,gP st (k+1) r as with
  |some (x,t1),some (y,t2)=>some ((x,y),t1++t2)
  |_,_=>none
 |_,_,_=>none
def cX (st:St):(c:CK)->c.den->AC->Option St
 | .row e _,ys, .own l _ len=>match st.at l with
  |some (.arr fr tr e' te xs)=>if h:e=e'/\List.length ys=len/\xs.length=len then some (st.Kk l (.arr (fr&&e'.flat) (tr&&e'.flat) e' te (h.1▸ys))) else none
  |_=>none
 | .Hz e _,ys, .own l _ len=>match st.at l with
  |some (.Hl e' te xs)=>if h:e=e'/\List.length ys=len/\xs.length=len then some (st.Kk l (.Hl e' te (h.1▸ys))) else none
  |_=>none
 | .row e _,ys, .sub l i _=>match st.at l with
  |some (.Hl e' te xs)=>if h: .slice e=e' then (match xs[i]? with
   |some y=>if List.length ys=List.length (h▸y:(Ty.slice e).den) then some (st.Kk l (.Hl e' te (xs.set i (h▸(ys:(Ty.slice e).den))))) else none
   |none=>none) else none
  |_=>none
 | .Hz e _,ys, .sub l i _=>match st.at l with
  |some (.Hl e' te xs)=>if h: .slice e=e' then (match xs[i]? with
   |some y=>if List.length ys=List.length (h▸y:(Ty.slice e).den) then some (st.Kk l (.Hl e' te (xs.set i (h▸(ys:(Ty.slice e).den))))) else none
   |none=>none) else none
  |_=>none
 |_,_, .Mn=>some st
 |_,_,_=>none
def OY (st:St) (e:Ty) (ys:List e.den):AC->Option St
 | .own l _ _=>match st.at l with
  |some (.arr fr tr e' te xs)=>if h:e=e'/\List.length ys=xs.length then some (st.Kk l (.arr fr tr e' te (h.1▸ys))) else none
  |_=>none
 |_=>none
def Il:(cs:List (Bool×CK))->IOs.den cs->List AC->St->Option St
 | [],_,_,st=>some st
 |(true, .Ia _)::r,x,_::as,st=>Il r x as st
 |(true, .row e te)::r,x,a::as,st=>match cX st (.row e te) x.1 a with
  |some st'=>Il r x.2 as st'
  |none=>none
 |(true, .Hz e te)::r,x,a::as,st=>match cX st (.Hz e te) x.1 a with
  |some st'=>Il r x.2 as st'
  |none=>none
 |(true, .part e _)::r,x,a::as,st=>match OY st e x.1 a with
  |some st'=>Il r x.2 as st'
  |none=>none
 |(true, .Ca _ _ _)::r,x,_::as,st=>Il r x as st
 |(false,_)::r,x,_::as,st=>Il r x as st
 |_,_,_,_=>none
def Cz (dead part:List Nat) (c:AC):AC:=if c.refs.any (λl=>dead.contains l) then .undef else match c with
 | .sub l i c=>if part.contains l then .undef else .sub l i c
 | .Kl l i c=>if part.contains l then .undef else .Kl l i c
 |c=>c
def Yn:List (Nat×OB)->List Nat->List (Nat×OB)
 | [],_=> []
 |(k,b)::r,dead=>if dead.contains k then Yn r dead else (k,b)::Yn r dead
def St.dh (st:St) (dead part:List Nat):St:=let s:=st.Lo (Cz dead part); {s with heap:=Yn s.heap dead}
def Un (st:St) (l j m:Nat) (e:Ty) (te:TypeId) (rows:List (List e.den)) (xs:List e.den) (kp:Option (Nat×Nat)):St:=
 (st.dh [m] [l]).Kk l (.Ca e te (rows.set j xs) none kp)
def cm (j:Nat):Option (Nat×Nat)->Option (Nat×Nat)
 |none=>none
 |some p=>some (p.1,min p.2 j)
def c7 (st:St) (t:TypeId) (p v:AV):Option St:=
 match T.ty t,p with
 |some τ, .at (.Kl l i j)=>match settle st v with
  |some (v',st')=>match st'.at l,Gk st' τ v' with
   |some (.Ca e te rows none kp),some (_,x)=>if h:τ=e then some (st'.Kk l (.Ca e te (rows.set i ((rows.getD i []).set j (h▸x))) none kp)) else none
   |_,_=>none
  |none=>none
 |some τ, .at (.Kq l j)=>match st.at l,v with
  |some (.Ca e te rows out kp), .at (.own m off len)=>match st.at m with
   |some (.arr _ _ e' _ xs)=>if h:e'=e/\(Nat.blt l Bv&&(!Nat.beq m l&&!τ.Ar))=true/\off=0/\len=xs.length/\(out=none\/out=some j) then some (Un st l j m e te rows (h.1▸xs) (cm j kp)) else none
   |_=>none
  |_,_=>none
 |_,_=>none
def RX (st:St):AV->Bool
 | .at (.Kl _ _ _)=>true
 | .at (.Kq l _)=>match st.at l with
  |some (.Ca _ _ _ _ _)=>true
  |_=>false
 |_=>false
def Qb (st:St) (t:TypeId) (p v:AV):Option St:=match RX st p with
 |true=>c7 T st t p v
 |false=>Vw T st t p v
def Rq (st:St) (k m:Nat) (b:OB):St:=let s:=st.dh [m,k] []; {s with heap:=Pb s.heap k b}
def eM (t:TypeId):Option (TypeId×Ty):=(T.elem t).bind λte=>(T.RW te).map λe=>(te,e)
def Ys (st:St) (dst:Nat) (t:TypeId) (l c:AV):Option (AV×St):=
 match eM T t with
 |none=>bZ T st dst t l c
 |some (te,e)=>match l,c with
  | .at (.data _ (.int _) n), .at (.data _ (.int _) m)=>if inb n (Db+1)=true/\n=m/\dst<Bv then some (.at (.own dst 0 n.toNat),Rq st dst dst (.Ca e te (List.replicate n.toNat []) none none)) else none
  |_,_=>none
def Jk (st:St) (dst:Nat) (t:TypeId) (len:Nat) (parts:Array (Nat×Operand)):Option (AV×St):=
 match eM T t with
 |none=>My T st dst t len parts
 |some (te,e)=>match parts.toList with
  | [(0,x)]=>match st.ev x with
   | .at (.own m off ln)=>match st.at m with
    |some (.arr _ _ e' _ xs)=>if h:e'=e/\(Nat.beq len 1&&(Nat.blt dst Bv&&Nat.blt m Bv))=true/\off=0/\ln=xs.length then some (.at (.own dst 0 1),Rq st dst m (.Ca e te [h.1▸xs] none none)) else none
    |_=>none
   |_=>none
  |_=>none
def Sj (st:St) (dst:Nat) (t:TypeId) (x y:Operand):Option (AV×St):=
 match eM T t with
 |none=>Si T st dst t x y
 |some (te,e)=>match st.ev x,st.ev y with
  | .at (.own l off len), .at (.own m Abt uq)=>match st.at l,st.at m with
   |some (.Ca e1 te1 A none _),some (.Ca e2 xr B none _)=>
    if h:(e1=e/\e2=e)/\(decide (te1=te)&&decide (xr=te)&&(Nat.blt l Bv&&(Nat.blt m Bv&&!Nat.beq m l)))=true/\(off=0/\len=A.length)/\(Abt=0/\uq=B.length)/\0<B.length/\A.length+B.length<=Db then
     some (.at (.own l 0 (A.length+B.length)),Rq st l m (.Ca e te ((h.1.1▸A:List (List e.den))++(h.1.2▸B:List (List e.den))) none none))
    else none
   |_,_=>none
  |_,_=>none
def wS (fr:Bool):(c:CK)->c.den->Option OB
 | .Ia _,_=>none
 | .row e te,xs=>some (.arr (fr&&e.flat) false e te xs)
 | .Hz e te,xs=>some (.Hl e te xs)
 | .part e te,x=>some (.arr (fr&&e.flat) false e te x.1)
 | .Ca e te _,xs=>some (.Ca e te xs none none)
def GL (H:List (Nat×OB)) (l:Nat):Option OB->List (Nat×OB)
 |some b=>Pb H l b
 |none=>H
def Zb (fr:Bool) (key:Nat->Nat):(k:Nat)->(cs:List CK)->CKs.den cs->List (Nat×OB)->List (Nat×OB)
 |_,[],_,H=>H
 |k,c::r,x,H=>Zb fr key (k+1) r x.2 (GL H (key k) (wS fr c x.1))
def cw (key:Nat->Nat):(k:Nat)->(cs:List CK)->CKs.den cs->List AC
 |_,[],_=> []
 |k,c::r,x=>(match c,x.1 with
  | .Ia τ,y=> .data τ.flat τ y
  | .row _ _,xs=> .own (key k) 0 (List.length xs)
  | .Hz _ _,xs=> .own (key k) 0 (List.length xs)
  | .Ca _ _ _,xs=> .own (key k) 0 (List.length xs)
  | .part _ _,_=> .undef)::cw key (k+1) r x.2
def aM:List (Option Nat)->List AC->List (Bool×List AC)
 |none::s,a::as=>(false,[a])::aM s as
 |some n::s,as=>(true,as.take n)::aM s (as.drop n)
 |_,_=> []
def Arf (Jy:Bool) (sh:List (Option Nat)) (as:List AC):Option AV:=
 if Jy then some (.Nh (aM sh as)) else match Tv sh as with
  | [v]=>some v
  | []=>some .undef
  |_=>none
def nM (tks:List (Nat×Loc)):List Nat:=(tks.filter λt=>Nat.blt t.1 Bv&&!t.2.reads).map λt=>t.2.Xw
def whole (tks:List (Nat×Loc)):List Nat:=tks.flatMap λt=>match t.2 with| .row l=> [l]|_=> []
def DF (tks:List (Nat×Loc)):List Nat:=(tks.filter λt=>t.2.reads).map λt=>t.2.Xw
def GY (ins:List (Bool×CK)) (te:TypeId) (used:List Nat):List (Nat×Loc)->Option Nat
 | []=>none
 |(k, .row l)::r=>if Nat.blt k Bv&&(!used.contains l&&(match ins[k-500000]? with
   |some (false, .row _ Rx)=>decide (Rx=te)
   |some (false, .Hz _ Rx)=>decide (Rx=te)
   |some (false, .Ca _ Rx _)=>decide (Rx=te)
   |_=>false)) then some l else GY ins te used r
 |_::r=>GY ins te used r
def NU (ins:List (Bool×CK)) (tks:List (Nat×Loc)) (d:Nat):(k:Nat)->(used:List Nat)->List CK->List Nat
 |_,_,[]=> []
 |k,used,c::r=>match (match c with
   | .row _ te=>GY ins te used tks
   | .Hz _ te=>GY ins te used tks
   | .Ca _ te _=>GY ins te used tks
   |_=>none) with
  |some l=>l::NU ins tks d (k+1) (l::used) r
  |none=>Abr d k::NU ins tks d (k+1) used r
def nF (s:MSpec) (tks:List (Nat×Loc)) (d:Nat):List Nat:=NU s.ins tks d 0 [] s.outs
def Em (ks:List Nat) (j:Nat):Nat:=match ks[j]? with
 |some l=>l
 |none=>Bv+j
def AF (ks:List Nat) (n:Nat):Bool:=Nat.beq ks.length n&&(aL ks&&ks.all λl=>Nat.blt l Bv)
def RR (st:St) (l:List Nat):Bool:=l.all λk=>match st.at k with|some (.arr fr _ _ _ _)=>fr|_=>false
def TF (st:St) (s:MSpec) (args:List AV):Option (List Nat×List AC×List AV):=
 match s.ptr with
 |none=>some ([],[],args)
 |some p=>match args with
  | .at (.Hs l i)::rest=>match st.at l with
   |some (.var tid vs)=>if tid=p.1/\vs.length=p.2/\i=0 then some ([l],vs,rest) else none
   |_=>none
  |_=>none
def Xb:List (Bool×CK)->List AC->Bool
 |(true, .row _ _)::r, .own _ _ _::as=>Xb r as
 |(true, .Hz _ _)::r, .own _ _ _::as=>Xb r as
 |(true,_)::_,_::_=>false
 |(false,_)::r,_::as=>Xb r as
 |_,as=>as.isEmpty
def iq {α:Type} :List (Bool×CK)->List α->List α->List α
 |(true,_)::r,v::vs,as=>v::iq r vs as
 |(false,_)::r,_::vs,a::as=>a::iq r vs as
 |_,vs,_=>vs
def uY:List (Bool×CK)->Nat->Nat
 |(true,_)::r,n+1=>uY r n
 |(false,_)::r,n+1=>uY r n+1
 |_,_=>0
def MSpec.aV (s:MSpec):Nat:=match s.ptr with|none=>0|some p=>uY s.ins p.2
def sj (ins:List (Bool×CK)) (as:List AC) (pl:List Nat) (st:St):St:=
 match pl with
 | []=>st
 |l::_=>match st.at l with
  |some (.var tid vs)=>st.Kk l (.var tid (iq ins vs as))
  |_=>st
def Ue (d:Nat):Nat:=Abr d 999
def nc (s:MSpec) (d:Nat):List Nat:=match s.rp with|none=> []|some _=> [Ue d]
def Tc (s:MSpec) (tks:List (Nat×Loc)) (d:Nat):List Nat:=nF s tks d++nc s d
def o9 (H:List (Nat×OB)) (l:Nat):Bool:=match Ay H l with
 |some (.Ca _ _ _ _ _)=>true
 |_=>false
def ck (H:List (Nat×OB)) (ks:List Nat) (tks:List (Nat×Loc)):List (Nat×Nat)->List Nat
 | []=> []
 |(k,j)::r=>match tks.find? (λt=>Nat.beq t.1 (Eh false k)),ks[j]? with
  |some (_, .row l),some l'=>if Nat.beq l' l&&o9 H l then l::ck H ks tks r else ck H ks tks r
  |_,_=>ck H ks tks r
def sC (H:List (Nat×OB)) (l:Nat):Nat:=match Ay H l with
 |some (.Ca _ _ rows _ _)=>rows.length
 |_=>0
def eg (H:List (Nat×OB)) (ls:List Nat) (n:Nat):List AV->Bool
 | []=>true
 | .at (.sub l i _)::r=>(!ls.contains l||(Nat.blt i n&&Nat.blt i (sC H l)))&&eg H ls n r
 |_::r=>eg H ls n r
def Mh (ls:List Nat):List AV->List AV->List AV
 | .at (.sub l i c)::r,v::vs=>(if ls.contains l then .at (.sub l i c) else v)::Mh ls r vs
 |_::r,v::vs=>v::Mh ls r vs
 |_,vs=>vs
def Alh:Option OB->Option (Nat×Nat)
 |some (.Ca _ _ _ _ kp)=>kp
 |_=>none
def OB.JD (b:OB) (kp:Option (Nat×Nat)):OB:=match b with
 | .Ca e te rows out _=> .Ca e te rows out kp
 |b=>b
def dV (H0:List (Nat×OB)) (ls:List Nat) (n:Nat):List (Nat×OB)->List (Nat×OB)
 | []=> []
 |(l,b)::r=>(l,if ls.contains l then b.JD (cm n (Alh (Ay H0 l))) else b)::dV H0 ls n r
def mL (cP st:St) (ls:List Nat) (n:Nat):St:=match ls with
 | []=>st
 |_=> {tmps:=Mh ls cP.tmps st.tmps,heap:=dV cP.heap ls n st.heap}
def Agq (s:MSpec) (d:Nat) (as:List AC):Option AV:=match s.rp with
 |none=>Arf s.Jy s.Li as
 |some _=>some (.at (.Hs (Ue d) 0))
def mi (st st1:St) (d:Nat) (s:MSpec) (pl:List Nat) (tks:List (Nat×Loc)) (r:CKs.den s.outs):St:=
 let ks:=Tc s tks d
 let key:=Em ks
 let st2:=sj s.ins (cw key 0 s.outs r) pl (st1.dh (nM tks++ks++(if s.flat then [] else DF tks)) (whole tks))
 {st2 with heap:=Zb (RR st (nM tks)) key 0 s.outs r (GL st2.heap (Ue d) (s.rp.map λtid=> .var tid ((cw key 0 s.outs r).drop s.aV)))}
def Yq (st:St) (dst:Option Nat) (s:MSpec) (args:List AV):Option (AV×St):=
 match TF st s args with
 |none=>none
 |some (pl,vs,rest)=>match ungroup s.Mq rest with
 |none=>none
 |some pc=>match gP st 0 s.ins (vs++pc) with
  |none=>none
  |some (x,tks)=>if aL (tks.map λt=>t.2.Xw)&&AF (Tc s tks (dst.getD 0)) (s.outs.length+(nc s (dst.getD 0)).length)&&Nat.blt s.outs.length 1000&&Nat.blt s.ins.length 1000&&(Xb s.ins vs&&pl.all λl=>!((tks.map λt=>t.2.Xw)++Tc s tks (dst.getD 0)).contains l) then match s.fn x with
   |none=>none
   |some (r,o)=>match Il s.ins o (vs++pc) st with
    |none=>none
    |some st1=>match Agq s (dst.getD 0) ((cw (Em (Tc s tks (dst.getD 0))) 0 s.outs r).drop s.aV) with
     |none=>none
     |some v=>if eg (mi st st1 (dst.getD 0) s pl tks r).heap (ck st.heap (Tc s tks (dst.getD 0)) tks s.keeps) (s.Gd x) st.tmps=true then
       some (v,mL st (mi st st1 (dst.getD 0) s pl tks r) (ck st.heap (Tc s tks (dst.getD 0)) tks s.keeps) (s.Gd x)) else none
   else none
def Ny:List Operand->St->Option St
 | [],st=>some st
 |x::r,st=>match settle st (st.ev x) with
  |some (_,st')=>Ny r st'
  |none=>none
def Pf (st:St) (p x:Operand):St:=match st.ev p with
 | .at (.Hs l _)=>match T.marks.contains (PQ+l) with
  |true=>match Ny [x] st with
   |some s0=>s0
   |none=>st
  |false=>st
 |_=>st
def gk (s:Spec) (args:List AV):Bool:=!(s.fresh||s.res.flat||args.all (·.settled))
def evalOp (Γ:Env) (st:St) (o:Oper):Option (AV×St):=
 match o.op with
 | .assign x=>match st.ev x,o.dst,(T.elem o.type).bind λte=>(T.ty te).map λe=>(te,e) with
  | .at .Mn,some d,some (te,e)=>if d<Bv then some (.at (.own d 0 0),st.new d (.arr (T.tN||e.flat) T.DA e te [])) else none
  |v,_,_=>some (v,st)
 | .alloc t=>match o.dst,T.ty t with
  |some d,some τ=>match T.marks.contains (tA+d) with
   |true=>uD st d t (Qp τ)
   |false=>mkVar T st d t τ (zeroCells τ)
  |_,_=>none
 | .box t x=>match o.dst,T.ty t with
  |some d,some τ=>match cellsOf τ (st.ev x) with
   |some cs=>match T.marks.contains (tA+d) with
    |true=>if cs.all (·.settled)=true then (Fq st τ cs).map λp=>(.at (.data false (.optr τ) (some p.2)),st) else none
    |false=>mkVar T st d t τ cs
   |none=>none
  |_,_=>none
 | .store t p x=>(Qb T (Pf T st p x) t ((Pf T st p x).ev p) ((Pf T st p x).ev x)).map λs=>(.undef,s)
 | .makeSlice t l c=>match o.dst with
  |some d=>Ys T st d t (st.ev l) (st.ev c)
  |none=>none
 | .makeMap t none=>match o.dst with
  |some d=>Vv T st d t
  |none=>none
 | .mapUpdate t m k x=>(Jo T st t (st.ev m) (st.ev k) (st.ev x)).map λs=>(.undef,s)
 | .insert t m k x=>(Jo T st t (st.ev m) (st.ev k) (st.ev x)).map λs=>(.undef,s)
 | .buildSlice t len parts=>match o.dst with
  |some d=>Jk T st d t len parts
  |none=>none
 | .build t parts=>(Yp T st t parts).map λv=>(v,st)
 | .call {callee:= .builtin .append,args,argTypes} =>match o.dst,args.toList,argTypes.toList with
  |some d,[x,y],[t,t']=>if t=t' then Sj T st d t x y else none
  |_,_,_=>none
 | .call {callee:= .builtin .copy,args,argTypes} =>match args.toList,argTypes.toList with
  | [x,y],[t,t']=>jc T st t t' (st.ev x) (st.ev y)
  |_,_=>none
 | .call {callee:= .builtin .clear,args,argTypes} =>match args.toList,argTypes.toList with
  | [x],[t]=>(evalClear T st t (st.ev x)).map λs=>(.undef,s)
  |_,_=>none
 | .call {callee:= .value (.func f),args, .. } =>match Γ f with
  |some (.m s)=>Yq st o.dst s (args.toList.map st.ev)
  |some (.q s)=>if gk s (args.toList.map st.ev) then (match Ny args.toList st with
   |some st1=>(Fv T Γ st1 o).map λv=>(v,st1)
   |none=>none) else (Fv T Γ st o).map λv=>(v,st)
  |_=>(Fv T Γ st o).map λv=>(v,st)
 |_=>(Fv T Γ st o).map λv=>(v,st)
def gn (e:Ty):Nat->List (Nat×Operand)->St->Option (Bool×List e.den)
 |_,[],_=>some (true,[])
 |i,(j,x)::r,st=>
  if i=j/\(st.ev x).settled=true then match Gk st e (st.ev x),gn e (i+1) r st with
   |some (fr,y),some (Ww,ys)=>some (fr&&Ww,y::ys)
   |_,_=>none
  else none
def bY (st:St) (t:TypeId) (len:Nat) (parts:Array (Nat×Operand)):Option AV:=
 match T.elem t with
 |none=>none
 |some te=>match T.ty te with
  |none=>none
  |some e=>if parts.size=len/\len<=64/\e.size<=64 then (gn e 0 parts.toList st).map λp=> .at (.data p.1 (.slice e) p.2) else none
def Yb (Γ:Env) (st:St) (o:Oper):Option AV:=
 match o.op with
 | .buildSlice t len parts=>bY T st t len parts
 | .build t parts=>Yp T st t parts
 |_=>Fv T Γ st o
def Abj (q:Bool) (Γ:Env) (o:Oper):Bool:=
 match o.op with
 | .buildSlice _ _ _| .build _ _=>!q
 | .alloc _| .box _ _| .store _ _ _| .makeSlice _ _ _| .makeMap _ _| .mapUpdate _ _ _ _| .insert _ _ _ _=>true
 | .assign (.const _)=>true
 | .call {callee:= .builtin .append, .. } =>true
 | .call {callee:= .builtin .copy, .. } =>true
 | .call {callee:= .builtin .clear, .. } =>true
 | .call {callee:= .value (.func f), .. } =>match Γ f with
  |some (.m _)=>true
  |_=>false
 |_=>false
def Fl (Γ:Env) (ops:Array Oper) (st:St) (o:Oper):Option St:=
 match o.guard with
 |none=>(evalOp T Γ st o).map λr=>r.2.put o.dst r.1
 |some (j,want)=>match Yj st ((ops[j]?).bind (·.dst)) with
  |some (some b)=>if b==want then (evalOp T Γ st o).map λr=>r.2.put o.dst r.1 else some (st.put o.dst (.at .skip))
  |some none=>some (st.put o.dst (.at .skip))
  |none=>none
def bg (Γ:Env) (ops:Array Oper):List Oper->St->Option St
 | [],st=>some st
 |o::r,st=>match Fl T Γ ops st o with
  |some st'=>bg Γ ops r st'
  |none=>none
def Kb (q:Bool) (Γ:Env) (ops:Array Oper):List Nat:=
 (List.range ops.size).foldl (init:= []) λacc i=>match ops[i]? with
  |some o=>if Abj q Γ o||o.after.any (λe=>Region.binds .any e&&acc.contains e.on) then acc++ [i] else acc
  |none=>acc
def dj (q:Bool) (Γ:Env) (ops:Array Oper):List Nat:=(List.range ops.size).filter λi=>!(Kb q Γ ops).contains i
def o8 (ops:Array Oper) (hd tl:List Nat) (i:Nat):Bool:=
 match ops[i]? with
 |some o=>(match o.op,o.guard with
  | .move (.tmp _),none=>true
  |_,_=>false)&&!((tl.take 1++hd).any λj=>decide (i<j)&&Region.waitsFor .any ops j i)
 |none=>false
def Wv (q:Bool) (Γ:Env) (ops:Array Oper):List Nat:=(dj q Γ ops).filter λi=>o8 ops (dj q Γ ops) (Kb q Γ ops) i
def Wy (q:Bool) (Γ:Env) (ops:Array Oper):List Nat:=(dj q Γ ops).filter λi=>!o8 ops (dj q Γ ops) (Kb q Γ ops) i
def kF (q:Bool) (Γ:Env) (ops:Array Oper):List Nat:=Wv q Γ ops++Wy q Γ ops
def Abb (ops:Array Oper) (i:Nat):Bool:=match ops[i]? with
 |some o=>(match o.op,o.guard with
  | .extract _ _,none=>true
  |_,_=>false)
 |none=>false
def oP (ops:Array Oper):List Nat->Array Bool->Bool
 | [],Aj=>(Region.ready .any ops Aj).isEmpty
 |k::r,Aj=>(decide (Region.ready .any ops Aj= [k])||(Abb ops k&&((Region.ready .any ops Aj).contains k&&Region.free .any ops Aj k)))&&oP ops r (Aj.setIfInBounds k true)
def pK (ops:Array Oper) (tl:List Nat):List Nat->Array Bool->Bool
 | [],Aj=>oP ops tl Aj
 |k::r,Aj=>(Region.ready .any ops Aj).contains k&&Region.free .any ops Aj k&&pK ops tl r (Aj.setIfInBounds k true)
def vh (ops:Array Oper) (hd:List Nat):List Nat->Bool
 | []=>true
 |f::r=>(hd.all λi=>(f::hd).any λj=>decide (i<j)&&Region.waitsFor .any ops j i)&&r.all λt=>(f::r).any λk=>Region.waitsFor .any ops t k
def nZ (ops:Array Oper) (tl hd:List Nat):List Nat->Array Bool->Bool
 | [],Aj=>pK ops tl hd Aj
 |k::r,Aj=>(Region.ready .any ops Aj).contains k&&Region.free .any ops Aj k&&nZ ops tl hd r (Aj.setIfInBounds k true)
def du (q:Bool) (Γ:Env) (ops:Array Oper):Bool:=
 Region.noSelect ops&&((Wv q Γ ops).length+((Wy q Γ ops).length+(Kb q Γ ops).length)==ops.size)&&nZ ops (Kb q Γ ops) (Wy q Γ ops) (Wv q Γ ops) (Array.replicate ops.size false)&&vh ops (Wy q Γ ops) (Kb q Γ ops)
def Xx (Γ:Env) (ops:Array Oper) (st:St) (o:Oper):Option AV:=
 match o.guard with
 |none=>Yb T Γ st o
 |some (j,want)=>match Yj st ((ops[j]?).bind (·.dst)) with
  |some (some b)=>if b==want then Yb T Γ st o else some (.at .skip)
  |some none=>some (.at .skip)
  |none=>none
def Gt (Γ:Env) (ops:Array Oper):List Nat->St->Option St
 | [],st=>some st
 |i::r,st=>match ops[i]? with
  |none=>none
  |some o=>match Xx T Γ ops st o with
   |some v=>Gt Γ ops r (st.put o.dst v)
   |none=>none
def Nk (Γ:Env) (ops:Array Oper):List Nat->St->Option St
 | [],st=>some st
 |i::r,st=>match ops[i]? with
  |none=>none
  |some o=>match Fl T Γ ops st o with
   |some st'=>Nk Γ ops r st'
   |none=>none
def Sl (Γ:Env) (ops:Array Oper) (draw:Bool) (st:St):Option St:=
 if draw then (if du false Γ ops then (match Gt T Γ ops (kF false Γ ops) st with
  |some st'=>Nk T Γ ops (Kb false Γ ops) st'
  |none=>none) else if du true Γ ops then (match Gt T Γ ops (kF true Γ ops) st with
  |some st'=>Nk T Γ ops (Kb true Γ ops) st'
  |none=>none) else none)
 else bg T Γ ops ops.toList st
def zX (ops:Array Oper) (i:Nat):Bool:=match ops[i]? with
 |some o=>(match o.op,o.guard with
  | .move (.tmp _),none=>true
  |_,_=>false)
 |none=>false
def kJ (ops:Array Oper) (i:Nat):Bool:=match ops[i]? with
 |some o=>(match o.op,o.guard with
  | .move (.tmp _),none=>true
  | .nilCheck _,none=>true
  | .fieldAddr _ _ _,none=>true
  |_,_=>false)
 |none=>false
def Arn (q:Bool) (ops:Array Oper) (i:Nat):Bool:=match q with
 |true=>kJ ops i
 |false=>zX ops i
def Jx (q:Bool) (ops:Array Oper):List Nat->Array Bool->List Nat
 | [],_=> []
 |i::r,Aj=>if Arn q ops i&&((Region.ready .any ops Aj).contains i&&Region.free .any ops Aj i) then i::Jx q ops r (Aj.setIfInBounds i true) else Jx q ops r Aj
def Abq (q:Bool) (ops:Array Oper):List Nat:=Jx q ops (List.range ops.size) (Array.replicate ops.size false)
def kC (q:Bool) (ops:Array Oper):Bool:=Nat.ble (ops.size-(Abq q ops).length) 8
def Lf (ops:Array Oper):List Nat:=Abq (!kC false ops) ops
def Et:List Nat->Array Bool->Array Bool
 | [],Aj=>Aj
 |i::r,Aj=>Et r (Aj.setIfInBounds i true)
def anyS (Γ:Env) (ops:Array Oper) (K:St->Prop):Nat->Array Bool->St->Prop
 |0,Aj,st=>Region.ready .any ops Aj= []/\K st
 |f+1,Aj,st=>Region.ready .any ops Aj≠ []/\ ∀i∈Region.ready .any ops Aj,∃o st',ops[i]?=some o/\Fl T Γ ops st o=some st'/\anyS Γ ops K f (Aj.setIfInBounds i true) st'
def kK (ops:Array Oper) (i:Nat):Bool:=match ops[i]? with
 |some o=>(match o.op,o.guard with
  | .move _,none=>true
  | .load _ _,none=>true
  | .indexAddr _ _ _,none=>true
  | .fieldAddr _ _ _,none=>true
  |_,_=>false)
 |none=>false
def kP (ops:Array Oper):List Nat->Array Bool->List Nat
 | [],_=> []
 |i::r,Aj=>if kK ops i&&((Region.ready .any ops Aj).contains i&&Region.free .any ops Aj i) then i::kP ops r (Aj.setIfInBounds i true) else kP ops r Aj
def qB (ops:Array Oper) (i j:Nat) (p:Oper->Oper->Bool):Bool:=match ops[i]?,ops[j]? with
 |some x,some y=>p x y
 |_,_=>false
def p9 (ops:Array Oper) (x y:Oper):Bool:=match x.dst with
 |some d=>!(y.looksAt ops).contains d
 |none=>true
def MN (x y:Oper):Bool:=match x.dst with
 |some d=>y.dst !=some d
 |none=>true
def jJ (ops:Array Oper):List Nat->Array Bool->Bool
 | [],_=>true
 |r::E,Aj=>(Region.ready .any ops Aj).contains r&&jJ ops E (Aj.setIfInBounds r true)
def BG (ops:Array Oper):List Nat->Bool
 | []=>true
 |r::E=>(qB ops r r (p9 ops)&&E.all λq=>qB ops r q (λx y=>MN x y&&p9 ops y x)&&(Region.waitsFor .any ops q r||qB ops r q (p9 ops)))&&BG ops E
def Aey (ops:Array Oper) (E:List Nat) (L0:Array Bool):Bool:=E.all λr=>(List.range ops.size).all λj=>E.contains j||L0.getD j false||Region.waitsFor .any ops j r||qB ops r j (λx y=>x.apart ops y)
def dv (ops:Array Oper) (E:List Nat) (L0:Array Bool):Bool:=(E.all (kK ops)&&jJ ops E L0)&&(BG ops E&&Aey ops E L0)
def sP (ops:Array Oper) (E:List Nat) (Aj:Array Bool) (r:Nat):Bool:=(List.range ops.size).any λj=>!E.contains j&&(Aj.getD j false&&Region.waitsFor .any ops j r)
def Acx (Γ:Env) (ops:Array Oper) (E:List Nat) (Aj:Array Bool) (st:St):Prop:=
 ∀r∈E,sP ops E Aj r=true\/ ∃o v,ops[r]?=some o/\Xx T Γ ops st o=some v/\ ∀d,o.dst=some d->st.get d=v
def rZ (Γ:Env) (ops:Array Oper) (E:List Nat) (K:St->Prop):Nat->Array Bool->St->Prop
 |0,Aj,st=>Acx T Γ ops E Aj st/\Region.ready .any ops Aj= []/\K st
 |f+1,Aj,st=>Acx T Γ ops E Aj st/\Region.ready .any ops Aj≠ []/\ ∀i∈Region.ready .any ops Aj,∃o st',ops[i]?=some o/\Fl T Γ ops st o=some st'/\rZ Γ ops E K f (Aj.setIfInBounds i true) st'
def Aex (Γ:Env) (ops:Array Oper) (K:St->Prop) (n:Nat) (L0:Array Bool) (cP:St):Prop:=
 ∃E st1,dv ops E L0=true/\E.length<=n/\Gt T Γ ops E cP=some st1/\rZ T Γ ops E K (n-E.length) (Et E L0) st1
def BO (Γ:Env) (draw:Bool):Env:= λf=>match Γ f with
 |some (.b s m)=>some (if draw then .q s else .m m)
 |r=>r
inductive Md where
 |normal
 |exit (id:Nat)
 |ret
def Iq (live:List Nat):Nat->List AV->List AV
 |_,[]=> []
 |i,v::r=>(if live.contains i then v else .undef)::Iq live (i+1) r
def AV.refs:AV->List Nat
 | .at a=>a.refs
 | .agg cs=>cs.flatMap AC.refs
 | .bL _ _ _=> []
 | .Nh l=>l.flatMap λp=>p.2.flatMap AC.refs
def OB.refs:OB->List Nat
 | .var _ vs=>vs.flatMap AC.refs
 |_=> []
def bC:List Nat->St->St
 | [],st=>st
 |l::r,st=>bC r (st.forget l)
def qc (l k m:Nat):Nat:=if m=l then k else m
def We (l k:Nat):AC->AC
 | .own m off len=> .own (qc l k m) off len
 | .Hs m i=> .Hs (qc l k m) i
 | .Kq m i=> .Kq (qc l k m) i
 | .clo f En=> .clo f (En.map λp=>(qc l k p.1,p.2))
 | .Le m=> .Le (qc l k m)
 | .sub m i c=> .sub (qc l k m) i c
 | .Kl m i c=> .Kl (qc l k m) i c
 |a=>a
def St.rename (l k:Nat) (st:St):St:=
 match Ay st.heap k,Ay st.heap l with
 |none,some b=>if (Nat.blt l Bv&&Nat.blt k Bv)=true then
   (let s:=st.Lo (We l k); {s with heap:=Pb (aT s.heap l) k (b.map (We l k))}) else st
 |_,_=>st
def Ng:Nat->Nat->St->St
 |0,_,st=>st
 |n+1,t,st=>Ng n (t+1) (match st.get t with
  | .at (.own l _ _)=>match Ay st.heap l with
   |some (.arr _ _ _ _ _)=>if (st.tmps.take t).any (λv=>v.refs.contains l) then st else st.rename l (700000+t)
   |_=>st
  |_=>st)
def dy:Nat:=1000000007
def AC.Ajf (flat:Bool):AC->AC
 | .data fr τ x=> .data (fr&&!(flat&&τ.flat)) τ x
 |c=>c
def OB.Jg (flat all one:Bool):OB->OB
 | .arr fr tr e tid xs=> .arr (fr&&!(all||(one||(flat&&e.flat)))) (tr&&!all) e tid xs
 | .var tid vs=> .var tid (vs.map (AC.Ajf flat))
 |b=>b
def Ux:Nat:=1000000009
def kx:Nat:=1100000000
def Ae1:Nat:=1200000000
def St.Jg (live:List Nat) (st:St):St:= {st with heap:=st.heap.map λp=>(p.1,p.2.Jg (live.contains Ux) (live.contains (kx+p.1)) (live.contains (Ae1+p.1)))}
def Nf:Nat:=900000000
def cz (t:Nat) (st:St):St:=match st.get t with
 | .at (.own l off len)=>match Ay st.heap l with
  |some (.arr fr tr e tid xs)=>if Nat.blt l Bv=true then (st.new l (.arr fr tr e tid ((xs.drop off).take len))).put (some t) (.at (.own l 0 ((xs.drop off).take len).length)) else st
  |_=>st
 |_=>st
def Pq:Nat:=1900000000
def ZT:Nat:=950000000
def Qi (c:Nat) (st:St):St:=match Ay st.heap Pq with
 |some (.var _ vs)=>match vs[c]? with
  |some (.own l off len)=>match Ay st.heap l with
   |some (.arr fr tr e te xs)=>if Nat.blt l Bv=true then match Ay (st.new l (.arr fr tr e te ((xs.drop off).take len))).heap Pq with
     |some (.var tid vs')=>(st.new l (.arr fr tr e te ((xs.drop off).take len))).Kk Pq (.var tid (vs'.set c (.own l 0 ((xs.drop off).take len).length)))
     |_=>st
    else st
   |_=>st
  |_=>st
 |_=>st
def Py (live:List Nat):Nat->Nat->St->St
 |0,_,st=>st
 |n+1,c,st=>Py live n (c+1) (if live.contains (ZT+c) then Qi c st else st)
def Po (live:List Nat):Nat->Nat->St->St
 |0,_,st=>Py live 16 0 st
 |n+1,t,st=>Po live n (t+1) (if live.contains (Nf+t) then cz t st else st)
def St.clean (live:List Nat) (st:St):St:=
 let s:St:= {st with tmps:=Iq live 0 st.tmps}
 let r1:=s.tmps.flatMap AV.refs
 let r2:=r1++(s.heap.filter λp=>r1.contains p.1).flatMap λp=>p.2.refs
 let s2:=bC ((s.heap.map (·.1)).filter λl=>!r2.contains l&&Nat.blt l Bv) s
 let s2:=if live.any (λt=>Nat.ble Nf t&&Nat.blt t dy) then Po live s2.tmps.length 0 s2 else s2
 let s3:=if live.contains dy then Ng s2.tmps.length 0 s2 else s2
 if live.any (λt=>Nat.ble Ux t) then s3.Jg live else s3
def Fm:Code->Nat
 | .region id _ _=>id
 | .seq a _=>Fm a
 | .cond _ a _=>Fm a
 | .block _ c=>Fm c
 | .loop c=>1000+Fm c
 |_=>0
def Ajl (a b:List Nat):List Nat:=a++b.filter λt=>!a.contains t
def AK:List Oper->List Nat->List Nat
 | [],out=>out
 |o::r,out=>Ajl (o.op.operands.toList.filterMap λ | .tmp t=>some t|_=>none) (match o.dst with|some d=>(AK r out).filter (·!=d)|none=>AK r out)
def MP:List (Nat×List Nat)->Nat->List Nat
 | [],_=> []
 |(k,l)::r,id=>if k=id then l else MP r id
def rf:Code->List (Nat×List Nat)->List Nat->List Nat->List Nat×List (Nat×List Nat)
 | .region _ ops _,_,_,out=>(AK ops.toList out,[])
 | .seq a b,env,ret,out=>let rb:=rf b env ret out;let ra:=rf a env ret rb.1;(ra.1,ra.2++rb.2)
 | .cond c a b,env,ret,out=>let ra:=rf a env ret out;let rb:=rf b env ret out
  (Ajl (match c with| .tmp t=> [t]|_=> []) (Ajl ra.1 rb.1),ra.2++rb.2)
 | .block id c,env,ret,out=>rf c ((id,out)::env) ret out
 | .exit id,env,_,_=>(MP env id,[])
 | .ret,_,ret,_=>(ret,[])
 | .loop c,env,ret,_=>let l:=(rf c env ret []).1;let r:=rf c env ret l;(l,(Fm c,l)::r.2)
 |_,_,_,out=>(out,[])
def AL:List ResultVar->List Nat
 | []=> []
 | .tmp t::r=>t::AL r
 | .cell p _::r=>p::AL r
def AJ (marks:List Nat) (fn:Func) (c:Code):Nat->List Nat:=let ret:=AL fn.results.toList;let g:=MP (rf c [] ret ret).2;match marks with
 | []=>g
 |m=> λid=>g id++m
def St.Qx (dead:List Nat) (st:St):St:=
 let s:St:= {st with tmps:=Iq ((List.range st.tmps.length).filter λt=>!dead.contains t) 0 st.tmps}
 let r1:=s.tmps.flatMap AV.refs
 let r2:=r1++(s.heap.filter λp=>r1.contains p.1).flatMap λp=>p.2.refs
 bC ((s.heap.map (·.1)).filter λl=>!r2.contains l&&Nat.blt l Bv) s
def Zp (ops:Array Oper) (t:Nat):Bool:=ops.toList.any λo=>o.dst==some t
def lj (Γ:Env) (ops:Array Oper) (draw:Bool) (st:St) (K:St->Prop):Prop:=
 (∃st',Sl T Γ ops draw st=some st'/\K st')\/
 (draw=true/\Region.noSelect ops=true/\ ∃cP,Gt T Γ ops (Lf ops) st=some cP/\
  (anyS T Γ ops K (ops.size-(Lf ops).length) (Et (Lf ops) (Array.replicate ops.size false)) cP\/Aex T Γ ops K (ops.size-(Lf ops).length) (Et (Lf ops) (Array.replicate ops.size false)) cP))
def ze (Γ:Env) (ops:Array Oper) (draw:Bool) (st:St) (K:St->Prop):Prop:=
 lj T Γ ops draw st K\/ ∃dead:List Nat,(dead.all (Zp ops))=true/\lj T Γ ops draw st λs=>K (s.Qx dead)
def OL (K:St->Prop) (Q:Md->St->Prop):Md->St->Prop
 | .normal,s=>K s
 |e,s=>Q e s
def yb (id:Nat) (Q:Md->St->Prop):Md->St->Prop
 | .exit VA,s=>if VA=id then Q .normal s else Q (.exit VA) s
 |e,s=>Q e s
def Ack (ops:Array Oper) (t:Nat):Bool:=ops.toList.any λo=>match o.op with
 | .extract (.tmp s) _=>Nat.beq s t
 | .move (.tmp s)=>Nat.beq s t
 | .assign (.tmp s)=>Nat.beq s t
 |_=>false
def Pj (ops:Array Oper):Nat->List AV->List AV
 |_,[]=> []
 |i, .Nh l::r=>(if Ack ops i=true then .Nh l else .undef)::Pj ops (i+1) r
 |i,v::r=>v::Pj ops (i+1) r
def St.nL (ops:Array Oper) (st:St):St:= {st with tmps:=Pj ops 0 st.tmps}
inductive Ox (Γ:Env) (live:Nat->List Nat):Code->St->(Md->St->Prop)->Prop where
 |skip {st:St} {Q:Md->St->Prop} :Q .normal st->Ox Γ live .skip st Q
 |label {l:Nat} {st:St} {Q:Md->St->Prop} :Q .normal st->Ox Γ live (.label l) st Q
 |exit {id:Nat} {st:St} {Q:Md->St->Prop} :Q (.exit id) st->Ox Γ live (.exit id) st Q
 |ret {st:St} {Q:Md->St->Prop} :Q .ret st->Ox Γ live .ret st Q
 |region {id:Nat} {ops:Array Oper} {draw:Bool} {st:St} {Q:Md->St->Prop} :ze T (BO Γ draw) ops draw (st.nL ops) (Q .normal)->Ox Γ live (.region id ops draw) st Q
 |seq {x y:Code} {st:St} {Q:Md->St->Prop} (Q1:Md->St->Prop):Ox Γ live x st Q1->(∀s,Q1 .normal s->Ox Γ live y s Q)->(∀e s,e≠ .normal->Q1 e s->Q e s)->Ox Γ live (.seq x y) st Q
 |cond {c:Operand} {x y:Code} {st:St} {fr t:Bool} {Q:Md->St->Prop} :st.ev c= .at (.data fr .bool t)->(t=true->Ox Γ live x st Q)->(t=false->Ox Γ live y st Q)->Ox Γ live (.cond c x y) st Q
 |block {id:Nat} {c:Code} {st:St} {Q:Md->St->Prop} (Q1:Md->St->Prop):Ox Γ live c st Q1->(∀e s,Q1 e s->yb id Q e s)->Ox Γ live (.block id c) st Q
 |loop {c:Code} {st:St} {Q:Md->St->Prop} (Q1:Md->St->Prop):Ox Γ live c (st.clean (live (Fm c))) Q1->(∀s,Q1 .normal s->Ox Γ live (.loop c) s Q)->(∀e s,e≠ .normal->Q1 e s->Q e s)->Ox Γ live (.loop c) st Q
def ed (st:St):List ResultVar->Option (List AV)
 | []=>some []
 | .tmp t::r=>(ed st r).map λl=>st.get t::l
 | .cell p t::r=>match Qr T st t (st.get p),ed st r with
  |some v,some l=>some (v::l)
  |_,_=>none
def nV (s:Spec) (fn:Func) (st:St):Option (Bool×s.res.den):=
 match ed T st fn.results.toList with
 |some [v]=>if s.Jy then none else Gk st s.res v
 |some [v,u]=>if s.Jy then Eg st s.res [v,u] else none
 |some [v,u,t]=>if s.Jy then Eg st s.res [v,u,t] else none
 |_=>none
def Ts:(τ:Ty)->τ.den->List AV
 | .pair a r,x=> .at (.data a.flat a x.1)::Ts r x.2
 |_,_=> []
def lf (st:St):(c:CK)->AC->Option (c.den×List Nat)
 | .Ia τ,a=>if τ.flat||a.settled then (Dy st τ a).map λp=>(p.2,[]) else none
 | .row e te, .own l off len=>match st.at l with
  |some (.arr _ _ e' Rx xs)=>if h:e'=e/\Rx=te then some ((((h.1▸xs:List e.den).drop off).take len),[l]) else none
  |_=>none
 | .row _ _, .Mn=>some ([],[])
 | .Hz e te, .own l off len=>match st.at l with
  |some (.arr _ tr e' Rx xs)=>if h:e'=e/\Rx=te/\(tr||e.flat)=true then some ((((h.1▸xs:List e.den).drop off).take len),[l]) else none
  |some (.Hl e' Rx xs)=>if h:e'=e/\Rx=te then some ((((h.1▸xs:List e.den).drop off).take len),[l]) else none
  |_=>none
 | .Hz _ _, .Mn=>some ([],[])
 | .Ca e te _, .own l off len=>match st.at l with
  |some (.Ca e' Rx rows none _)=>if h:e'=e/\Rx=te/\off=0/\len=rows.length then some ((h.1▸rows:List (List e.den)),[l]) else none
  |_=>none
 |_,_=>none
def Wc (st:St):(cs:List CK)->List AC->Option (CKs.den cs×List Nat)
 | [],[]=>some ((),[])
 |c::r,a::as=>match lf st c a,Wc st r as with
  |some (x,t1),some (y,t2)=>some ((x,y),t1++t2)
  |_,_=>none
 |_,_=>none
def qI (st:St) (l:Nat):(c:CK)->Option c.den
 | .Ia _=>none
 | .row e te=>match st.at l with
  |some (.arr _ _ e' Rx xs)=>if h:e'=e/\Rx=te then some (h.1▸xs) else none
  |_=>none
 | .Hz e te=>match st.at l with
  |some (.Hl e' Rx xs)=>if h:e'=e/\Rx=te then some (h.1▸xs) else none
  |_=>none
 | .part _ _=>none
 | .Ca _ _ _=>none
def Ph (st:St):(k:Nat)->(cs:List (Bool×CK))->Option (IOs.den cs)
 |_,[]=>some ()
 |k,(true, .Ia _)::r=>Ph st (k+1) r
 |k,(true, .Ca _ _ _)::r=>Ph st (k+1) r
 |k,(true, .row e te)::r=>match qI st (Eh true k) (.row e te),Ph st (k+1) r with
  |some x,some y=>some (x,y)
  |_,_=>none
 |k,(true, .Hz e te)::r=>match qI st (Eh true k) (.Hz e te),Ph st (k+1) r with
  |some x,some y=>some (x,y)
  |_,_=>none
 |k,(true, .part e te)::r=>match qI st (Eh true k) (.row e te),Ph st (k+1) r with
  |some x,some y=>some (x,y)
  |_,_=>none
 |k,(false,_)::r=>Ph st (k+1) r
def Qf:(k:Nat)->List (Bool×CK)->List Nat
 |_,[]=> []
 |k,(true, .Ia _)::r=>Qf (k+1) r
 |k,(true, .Ca _ _ _)::r=>Qf (k+1) r
 |k,(true,_)::r=>Eh true k::Qf (k+1) r
 |k,(false,_)::r=>Qf (k+1) r
def Jt:(k:Nat)->List (Bool×CK)->List AC->Option (List AC)
 |_,_,[]=>some []
 |k,(true, .row _ _)::r, .own l _ _::as=>if Nat.beq l (Eh true k) then Jt (k+1) r as else none
 |k,(true, .Hz _ _)::r, .own l _ _::as=>if Nat.beq l (Eh true k) then Jt (k+1) r as else none
 |k,(false,_)::r,a::as=>(Jt (k+1) r as).map λl=>a::l
 |_,_,_=>none
def jx (st:St):List AC->List (Bool×CK)->Prop
 | .own l off len::as,(true,_)::r=>(off=0/\match st.at l with
  |some (.arr _ _ _ _ xs)=>len=xs.length
  |some (.Hl _ _ xs)=>len=xs.length
  |_=>False)/\jx st as r
 |_::as,(false,_)::r=>jx st as r
 |_,_=>True
def PH (s:MSpec) (st:St) (l:List AV):Option (List AC×List Nat):=match s.rp with
 |none=>if s.Jy=Nat.blt 1 l.length then (ungroup s.Li l).map λas=>(as,[]) else none
 |some tid=>match l with
  | [.at (.Hs m i)]=>match st.at m with
   |some (.var Vt vs)=>if Vt=tid/\i=0/\Nat.blt m Bv=true then some (vs,[m]) else none
   |_=>none
  |_=>none
def yf (st:St) (n:Nat) (as:List AC):List (Nat×Nat)->Prop
 | []=>True
 |(k,j)::r=>(match as[j]? with
  |some (.own l _ _)=>match st.at l with
   |some (.Ca _ _ _ _ (some p))=>p.1=Eh false k/\n<=p.2/\Nat.blt k 1000=true
   |_=>False
  |_=>False)/\yf st n as r
def kR (s:MSpec) (fn:Func) (x:Ins.den s.ins) (st:St) (cs:List AC) (P:CKs.den s.outs×IOs.den s.ins->Prop):Prop:=
 match ed T st fn.results.toList with
 |none=>False
 |some l=>match PH s st l with
  |none=>False
  |some (as,ml)=>match Wc st s.outs (cs++as),Ph st 0 s.ins with
   |some (r,ls),some o=>(aL (ml++ls++Qf 0 s.ins)&&Nat.blt s.ins.length 1000&&Nat.blt s.outs.length 1000&&s.Abp)=true/\yf st (s.Gd x) (cs++as) s.keeps/\P (r,o)
   |_,_=>False
def ZF (s:MSpec) (fn:Func) (x:Ins.den s.ins) (st:St) (P:CKs.den s.outs×IOs.den s.ins->Prop):Prop:=
 match s.ptr with
 |none=>kR T s fn x st [] P
 |some p=> ∃vs cs,st.at Pq=some (.var p.1 vs)/\vs.length=p.2/\Jt 0 s.ins vs=some cs/\jx st vs s.ins/\kR T s fn x st cs P
def aU (s:MSpec) (as:List AC):List AV:=match s.ptr with
 |none=>Tv s.Mq as
 |some p=> .at (.Hs Pq 0)::Tv s.Mq (as.drop p.2)
def r7 (s:MSpec) (x:Ins.den s.ins):List (Nat×OB):=match s.ptr with
 |none=>al 0 s.ins x
 |some p=>al 0 s.ins x++ [(Pq, .var p.1 ((cf 0 s.ins x).take p.2))]
def ar:List (Bool×CK)->Bool
 | []=>true
 |(true, .Ca _ _ _)::_=>false
 |_::r=>ar r
def BJ (s:MSpec):Bool:=ar s.ins&&match s.ptr with
 |none=>true
 |some p=>Nat.ble p.2 s.ins.length
def Ahj (Γ:Env) (s:MSpec) (fn:Func) (x:Ins.den s.ins) (P:CKs.den s.outs×IOs.den s.ins->Prop):Prop:=
 (Nat.blt s.ins.length 1000&&BJ s)=true/\ ∃c,fn.body=some c/\Ox T Γ (AJ T.marks fn c) c {tmps:=aU s (cf 0 s.ins x)++List.replicate (fn.ntmps-(aU s (cf 0 s.ins x)).length) .undef,heap:=r7 s x}
  (λe st=>(∀id,e≠ .exit id)/\ZF T s fn x st P)
def ZG (Γ:Env) (s:Spec) (fn:Func) (x:s.arg.den) (P:s.res.den->Prop):Prop:=
 ∃c,fn.body=some c/\Ox T Γ (AJ T.marks fn c) c {tmps:=Ts s.arg x++List.replicate (fn.ntmps-(Ts s.arg x).length) .undef,heap:= []}
  (λe st=>(∀id,e≠ .exit id)/\ ∃fr y,nV T s fn st=some (fr,y)/\(fr||!s.fresh)=true/\P y)
end Go.Proofs.Ytfgfigkbgecfnaa
