/-
  Part 3 of the proof that the statement FnBoundStatistics holds.
-/
import Derived.Test.YtkkdpknjohcekaaCFBoundStatistics01
namespace Go.Proofs.Ytkkdpknjohcekaa
open Go.RowKit
def Hs:Nat->St->List AC->Option (List AC×St)
 |0,st,cs=>if cs.all (·.settled) then some (cs,st) else none
 |n+1,st,cs=>
  match cs.find? (λc=>!c.settled) with
  |none=>some (cs,st)
  |some (.own l _ _)=>match st.at l with
   |some (.arr fr _ e _ xs)=>Hs n (st.freeze l fr e xs) (cs.map (Cz l fr e xs))
   |some (.Gu e _ xs)=>Hs n (st.freeze l false e xs) (cs.map (Cz l false e xs))
   |_=>none
  |some (.Ks l)=>match st.at l with
   |some (.Vu v m)=>Hs n (st.Jb l v m) (cs.map (Gy l v m))
   |_=>none
  |some _=>none
def settle (st:St):AV->Option (AV×St)
 | .at (.own l off len)=>match st.at l with
  |some (.arr fr _ e _ xs)=>some (.at (.data fr (.slice e) ((xs.drop off).take len)),st.freeze l fr e xs)
  |some (.Gu e _ xs)=>some (.at (.data false (.slice e) ((xs.drop off).take len)),st.freeze l false e xs)
  |_=>none
 | .at (.Ks l)=>match st.at l with
  |some (.Vu v m)=>some (.at (.data false (.smap v) m),st.Jb l v m)
  |_=>none
 | .at a=>if a.settled then some (.at a,st) else none
 | .agg cs=>(Hs cs.length st cs).map λp=>(.agg p.1,p.2)
 | .bu fr τ x=>some (.bu fr τ x,st)
 | .Mw _=>none
def AC.refs:AC->List Nat
 | .own l _ _| .Hj l _| .Kk l _| .Ks l| .sub l _ _| .Kh l _ _=> [l]
 | .clo _ Ee=>Ee.map (·.1)
 |_=> []
def aq:List Nat->Bool
 | []=>true
 |a::r=>!r.contains a&&aq r
def Ty.tree:Ty->Bool
 | .int _| .bool| .str| .unit=>true
 | .slice e=>e.tree
 | .pair a r=>a.tree&&r.tree
 |_=>false
def Sl (st:St):AC->Bool
 | .data _ τ _=>τ.flat
 | .Ly=>true
 | .own l _ _=>match st.at l with
  |some (.arr _ tr e _ _)=>tr||e.flat
  |some (.Gu _ _ _)=>true
  |_=>false
 |_=>false
def Tp (st:St):AV->Bool
 | .at a=>Sl st a
 | .agg cs=>cs.all (Sl st)&&aq (cs.flatMap AC.refs)
 |_=>false
def Bn:Nat:=1000000000
variable (T:Tab)
def PH (t:TypeId) (τ:Ty) (i:Nat):Option TypeId:=
 if τ.Ao then (List.range 24).findSome? λf=>match T.off t f with
  |some (o,u)=>if o=i then some u else none
  |none=>none
 else some t
def Tab.PW (te:TypeId):Option Ty:=if T.XU.contains te then (match T.ty te with
 |some (.slice e)=>some e
 |_=>none) else none
def dS (te:TypeId) (e:Ty):OB:=match T.PW te with
 |some e'=> .Bl e' te [] none none
 |none=> .arr (T.sX||e.flat) T.BH e te []
def Uw (b:OB) (key l i:Nat) (st:St):St:=
 match st.at l with
 |some (.var _ vs)=>match vs[i]? with
  |some .Ly=>
   let s1:=st.new key b
   match s1.at l with
   |some (.var tid vs')=>s1.Kg l (.var tid (Sz vs' i (.own key 0 0)))
   |_=>s1
  |_=>st
 |_=>st
def fC (l:Nat) (t:TypeId) (τ:Ty):Nat->Nat->St->St
 |0,_,st=>st
 |n+1,i,st=>
  fC l t τ n (i+1) (match ((PH T t τ i).bind T.elem).bind λte=>(T.ty te).map λe=>(te,e) with
   |some (te,e)=>Uw (dS T te e) (100000+l*100+i) l i st
   |none=>st)
def er (l off:Nat) (t:TypeId) (τ:Ty):Nat->Nat->St->St
 |0,_,st=>st
 |n+1,i,st=>
  er l off t τ n (i+1) (match ((PH T t τ i).bind T.elem).bind λte=>(T.ty te).map λe=>(te,e) with
   |some (te,e)=>Uw (dS T te e) (100000+l*100+(off+i)) l (off+i) st
   |none=>st)
def zeroCells:(τ:Ty)->List AC
 | .unit=> []
 | .pair a r=>zeroCells a++zeroCells r
 | .slice _=> [.Ly]
 | .oslice _=> [.Ly]
 | .ptr _=> [.Vt]
 | .optr _=> [.Vt]
 | .clo _ _=> [.undef]
 |τ=> [.data true τ τ.zero]
def cellsOf (τ:Ty):AV->Option (List AC)
 | .agg cs=>if τ.Ao&&cs.length==τ.size then some cs else none
 | .at (.data fr Ok x)=>if Ok=τ then some (Sr fr Ok x) else none
 | .at .undef=>none
 | .at .skip=>none
 | .at a=>if τ.Ao then none else some [a]
 |_=>none
def mkVar (st:St) (l:Nat) (t:TypeId) (τ:Ty) (cs:List AC):Option (AV×St):=
 if Bn<=100000+l*100+cs.length then none else
 let s:=fC T l t τ cs.length 0 (st.new l (.var t (cs.map (Cp l))))
 match s.at l with
 |some (.var _ _)=>some (.at (.Hj l 0),s)
 |_=>none
def Qi:(τ:Ty)->List AC
 | .unit=> []
 | .pair a r=>Qi a++Qi r
 | .slice e=> [.data false (.slice e) []]
 | .oslice _=> [.Ly]
 | .ptr _=> [.Vt]
 | .optr _=> [.Vt]
 | .clo _ _=> [.undef]
 |τ=> [.data false τ τ.zero]
def dQ:Nat:=1300000000
def fM:Nat:=1400000000
def tU (st:St) (l:Nat) (t:TypeId) (cs:List AC):Option (AV×St):=
 if Bn<=100000+l*100+cs.length then none else some (.at (.Hj l 0),st.new l (.var t (cs.map (Cp l))))
def Du {α:Type} (xs:List α) (i:Nat) (ys:List α):List α:=xs.take i++ys++xs.drop (i+ys.length)
def XN (st:St) (τ:Ty) (l:Nat) (v:AV):AV:=match T.marks.contains (dQ+l)&&v.settled with
 |true=>match Fp st τ v with
  |some p=> .at (.data false τ p.2)
  |none=>v
 |false=>v
def Vc (st:St) (t:TypeId) (p v:AV):Option St:=
 match T.ty t,p with
 |some τ, .at (.Hj l i)=>match st.at l,cellsOf τ (XN T st τ l v) with
  |some (.var tid vs),some cs=>if i+cs.length<=vs.length then some (if τ.Ao&&Nat.blt (100000+l*100+(i+cs.length)) Bn then er T l i t τ cs.length 0 (st.Kg l (.var tid (Du vs i cs))) else st.Kg l (.var tid (Du vs i cs))) else none
  |_,_=>none
 |some τ, .at (.Kk l j)=>match settle st v with
  |some (v',st')=>match st'.at l,Fp st' τ v' with
   |some (.arr fr tr e tid xs),some (Wh,x)=>if h:τ=e then (if j<xs.length then some (st'.Kg l (.arr (fr&&Wh) (tr&&(Tp st v&&e.tree)) e tid (xs.set j (h▸x)))) else none) else none
   |_,_=>none
  |none=>none
 |_,_=>none
def Ct:Nat:=4294967296
def Of (st:St) (dst:Nat) (t:TypeId) (x y:Operand):Option (AV×St):=
 match T.elem t with
 |none=>none
 |some te=>match T.ty te,settle st (st.ev y) with
  |some e,some (y',st')=>match Fp st' (.slice e) y' with
   |none=>none
   |some (rW,ys)=>
    let tr2:=e.flat||(Tp st (st.ev y)&&e.tree)
    match st'.ev x with
    | .at .Ly=>if ys.length<=Ct/\dst<Bn then some (.at (.own dst 0 (0+ys.length)),(st'.new dst (.arr (T.sX||e.flat) T.BH e te [])).new dst (.arr ((T.sX||e.flat)&&(rW||e.flat)) (T.BH&&tr2) e te (((([]:List e.den).drop 0).take 0)++ys))) else none
    | .at (.own l off len)=>match st'.at l with
     |some (.arr fr tr e' tid xs)=>if h:e'=e/\tid=te then
       (if len+ys.length<=Ct/\l<Bn then
        some (.at (.own l 0 (len+ys.length)),st'.new l (.arr (fr&&(rW||e.flat)) (tr&&tr2) e te ((((h.1▸xs:List e.den).drop off).take len)++ys))) else none)
      else none
     |_=>none
    |_=>none
  |_,_=>none
def Ql (st:St) (l i m:Nat) (e:Ty) (te tid:TypeId) (rows:List (List e.den)) (kp:Option (Nat×Nat)):St:=
 (st.Kg l (.Bl e te rows (some i) kp)).new m (.arr false false e tid (rows.getD i []))
def Rt (st:St) (dst:Nat) (t:TypeId) (x y:Operand):Option (AV×St):=
 match x with
 | .tmp tx=>match st.get tx with
  | .at (.sub l i _)=>match st.at l,T.elem t with
   |some (.Bl e te rows none kp),some tid=>if (Nat.blt l Bn&&(Nat.blt dst Bn&&!Nat.beq dst l))=true then Of T ((Ql st l i dst e te tid rows kp).put (some tx) (.at (.own dst 0 (rows.getD i []).length))) dst t x y else none
   |_,_=>none
  |_=>Of T st dst t x y
 |_=>Of T st dst t x y
def mE:Ty->Bool
 | .int _| .bool| .str| .slice _| .oslice _=>true
 |_=>false
def fW:Ty->Bool
 | .unit=>true
 | .pair a r=>fW a&&fW r
 |e=>mE e
def bH (st:St) (dst:Nat) (t:TypeId) (l c:AV):Option (AV×St):=
 match T.elem t,l,c with
 |some te, .at (.data _ (.int _) n), .at (.data _ (.int _) m)=>match T.ty te with
  |some e=>if inb n (Ct+1)=true/\n=m/\fW e=true/\dst<Bn then some (.at (.own dst 0 n.toNat),st.new dst (.arr (T.sX||e.flat) (T.BH&&e.tree) e te (List.replicate n.toNat e.zero))) else none
  |none=>none
 |_,_,_=>none
def Lk (e:Ty):Nat->List (Nat×Operand)->St->Option (Bool×Bool×List e.den×St)
 |_,[],st=>some (true,true,[],st)
 |i,(j,x)::r,st=>
  if i=j then match settle st (st.ev x) with
   |some (v,st')=>match Fp st' e v with
    |some (fr,y)=>match Lk e (i+1) r st' with
     |some (Wh,tr',ys,Ata)=>some (fr&&Wh,Tp st (st.ev x)&&e.tree&&tr',y::ys,Ata)
     |none=>none
    |none=>none
   |none=>none
  else none
def Mp (st:St) (dst:Nat) (t:TypeId) (len:Nat) (parts:Array (Nat×Operand)):Option (AV×St):=
 match T.elem t with
 |none=>none
 |some te=>match T.ty te with
  |none=>none
  |some e=>if parts.size=len/\len<=64/\e.size<=64/\dst<Bn then (match Lk e 0 parts.toList st with
   |some (fr,tr,ys,st')=>some (.at (.own dst 0 len),st'.new dst (.arr ((T.sX||e.flat)&&fr) (T.BH&&tr) e te ys))
   |none=>none) else none
def Vb (st:St) (dst:Nat) (t:TypeId):Option (AV×St):=
 match T.mapOf t with
 |some v=>if dst<Bn then some (.at (.Ks dst),st.new dst (.Vu v λ_=>none)) else none
 |none=>none
def aj {α:Type} (m:ByteArray->Option α) (k:ByteArray) (x:α):ByteArray->Option α:= λs=>if s=k then some x else m s
def Ji (st:St) (t:TypeId) (m k x:AV):Option St:=
 match T.mapOf t,m,k with
 |some v, .at (.Ks l), .at (.data _ .str s)=>match st.at l,Fp st v x with
  |some (.Vu v' f),some (_,y)=>if h:v'=v/\v.flat=true/\v.Ao=false then some (st.Kg l (.Vu v (aj (h.1▸f:ByteArray->Option v.den) s y))) else none
  |_,_=>none
 |_,_,_=>none
def iD (st:St) (t t':TypeId) (x y:AV):Option (AV×St):=
 match x,(T.elem t).bind T.ty with
 | .at (.own l off len),some e=>if T.elem t=T.elem t'/\e.flat=true/\e.size=1 then match st.at l,Fp st (.slice e) y with
  |some (.arr fr _ e' tid xs),some (_,ys)=>if h:e'=e/\T.elem t=some tid then
    some (.at (.data true (.int .i64) (min len ys.length:Nat)),st.Kg l (.arr fr false e tid (Du (h.1▸xs:List e.den) off (ys.take len))))
   else none
  |_,_=>none
  else none
 |_,_=>none
def evalClear (st:St) (t:TypeId) (x:AV):Option St:=
 match x,(T.elem t).bind T.ty with
 | .at (.own l off len),some e=>if e.flat=true/\mE e=true then match st.at l with
  |some (.arr fr _ e' tid xs)=>if h:e'=e/\T.elem t=some tid then
    some (st.Kg l (.arr fr false e tid (Du (h.1▸xs:List e.den) off (List.replicate len e.zero))))
   else none
  |_=>none
  else none
 |_,_=>none
def Mo (st:St) (t:TypeId):List (Nat×Operand)->List AC->Option (List AC)
 | [],cs=>some cs
 |(i,x)::r,cs=>
  match T.off t i with
  |some (o,u)=>match T.ty u with
   |some ρ=>match cellsOf ρ (st.ev x) with
    |some c=>if o+c.length<=cs.length then Mo st t r (Du cs o c) else none
    |none=>none
   |none=>none
  |none=>none
def Yf (st:St) (t:TypeId) (parts:Array (Nat×Operand)):Option AV:=
 match T.ty t with
 |none=>none
 |some τ=>if τ.Ao then (Mo T st t parts.toList (zeroCells τ)).map .agg else none
def Dx (io:Bool) (k:Nat):Nat:=if io then 1000000000+k else 500000+k
def Km (k:Nat):Nat:=600000+k
def ZZ (dst:Nat) (k:Nat):Nat:=1000000*(dst+1)+k
def Th:List (Option Nat)->List AC->List AV
 |none::s,a::as=> .at a::Th s as
 |some n::s,as=> .agg (as.take n)::Th s (as.drop n)
 |_,_=> []
def Kz:List (Option Nat)->List Value->List Value
 |none::s,u::us=>u::Kz s us
 |some n::s,us=> .agg (us.take n).toArray::Kz s (us.drop n)
 |_,_=> []
def ungroup:List (Option Nat)->List AV->Option (List AC)
 | [],[]=>some []
 |none::s, .at a::as=>(ungroup s as).map λr=>a::r
 |some n::s, .agg cs::as=>if cs.length=n then (ungroup s as).map λr=>cs++r else none
 |some n::s, .at (.data fr τ x)::as=>if τ.Ao=true/\(Sr fr τ x).length=n then (ungroup s as).map λr=>Sr fr τ x++r else none
 |_,_=>none
def kD (l:Nat):(c:CK)->c.den->Option OB
 | .Fy _,_=>none
 | .row e te,xs=>some (.arr false false e te xs)
 | .Hw e te,xs=>some (.Gu e te xs)
 | .part e te,x=>some (.arr false false e te x.1)
 | .Bl e te kp,xs=>some (.Bl e te xs none (if kp then some (l,List.length xs) else none))
def Aq2 (l:Nat):(c:CK)->c.den->AC
 | .Fy τ,x=> .data τ.flat τ x
 | .row _ _,xs=> .own l 0 (List.length xs)
 | .Hw _ _,xs=> .own l 0 (List.length xs)
 | .part _ _,x=> .own l x.2.1 x.2.2
 | .Bl _ _ _,xs=> .own l 0 (List.length xs)
def iw {α:Type} (l:Nat):Option α->List (Nat×α)->List (Nat×α)
 |none,r=>r
 |some b,r=>(l,b)::r
def Zy:(k:Nat)->(cs:List (Bool×CK))->Ins.den cs->List (Nat×OB)
 |_,[],_=> []
 |k,p::r,x=>iw (Dx p.1 k) (kD (Dx p.1 k) p.2 x.1) (Zy (k+1) r x.2)
def bQ:(k:Nat)->(cs:List (Bool×CK))->Ins.den cs->List AC
 |_,[],_=> []
 |k,p::r,x=>Aq2 (Dx p.1 k) p.2 x.1::bQ (k+1) r x.2
inductive Loc where
 |row (l:Nat)
 |sub (l i c:Nat)
 |view (l:Nat)
 deriving DecidableEq
def Loc.Xn:Loc->Nat
 | .row l=>l
 | .sub l _ _=>l
 | .view l=>l
def Loc.reads:Loc->Bool
 | .view _=>true
 |_=>false
def cf (st:St) (ls:List Nat):Bool:=ls.all λl=>match st.at l with|some (.var _ vs)=>vs.all (·.settled)|_=>false
def views (k:Nat) (ls:List Nat):List (Nat×Loc):=ls.map λl=>(Dx false k, .view l)
def Mg (st:St) (io:Bool) (k:Nat):(c:CK)->AC->Option (c.den×List (Nat×Loc))
 | .Fy τ, .own l off len=>(Dm st τ (.own l off len)).map λp=>(p.2,[(Dx false k, .view l)])
 | .Fy τ, .clo g Ee=>if cf st (Ee.map (·.1))&&!τ.Ao then (Kc st τ (.clo g Ee)).map λp=>(p.2,views k (Ee.map (·.1))) else none
 | .Fy τ, .Hj l i=>if cf st [l]&&!τ.Ao then (Kc st τ (.Hj l i)).map λp=>(p.2,views k [l]) else none
 | .Fy τ, .sub l i c=>(Dm st τ (.sub l i c)).map λp=>(p.2,[(Dx false k, .view l)])
 | .Fy τ,a=>if τ.flat||a.settled then (Dm st τ a).map λp=>(p.2,[]) else none
 | .row e te, .own l off len=>match st.at l with
  |some (.arr _ _ e' Rj xs)=>if h:e'=e/\Rj=te/\off=0/\len=xs.length then some ((h.1▸xs:List e.den),[(Dx io k, .row l)]) else none
  |_=>none
 | .row e _, .sub l i c=>match st.at l with
  |some (.Gu e' _ xs)=>if h:e'= .slice e/\e.flat=true/\io=true/\c=0 then xs[i]?.map λy=>((h.1▸y:(Ty.slice e).den),[(Dx io k, .sub l i c)]) else none
  |_=>none
 | .row _ _, .Ly=>some ([],[])
 | .Hw e te, .own l off len=>match st.at l with
  |some (.Gu e' Rj xs)=>if h:e'=e/\Rj=te/\off=0/\len=xs.length then some ((h.1▸xs:List e.den),[(Dx io k, .row l)]) else none
  |_=>none
 | .Hw e _, .sub l i c=>match st.at l with
  |some (.Gu e' _ xs)=>if h:e'= .slice e/\io=true/\c=0 then xs[i]?.map λy=>((h.1▸y:(Ty.slice e).den),[(Dx io k, .sub l i c)]) else none
  |_=>none
 | .Hw _ _, .Ly=>some ([],[])
 | .part e te, .own l off len=>match st.at l with
  |some (.arr _ _ e' Rj xs)=>if h:e'=e/\Rj=te/\e.flat=true/\io=true then some (((h.1▸xs:List e.den),off,len),[(Dx io k, .row l)]) else none
  |_=>none
 | .Bl e te _, .own l off len=>match st.at l with
  |some (.Bl e' Rj rows none _)=>if h:e'=e/\Rj=te/\off=0/\len=rows.length/\io=false then some ((h.1▸rows:List (List e.den)),[(Dx io k, .row l)]) else none
  |_=>none
 |_,_=>none
def fS (st:St):(k:Nat)->(cs:List (Bool×CK))->List AC->Option (Ins.den cs×List (Nat×Loc))
 |_,[],[]=>some ((),[])
 |k,p::r,a::as=>match Mg st p.1 k p.2 a,fS st (k+1) r as with
  |some (x,t1),some (y,t2)=>some ((x,y),t1++t2)
  |_,_=>none
 |_,_,_=>none
def cp (st:St):(c:CK)->c.den->AC->Option St
 | .row e _,ys, .own l _ len=>match st.at l with
  |some (.arr fr tr e' te xs)=>if h:e=e'/\List.length ys=len/\xs.length=len then some (st.Kg l (.arr (fr&&e'.flat) (tr&&e'.flat) e' te (h.1▸ys))) else none
  |_=>none
 | .Hw e _,ys, .own l _ len=>match st.at l with
  |some (.Gu e' te xs)=>if h:e=e'/\List.length ys=len/\xs.length=len then some (st.Kg l (.Gu e' te (h.1▸ys))) else none
  |_=>none
 | .row e _,ys, .sub l i _=>match st.at l with
  |some (.Gu e' te xs)=>if h: .slice e=e' then (match xs[i]? with
   |some y=>if List.length ys=List.length (h▸y:(Ty.slice e).den) then some (st.Kg l (.Gu e' te (xs.set i (h▸(ys:(Ty.slice e).den))))) else none
   |none=>none) else none
  |_=>none
 | .Hw e _,ys, .sub l i _=>match st.at l with
  |some (.Gu e' te xs)=>if h: .slice e=e' then (match xs[i]? with
   |some y=>if List.length ys=List.length (h▸y:(Ty.slice e).den) then some (st.Kg l (.Gu e' te (xs.set i (h▸(ys:(Ty.slice e).den))))) else none
   |none=>none) else none
  |_=>none
 |_,_, .Ly=>some st
 |_,_,_=>none
def MY (st:St) (e:Ty) (ys:List e.den):AC->Option St
 | .own l _ _=>match st.at l with
  |some (.arr fr tr e' te xs)=>if h:e=e'/\List.length ys=xs.length then some (st.Kg l (.arr fr tr e' te (h.1▸ys))) else none
  |_=>none
 |_=>none
def Ih:(cs:List (Bool×CK))->IOs.den cs->List AC->St->Option St
 | [],_,_,st=>some st
 |(true, .Fy _)::r,x,_::as,st=>Ih r x as st
 |(true, .row e te)::r,x,a::as,st=>match cp st (.row e te) x.1 a with
  |some st'=>Ih r x.2 as st'
  |none=>none
 |(true, .Hw e te)::r,x,a::as,st=>match cp st (.Hw e te) x.1 a with
  |some st'=>Ih r x.2 as st'
  |none=>none
 |(true, .part e _)::r,x,a::as,st=>match MY st e x.1 a with
  |some st'=>Ih r x.2 as st'
  |none=>none
 |(true, .Bl _ _ _)::r,x,_::as,st=>Ih r x as st
 |(false,_)::r,x,_::as,st=>Ih r x as st
 |_,_,_,_=>none
def Cr (dead part:List Nat) (c:AC):AC:=if c.refs.any (λl=>dead.contains l) then .undef else match c with
 | .sub l i c=>if part.contains l then .undef else .sub l i c
 | .Kh l i c=>if part.contains l then .undef else .Kh l i c
 |c=>c
def Yd:List (Nat×OB)->List Nat->List (Nat×OB)
 | [],_=> []
 |(k,b)::r,dead=>if dead.contains k then Yd r dead else (k,b)::Yd r dead
def St.cD (st:St) (dead part:List Nat):St:=let s:=st.Lc (Cr dead part); {s with heap:=Yd s.heap dead}
def Tw (st:St) (l j m:Nat) (e:Ty) (te:TypeId) (rows:List (List e.den)) (xs:List e.den) (kp:Option (Nat×Nat)):St:=
 (st.cD [m] [l]).Kg l (.Bl e te (rows.set j xs) none kp)
def bU (j:Nat):Option (Nat×Nat)->Option (Nat×Nat)
 |none=>none
 |some p=>some (p.1,min p.2 j)
def bJ (st:St) (t:TypeId) (p v:AV):Option St:=
 match T.ty t,p with
 |some τ, .at (.Kh l i j)=>match settle st v with
  |some (v',st')=>match st'.at l,Fp st' τ v' with
   |some (.Bl e te rows none kp),some (_,x)=>if h:τ=e then some (st'.Kg l (.Bl e te (rows.set i ((rows.getD i []).set j (h▸x))) none kp)) else none
   |_,_=>none
  |none=>none
 |some τ, .at (.Kk l j)=>match st.at l,v with
  |some (.Bl e te rows out kp), .at (.own m off len)=>match st.at m with
   |some (.arr _ _ e' _ xs)=>if h:e'=e/\(Nat.blt l Bn&&(!Nat.beq m l&&!τ.Ao))=true/\off=0/\len=xs.length/\(out=none\/out=some j) then some (Tw st l j m e te rows (h.1▸xs) (bU j kp)) else none
   |_=>none
  |_,_=>none
 |_,_=>none
def PX (st:St):AV->Bool
 | .at (.Kh _ _ _)=>true
 | .at (.Kk l _)=>match st.at l with
  |some (.Bl _ _ _ _ _)=>true
  |_=>false
 |_=>false
def Py (st:St) (t:TypeId) (p v:AV):Option St:=match PX st p with
 |true=>bJ T st t p v
 |false=>Vc T st t p v
def Rf (st:St) (k m:Nat) (b:OB):St:=let s:=st.cD [m,k] []; {s with heap:=Om s.heap k b}
def e8 (t:TypeId):Option (TypeId×Ty):=(T.elem t).bind λte=>(T.PW te).map λe=>(te,e)
def Yi (st:St) (dst:Nat) (t:TypeId) (l c:AV):Option (AV×St):=
 match e8 T t with
 |none=>bH T st dst t l c
 |some (te,e)=>match l,c with
  | .at (.data _ (.int _) n), .at (.data _ (.int _) m)=>if inb n (Ct+1)=true/\n=m/\dst<Bn then some (.at (.own dst 0 n.toNat),Rf st dst dst (.Bl e te (List.replicate n.toNat []) none none)) else none
  |_,_=>none
def Jg (st:St) (dst:Nat) (t:TypeId) (len:Nat) (parts:Array (Nat×Operand)):Option (AV×St):=
 match e8 T t with
 |none=>Mp T st dst t len parts
 |some (te,e)=>match parts.toList with
  | [(0,x)]=>match st.ev x with
   | .at (.own m off ln)=>match st.at m with
    |some (.arr _ _ e' _ xs)=>if h:e'=e/\(Nat.beq len 1&&(Nat.blt dst Bn&&Nat.blt m Bn))=true/\off=0/\ln=xs.length then some (.at (.own dst 0 1),Rf st dst m (.Bl e te [h.1▸xs] none none)) else none
    |_=>none
   |_=>none
  |_=>none
def Ru (st:St) (dst:Nat) (t:TypeId) (x y:Operand):Option (AV×St):=
 match e8 T t with
 |none=>Rt T st dst t x y
 |some (te,e)=>match st.ev x,st.ev y with
  | .at (.own l off len), .at (.own m Aa1 tN)=>match st.at l,st.at m with
   |some (.Bl e1 te1 A none _),some (.Bl e2 wB B none _)=>
    if h:(e1=e/\e2=e)/\(decide (te1=te)&&decide (wB=te)&&(Nat.blt l Bn&&(Nat.blt m Bn&&!Nat.beq m l)))=true/\(off=0/\len=A.length)/\(Aa1=0/\tN=B.length)/\0<B.length/\A.length+B.length<=Ct then
     some (.at (.own l 0 (A.length+B.length)),Rf st l m (.Bl e te ((h.1.1▸A:List (List e.den))++(h.1.2▸B:List (List e.den))) none none))
    else none
   |_,_=>none
  |_,_=>none
def vV (fr:Bool):(c:CK)->c.den->Option OB
 | .Fy _,_=>none
 | .row e te,xs=>some (.arr (fr&&e.flat) false e te xs)
 | .Hw e te,xs=>some (.Gu e te xs)
 | .part e te,x=>some (.arr (fr&&e.flat) false e te x.1)
 | .Bl e te _,xs=>some (.Bl e te xs none none)
def EP (H:List (Nat×OB)) (l:Nat):Option OB->List (Nat×OB)
 |some b=>Om H l b
 |none=>H
def Yq (fr:Bool) (key:Nat->Nat):(k:Nat)->(cs:List CK)->CKs.den cs->List (Nat×OB)->List (Nat×OB)
 |_,[],_,H=>H
 |k,c::r,x,H=>Yq fr key (k+1) r x.2 (EP H (key k) (vV fr c x.1))
def bX (key:Nat->Nat):(k:Nat)->(cs:List CK)->CKs.den cs->List AC
 |_,[],_=> []
 |k,c::r,x=>(match c,x.1 with
  | .Fy τ,y=> .data τ.flat τ y
  | .row _ _,xs=> .own (key k) 0 (List.length xs)
  | .Hw _ _,xs=> .own (key k) 0 (List.length xs)
  | .Bl _ _ _,xs=> .own (key k) 0 (List.length xs)
  | .part _ _,_=> .undef)::bX key (k+1) r x.2
def ar:List (Option Nat)->List AC->List (Bool×List AC)
 |none::s,a::as=>(false,[a])::ar s as
 |some n::s,as=>(true,as.take n)::ar s (as.drop n)
 |_,_=> []
def Ans (Hi:Bool) (sh:List (Option Nat)) (as:List AC):Option AV:=
 if Hi then some (.Mw (ar sh as)) else match Th sh as with
  | [v]=>some v
  | []=>some .undef
  |_=>none
def mS (tks:List (Nat×Loc)):List Nat:=(tks.filter λt=>Nat.blt t.1 Bn&&!t.2.reads).map λt=>t.2.Xn
def whole (tks:List (Nat×Loc)):List Nat:=tks.flatMap λt=>match t.2 with| .row l=> [l]|_=> []
def BM (tks:List (Nat×Loc)):List Nat:=(tks.filter λt=>t.2.reads).map λt=>t.2.Xn
def FB (ins:List (Bool×CK)) (te:TypeId) (used:List Nat):List (Nat×Loc)->Option Nat
 | []=>none
 |(k, .row l)::r=>if Nat.blt k Bn&&(!used.contains l&&(match ins[k-500000]? with
   |some (false, .row _ Rj)=>decide (Rj=te)
   |some (false, .Hw _ Rj)=>decide (Rj=te)
   |some (false, .Bl _ Rj _)=>decide (Rj=te)
   |_=>false)) then some l else FB ins te used r
 |_::r=>FB ins te used r
def LN (ins:List (Bool×CK)) (tks:List (Nat×Loc)) (d:Nat):(k:Nat)->(used:List Nat)->List CK->List Nat
 |_,_,[]=> []
 |k,used,c::r=>match (match c with
   | .row _ te=>FB ins te used tks
   | .Hw _ te=>FB ins te used tks
   | .Bl _ te _=>FB ins te used tks
   |_=>none) with
  |some l=>l::LN ins tks d (k+1) (l::used) r
  |none=>ZZ d k::LN ins tks d (k+1) used r
def mP (s:MSpec) (tks:List (Nat×Loc)) (d:Nat):List Nat:=LN s.ins tks d 0 [] s.outs
def Ed (ks:List Nat) (j:Nat):Nat:=match ks[j]? with
 |some l=>l
 |none=>Bn+j
def zl (ks:List Nat) (n:Nat):Bool:=Nat.beq ks.length n&&(aq ks&&ks.all λl=>Nat.blt l Bn)
def PS (st:St) (l:List Nat):Bool:=l.all λk=>match st.at k with|some (.arr fr _ _ _ _)=>fr|_=>false
def QZ (st:St) (s:MSpec) (args:List AV):Option (List Nat×List AC×List AV):=
 match s.ptr with
 |none=>some ([],[],args)
 |some p=>match args with
  | .at (.Hj l i)::rest=>match st.at l with
   |some (.var tid vs)=>if tid=p.1/\vs.length=p.2/\i=0 then some ([l],vs,rest) else none
   |_=>none
  |_=>none
def Wl:List (Bool×CK)->List AC->Bool
 |(true, .row _ _)::r, .own _ _ _::as=>Wl r as
 |(true, .Hw _ _)::r, .own _ _ _::as=>Wl r as
 |(true,_)::_,_::_=>false
 |(false,_)::r,_::as=>Wl r as
 |_,as=>as.isEmpty
def gA {α:Type} :List (Bool×CK)->List α->List α->List α
 |(true,_)::r,v::vs,as=>v::gA r vs as
 |(false,_)::r,_::vs,a::as=>a::gA r vs as
 |_,vs,_=>vs
def um:List (Bool×CK)->Nat->Nat
 |(true,_)::r,n+1=>um r n
 |(false,_)::r,n+1=>um r n+1
 |_,_=>0
def MSpec.aG (s:MSpec):Nat:=match s.ptr with|none=>0|some p=>um s.ins p.2
def ry (ins:List (Bool×CK)) (as:List AC) (pl:List Nat) (st:St):St:=
 match pl with
 | []=>st
 |l::_=>match st.at l with
  |some (.var tid vs)=>st.Kg l (.var tid (gA ins vs as))
  |_=>st
def Tq (d:Nat):Nat:=ZZ d 999
def mq (s:MSpec) (d:Nat):List Nat:=match s.rp with|none=> []|some _=> [Tq d]
def Sq (s:MSpec) (tks:List (Nat×Loc)) (d:Nat):List Nat:=mP s tks d++mq s d
def nC (H:List (Nat×OB)) (l:Nat):Bool:=match At H l with
 |some (.Bl _ _ _ _ _)=>true
 |_=>false
def bT (H:List (Nat×OB)) (ks:List Nat) (tks:List (Nat×Loc)):List (Nat×Nat)->List Nat
 | []=> []
 |(k,j)::r=>match tks.find? (λt=>Nat.beq t.1 (Dx false k)),ks[j]? with
  |some (_, .row l),some l'=>if Nat.beq l' l&&nC H l then l::bT H ks tks r else bT H ks tks r
  |_,_=>bT H ks tks r
def rX (H:List (Nat×OB)) (l:Nat):Nat:=match At H l with
 |some (.Bl _ _ rows _ _)=>rows.length
 |_=>0
def dA (H:List (Nat×OB)) (ls:List Nat) (n:Nat):List AV->Bool
 | []=>true
 | .at (.sub l i _)::r=>(!ls.contains l||(Nat.blt i n&&Nat.blt i (rX H l)))&&dA H ls n r
 |_::r=>dA H ls n r
def Ls (ls:List Nat):List AV->List AV->List AV
 | .at (.sub l i c)::r,v::vs=>(if ls.contains l then .at (.sub l i c) else v)::Ls ls r vs
 |_::r,v::vs=>v::Ls ls r vs
 |_,vs=>vs
def Aiq:Option OB->Option (Nat×Nat)
 |some (.Bl _ _ _ _ kp)=>kp
 |_=>none
def OB.HG (b:OB) (kp:Option (Nat×Nat)):OB:=match b with
 | .Bl e te rows out _=> .Bl e te rows out kp
 |b=>b
def dq (H0:List (Nat×OB)) (ls:List Nat) (n:Nat):List (Nat×OB)->List (Nat×OB)
 | []=> []
 |(l,b)::r=>(l,if ls.contains l then b.HG (bU n (Aiq (At H0 l))) else b)::dq H0 ls n r
def m9 (ck st:St) (ls:List Nat) (n:Nat):St:=match ls with
 | []=>st
 |_=> {tmps:=Ls ls ck.tmps st.tmps,heap:=dq ck.heap ls n st.heap}
def Aef (s:MSpec) (d:Nat) (as:List AC):Option AV:=match s.rp with
 |none=>Ans s.Hi s.Hb as
 |some _=>some (.at (.Hj (Tq d) 0))
def lM (st st1:St) (d:Nat) (s:MSpec) (pl:List Nat) (tks:List (Nat×Loc)) (r:CKs.den s.outs):St:=
 let ks:=Sq s tks d
 let key:=Ed ks
 let st2:=ry s.ins (bX key 0 s.outs r) pl (st1.cD (mS tks++ks++(if s.flat then [] else BM tks)) (whole tks))
 {st2 with heap:=Yq (PS st (mS tks)) key 0 s.outs r (EP st2.heap (Tq d) (s.rp.map λtid=> .var tid ((bX key 0 s.outs r).drop s.aG)))}
def Yg (st:St) (dst:Option Nat) (s:MSpec) (args:List AV):Option (AV×St):=
 match QZ st s args with
 |none=>none
 |some (pl,vs,rest)=>match ungroup s.Ip rest with
 |none=>none
 |some oB=>match fS st 0 s.ins (vs++oB) with
  |none=>none
  |some (x,tks)=>if aq (tks.map λt=>t.2.Xn)&&zl (Sq s tks (dst.getD 0)) (s.outs.length+(mq s (dst.getD 0)).length)&&Nat.blt s.outs.length 1000&&Nat.blt s.ins.length 1000&&(Wl s.ins vs&&pl.all λl=>!((tks.map λt=>t.2.Xn)++Sq s tks (dst.getD 0)).contains l) then match s.fn x with
   |none=>none
   |some (r,o)=>match Ih s.ins o (vs++oB) st with
    |none=>none
    |some st1=>match Aef s (dst.getD 0) ((bX (Ed (Sq s tks (dst.getD 0))) 0 s.outs r).drop s.aG) with
     |none=>none
     |some v=>if dA (lM st st1 (dst.getD 0) s pl tks r).heap (bT st.heap (Sq s tks (dst.getD 0)) tks s.keeps) (s.Fb x) st.tmps=true then
       some (v,m9 st (lM st st1 (dst.getD 0) s pl tks r) (bT st.heap (Sq s tks (dst.getD 0)) tks s.keeps) (s.Fb x)) else none
   else none
def Nq:List Operand->St->Option St
 | [],st=>some st
 |x::r,st=>match settle st (st.ev x) with
  |some (_,st')=>Nq r st'
  |none=>none
def Ou (st:St) (p x:Operand):St:=match st.ev p with
 | .at (.Hj l _)=>match T.marks.contains (fM+l) with
  |true=>match Nq [x] st with
   |some s0=>s0
   |none=>st
  |false=>st
 |_=>st
def fu (s:Spec) (args:List AV):Bool:=!(s.fresh||s.res.flat||args.all (·.settled))
def evalOp (Γ:Env) (st:St) (o:Oper):Option (AV×St):=
 match o.op with
 | .assign x=>match st.ev x,o.dst,(T.elem o.type).bind λte=>(T.ty te).map λe=>(te,e) with
  | .at .Ly,some d,some (te,e)=>if d<Bn then some (.at (.own d 0 0),st.new d (.arr (T.sX||e.flat) T.BH e te [])) else none
  |v,_,_=>some (v,st)
 | .alloc t=>match o.dst,T.ty t with
  |some d,some τ=>match T.marks.contains (dQ+d) with
   |true=>tU st d t (Qi τ)
   |false=>mkVar T st d t τ (zeroCells τ)
  |_,_=>none
 | .box t x=>match o.dst,T.ty t with
  |some d,some τ=>match cellsOf τ (st.ev x) with
   |some cs=>match T.marks.contains (dQ+d) with
    |true=>if cs.all (·.settled)=true then (Ey st τ cs).map λp=>(.at (.data false (.optr τ) (some p.2)),st) else none
    |false=>mkVar T st d t τ cs
   |none=>none
  |_,_=>none
 | .store t p x=>(Py T (Ou T st p x) t ((Ou T st p x).ev p) ((Ou T st p x).ev x)).map λs=>(.undef,s)
 | .makeSlice t l c=>match o.dst with
  |some d=>Yi T st d t (st.ev l) (st.ev c)
  |none=>none
 | .makeMap t none=>match o.dst with
  |some d=>Vb T st d t
  |none=>none
 | .mapUpdate t m k x=>(Ji T st t (st.ev m) (st.ev k) (st.ev x)).map λs=>(.undef,s)
 | .insert t m k x=>(Ji T st t (st.ev m) (st.ev k) (st.ev x)).map λs=>(.undef,s)
 | .buildSlice t len parts=>match o.dst with
  |some d=>Jg T st d t len parts
  |none=>none
 | .build t parts=>(Yf T st t parts).map λv=>(v,st)
 | .call {callee:= .builtin .append,args,argTypes} =>match o.dst,args.toList,argTypes.toList with
  |some d,[x,y],[t,t']=>if t=t' then Ru T st d t x y else none
  |_,_,_=>none
 | .call {callee:= .builtin .copy,args,argTypes} =>match args.toList,argTypes.toList with
  | [x,y],[t,t']=>iD T st t t' (st.ev x) (st.ev y)
  |_,_=>none
 | .call {callee:= .builtin .clear,args,argTypes} =>match args.toList,argTypes.toList with
  | [x],[t]=>(evalClear T st t (st.ev x)).map λs=>(.undef,s)
  |_,_=>none
 | .call {callee:= .value (.func f),args, .. } =>match Γ f with
  |some (.m s)=>Yg st o.dst s (args.toList.map st.ev)
  |some (.q s)=>if fu s (args.toList.map st.ev) then (match Nq args.toList st with
   |some st1=>(Fa T Γ st1 o).map λv=>(v,st1)
   |none=>none) else (Fa T Γ st o).map λv=>(v,st)
  |_=>(Fa T Γ st o).map λv=>(v,st)
 |_=>(Fa T Γ st o).map λv=>(v,st)
def fy (e:Ty):Nat->List (Nat×Operand)->St->Option (Bool×List e.den)
 |_,[],_=>some (true,[])
 |i,(j,x)::r,st=>
  if i=j/\(st.ev x).settled=true then match Fp st e (st.ev x),fy e (i+1) r st with
   |some (fr,y),some (Wh,ys)=>some (fr&&Wh,y::ys)
   |_,_=>none
  else none
def bG (st:St) (t:TypeId) (len:Nat) (parts:Array (Nat×Operand)):Option AV:=
 match T.elem t with
 |none=>none
 |some te=>match T.ty te with
  |none=>none
  |some e=>if parts.size=len/\len<=64/\e.size<=64 then (fy e 0 parts.toList st).map λp=> .at (.data p.1 (.slice e) p.2) else none
def Xr (Γ:Env) (st:St) (o:Oper):Option AV:=
 match o.op with
 | .buildSlice t len parts=>bG T st t len parts
 | .build t parts=>Yf T st t parts
 |_=>Fa T Γ st o
def ZQ (q:Bool) (Γ:Env) (o:Oper):Bool:=
 match o.op with
 | .buildSlice _ _ _| .build _ _=>!q
 | .alloc _| .box _ _| .store _ _ _| .makeSlice _ _ _| .makeMap _ _| .mapUpdate _ _ _ _| .insert _ _ _ _=>true
 | .assign (.const _)=>true
 | .call {callee:= .builtin .append, .. } =>true
 | .call {callee:= .builtin .copy, .. } =>true
 | .call {callee:= .builtin .clear, .. } =>true
 | .call {callee:= .value (.func f), .. } =>match Γ f with
  |some (.m _)=>true
  |_=>false
 |_=>false
def Eu (Γ:Env) (ops:Array Oper) (st:St) (o:Oper):Option St:=
 match o.guard with
 |none=>(evalOp T Γ st o).map λr=>r.2.put o.dst r.1
 |some (j,want)=>match Xz st ((ops[j]?).bind (·.dst)) with
  |some (some b)=>if b==want then (evalOp T Γ st o).map λr=>r.2.put o.dst r.1 else some (st.put o.dst (.at .skip))
  |some none=>some (st.put o.dst (.at .skip))
  |none=>none
def aO (Γ:Env) (ops:Array Oper):List Oper->St->Option St
 | [],st=>some st
 |o::r,st=>match Eu T Γ ops st o with
  |some st'=>aO Γ ops r st'
  |none=>none
def Jp (q:Bool) (Γ:Env) (ops:Array Oper):List Nat:=
 (List.range ops.size).foldl (init:= []) λacc i=>match ops[i]? with
  |some o=>if ZQ q Γ o||o.after.any (λe=>Region.binds .any e&&acc.contains e.on) then acc++ [i] else acc
  |none=>acc
def cG (q:Bool) (Γ:Env) (ops:Array Oper):List Nat:=(List.range ops.size).filter λi=>!(Jp q Γ ops).contains i
def nB (ops:Array Oper) (hd tl:List Nat) (i:Nat):Bool:=
 match ops[i]? with
 |some o=>(match o.op,o.guard with
  | .move (.tmp _),none=>true
  |_,_=>false)&&!((tl.take 1++hd).any λj=>decide (i<j)&&Region.waitsFor .any ops j i)
 |none=>false
def Wg (q:Bool) (Γ:Env) (ops:Array Oper):List Nat:=(cG q Γ ops).filter λi=>nB ops (cG q Γ ops) (Jp q Γ ops) i
def Wj (q:Bool) (Γ:Env) (ops:Array Oper):List Nat:=(cG q Γ ops).filter λi=>!nB ops (cG q Γ ops) (Jp q Γ ops) i
def jR (q:Bool) (Γ:Env) (ops:Array Oper):List Nat:=Wg q Γ ops++Wj q Γ ops
def ZH (ops:Array Oper) (i:Nat):Bool:=match ops[i]? with
 |some o=>(match o.op,o.guard with
  | .extract _ _,none=>true
  |_,_=>false)
 |none=>false
def o0 (ops:Array Oper):List Nat->Array Bool->Bool
 | [],Ag=>(Region.ready .any ops Ag).isEmpty
 |k::r,Ag=>(decide (Region.ready .any ops Ag= [k])||(ZH ops k&&((Region.ready .any ops Ag).contains k&&Region.free .any ops Ag k)))&&o0 ops r (Ag.setIfInBounds k true)
def p7 (ops:Array Oper) (tl:List Nat):List Nat->Array Bool->Bool
 | [],Ag=>o0 ops tl Ag
 |k::r,Ag=>(Region.ready .any ops Ag).contains k&&Region.free .any ops Ag k&&p7 ops tl r (Ag.setIfInBounds k true)
def uz (ops:Array Oper) (hd:List Nat):List Nat->Bool
 | []=>true
 |f::r=>(hd.all λi=>(f::hd).any λj=>decide (i<j)&&Region.waitsFor .any ops j i)&&r.all λt=>(f::r).any λk=>Region.waitsFor .any ops t k
def ni (ops:Array Oper) (tl hd:List Nat):List Nat->Array Bool->Bool
 | [],Ag=>p7 ops tl hd Ag
 |k::r,Ag=>(Region.ready .any ops Ag).contains k&&Region.free .any ops Ag k&&ni ops tl hd r (Ag.setIfInBounds k true)
def cO (q:Bool) (Γ:Env) (ops:Array Oper):Bool:=
 Region.noSelect ops&&((Wg q Γ ops).length+((Wj q Γ ops).length+(Jp q Γ ops).length)==ops.size)&&ni ops (Jp q Γ ops) (Wj q Γ ops) (Wg q Γ ops) (Array.replicate ops.size false)&&uz ops (Wj q Γ ops) (Jp q Γ ops)
def Xq (Γ:Env) (ops:Array Oper) (st:St) (o:Oper):Option AV:=
 match o.guard with
 |none=>Xr T Γ st o
 |some (j,want)=>match Xz st ((ops[j]?).bind (·.dst)) with
  |some (some b)=>if b==want then Xr T Γ st o else some (.at .skip)
  |some none=>some (.at .skip)
  |none=>none
def Ge (Γ:Env) (ops:Array Oper):List Nat->St->Option St
 | [],st=>some st
 |i::r,st=>match ops[i]? with
  |none=>none
  |some o=>match Xq T Γ ops st o with
   |some v=>Ge Γ ops r (st.put o.dst v)
   |none=>none
def Mz (Γ:Env) (ops:Array Oper):List Nat->St->Option St
 | [],st=>some st
 |i::r,st=>match ops[i]? with
  |none=>none
  |some o=>match Eu T Γ ops st o with
   |some st'=>Mz Γ ops r st'
   |none=>none
def Rw (Γ:Env) (ops:Array Oper) (draw:Bool) (st:St):Option St:=
 if draw then (if cO false Γ ops then (match Ge T Γ ops (jR false Γ ops) st with
  |some st'=>Mz T Γ ops (Jp false Γ ops) st'
  |none=>none) else if cO true Γ ops then (match Ge T Γ ops (jR true Γ ops) st with
  |some st'=>Mz T Γ ops (Jp true Γ ops) st'
  |none=>none) else none)
 else aO T Γ ops ops.toList st
def ze (ops:Array Oper) (i:Nat):Bool:=match ops[i]? with
 |some o=>(match o.op,o.guard with
  | .move (.tmp _),none=>true
  |_,_=>false)
 |none=>false
def jW (ops:Array Oper) (i:Nat):Bool:=match ops[i]? with
 |some o=>(match o.op,o.guard with
  | .move (.tmp _),none=>true
  | .nilCheck _,none=>true
  | .fieldAddr _ _ _,none=>true
  |_,_=>false)
 |none=>false
def Ao1 (q:Bool) (ops:Array Oper) (i:Nat):Bool:=match q with
 |true=>jW ops i
 |false=>ze ops i
def Jo (q:Bool) (ops:Array Oper):List Nat->Array Bool->List Nat
 | [],_=> []
 |i::r,Ag=>if Ao1 q ops i&&((Region.ready .any ops Ag).contains i&&Region.free .any ops Ag i) then i::Jo q ops r (Ag.setIfInBounds i true) else Jo q ops r Ag
def ZV (q:Bool) (ops:Array Oper):List Nat:=Jo q ops (List.range ops.size) (Array.replicate ops.size false)
def jN (q:Bool) (ops:Array Oper):Bool:=Nat.ble (ops.size-(ZV q ops).length) 8
def Kt (ops:Array Oper):List Nat:=ZV (!jN false ops) ops
def Ei:List Nat->Array Bool->Array Bool
 | [],Ag=>Ag
 |i::r,Ag=>Ei r (Ag.setIfInBounds i true)
def anyS (Γ:Env) (ops:Array Oper) (K:St->Prop):Nat->Array Bool->St->Prop
 |0,Ag,st=>Region.ready .any ops Ag= []/\K st
 |f+1,Ag,st=>Region.ready .any ops Ag≠ []/\ ∀i∈Region.ready .any ops Ag,∃o st',ops[i]?=some o/\Eu T Γ ops st o=some st'/\anyS Γ ops K f (Ag.setIfInBounds i true) st'
def jX (ops:Array Oper) (i:Nat):Bool:=match ops[i]? with
 |some o=>(match o.op,o.guard with
  | .move _,none=>true
  | .load _ _,none=>true
  | .indexAddr _ _ _,none=>true
  | .fieldAddr _ _ _,none=>true
  |_,_=>false)
 |none=>false
def kd (ops:Array Oper):List Nat->Array Bool->List Nat
 | [],_=> []
 |i::r,Ag=>if jX ops i&&((Region.ready .any ops Ag).contains i&&Region.free .any ops Ag i) then i::kd ops r (Ag.setIfInBounds i true) else kd ops r Ag
def pV (ops:Array Oper) (i j:Nat) (p:Oper->Oper->Bool):Bool:=match ops[i]?,ops[j]? with
 |some x,some y=>p x y
 |_,_=>false
def ov (ops:Array Oper) (x y:Oper):Bool:=match x.dst with
 |some d=>!(y.looksAt ops).contains d
 |none=>true
def KF (x y:Oper):Bool:=match x.dst with
 |some d=>y.dst !=some d
 |none=>true
def jg (ops:Array Oper):List Nat->Array Bool->Bool
 | [],_=>true
 |r::E,Ag=>(Region.ready .any ops Ag).contains r&&jg ops E (Ag.setIfInBounds r true)
def zJ (ops:Array Oper):List Nat->Bool
 | []=>true
 |r::E=>(pV ops r r (ov ops)&&E.all λq=>pV ops r q (λx y=>KF x y&&ov ops y x)&&(Region.waitsFor .any ops q r||pV ops r q (ov ops)))&&zJ ops E
def Acu (ops:Array Oper) (E:List Nat) (L0:Array Bool):Bool:=E.all λr=>(List.range ops.size).all λj=>E.contains j||L0.getD j false||Region.waitsFor .any ops j r||pV ops r j (λx y=>x.apart ops y)
def cP (ops:Array Oper) (E:List Nat) (L0:Array Bool):Bool:=(E.all (jX ops)&&jg ops E L0)&&(zJ ops E&&Acu ops E L0)
def sk (ops:Array Oper) (E:List Nat) (Ag:Array Bool) (r:Nat):Bool:=(List.range ops.size).any λj=>!E.contains j&&(Ag.getD j false&&Region.waitsFor .any ops j r)
def Aax (Γ:Env) (ops:Array Oper) (E:List Nat) (Ag:Array Bool) (st:St):Prop:=
 ∀r∈E,sk ops E Ag r=true\/ ∃o v,ops[r]?=some o/\Xq T Γ ops st o=some v/\ ∀d,o.dst=some d->st.get d=v
def r8 (Γ:Env) (ops:Array Oper) (E:List Nat) (K:St->Prop):Nat->Array Bool->St->Prop
 |0,Ag,st=>Aax T Γ ops E Ag st/\Region.ready .any ops Ag= []/\K st
 |f+1,Ag,st=>Aax T Γ ops E Ag st/\Region.ready .any ops Ag≠ []/\ ∀i∈Region.ready .any ops Ag,∃o st',ops[i]?=some o/\Eu T Γ ops st o=some st'/\r8 Γ ops E K f (Ag.setIfInBounds i true) st'
def Acs (Γ:Env) (ops:Array Oper) (K:St->Prop) (n:Nat) (L0:Array Bool) (ck:St):Prop:=
 ∃E st1,cP ops E L0=true/\E.length<=n/\Ge T Γ ops E ck=some st1/\r8 T Γ ops E K (n-E.length) (Ei E L0) st1
def zR (Γ:Env) (draw:Bool):Env:= λf=>match Γ f with
 |some (.b s m)=>some (if draw then .q s else .m m)
 |r=>r
inductive Lo where
 |normal
 |exit (id:Nat)
 |ret
def Im (live:List Nat):Nat->List AV->List AV
 |_,[]=> []
 |i,v::r=>(if live.contains i then v else .undef)::Im live (i+1) r
def AV.refs:AV->List Nat
 | .at a=>a.refs
 | .agg cs=>cs.flatMap AC.refs
 | .bu _ _ _=> []
 | .Mw l=>l.flatMap λp=>p.2.flatMap AC.refs
def OB.refs:OB->List Nat
 | .var _ vs=>vs.flatMap AC.refs
 |_=> []
def bf:List Nat->St->St
 | [],st=>st
 |l::r,st=>bf r (st.forget l)
def pA (l k m:Nat):Nat:=if m=l then k else m
def Vj (l k:Nat):AC->AC
 | .own m off len=> .own (pA l k m) off len
 | .Hj m i=> .Hj (pA l k m) i
 | .Kk m i=> .Kk (pA l k m) i
 | .clo f Ee=> .clo f (Ee.map λp=>(pA l k p.1,p.2))
 | .Ks m=> .Ks (pA l k m)
 | .sub m i c=> .sub (pA l k m) i c
 | .Kh m i c=> .Kh (pA l k m) i c
 |a=>a
def St.rename (l k:Nat) (st:St):St:=
 match At st.heap k,At st.heap l with
 |none,some b=>if (Nat.blt l Bn&&Nat.blt k Bn)=true then
   (let s:=st.Lc (Vj l k); {s with heap:=Om (aA s.heap l) k (b.map (Vj l k))}) else st
 |_,_=>st
def Mt:Nat->Nat->St->St
 |0,_,st=>st
 |n+1,t,st=>Mt n (t+1) (match st.get t with
  | .at (.own l _ _)=>match At st.heap l with
   |some (.arr _ _ _ _ _)=>if (st.tmps.take t).any (λv=>v.refs.contains l) then st else st.rename l (700000+t)
   |_=>st
  |_=>st)
def cS:Nat:=1000000007
def AC.Agr (flat:Bool):AC->AC
 | .data fr τ x=> .data (fr&&!(flat&&τ.flat)) τ x
 |c=>c
def OB.Iw (flat all one:Bool):OB->OB
 | .arr fr tr e tid xs=> .arr (fr&&!(all||(one||(flat&&e.flat)))) (tr&&!all) e tid xs
 | .var tid vs=> .var tid (vs.map (AC.Agr flat))
 |b=>b
def Pf:Nat:=1000000009
def Od:Nat:=1100000000
def vh:Nat:=1200000000
def St.Iw (live:List Nat) (st:St):St:= {st with heap:=st.heap.map λp=>(p.1,p.2.Iw (live.contains Pf) (live.contains (Od+p.1)) (live.contains (vh+p.1)))}
def Si:Nat:=900000000
def bY (t:Nat) (st:St):St:=match st.get t with
 | .at (.own l off len)=>match At st.heap l with
  |some (.arr fr tr e tid xs)=>if Nat.blt l Bn=true then (st.new l (.arr fr tr e tid ((xs.drop off).take len))).put (some t) (.at (.own l 0 ((xs.drop off).take len).length)) else st
  |_=>st
 |_=>st
def Pe:Nat:=1900000000
def XE:Nat:=950000000
def Qd (c:Nat) (st:St):St:=match At st.heap Pe with
 |some (.var _ vs)=>match vs[c]? with
  |some (.own l off len)=>match At st.heap l with
   |some (.arr fr tr e te xs)=>if Nat.blt l Bn=true then match At (st.new l (.arr fr tr e te ((xs.drop off).take len))).heap Pe with
     |some (.var tid vs')=>(st.new l (.arr fr tr e te ((xs.drop off).take len))).Kg Pe (.var tid (vs'.set c (.own l 0 ((xs.drop off).take len).length)))
     |_=>st
    else st
   |_=>st
  |_=>st
 |_=>st
def Pu (live:List Nat):Nat->Nat->St->St
 |0,_,st=>st
 |n+1,c,st=>Pu live n (c+1) (if live.contains (XE+c) then Qd c st else st)
def Pc (live:List Nat):Nat->Nat->St->St
 |0,_,st=>Pu live 16 0 st
 |n+1,t,st=>Pc live n (t+1) (if live.contains (Si+t) then bY t st else st)
def St.clean (live:List Nat) (st:St):St:=
 let s:St:= {st with tmps:=Im live 0 st.tmps}
 let r1:=s.tmps.flatMap AV.refs
 let r2:=r1++(s.heap.filter λp=>r1.contains p.1).flatMap λp=>p.2.refs
 let s2:=bf ((s.heap.map (·.1)).filter λl=>!r2.contains l&&Nat.blt l Bn) s
 let s2:=if live.any (λt=>Nat.ble Si t&&Nat.blt t cS) then Pc live s2.tmps.length 0 s2 else s2
 let s3:=if live.contains cS then Mt s2.tmps.length 0 s2 else s2
 if live.any (λt=>Nat.ble Pf t) then s3.Iw live else s3
def Ev:Code->Nat
 | .region id _ _=>id
 | .seq a _=>Ev a
 | .cond _ a _=>Ev a
 | .block _ c=>Ev c
 | .loop c=>1000+Ev c
 |_=>0
def Agy (a b:List Nat):List Nat:=a++b.filter λt=>!a.contains t
def zr:List Oper->List Nat->List Nat
 | [],out=>out
 |o::r,out=>Agy (o.op.operands.toList.filterMap λ | .tmp t=>some t|_=>none) (match o.dst with|some d=>(zr r out).filter (·!=d)|none=>zr r out)
def KG:List (Nat×List Nat)->Nat->List Nat
 | [],_=> []
 |(k,l)::r,id=>if k=id then l else KG r id
def qy:Code->List (Nat×List Nat)->List Nat->List Nat->List Nat×List (Nat×List Nat)
 | .region _ ops _,_,_,out=>(zr ops.toList out,[])
 | .seq a b,env,ret,out=>let rb:=qy b env ret out;let ra:=qy a env ret rb.1;(ra.1,ra.2++rb.2)
 | .cond c a b,env,ret,out=>let ra:=qy a env ret out;let rb:=qy b env ret out
  (Agy (match c with| .tmp t=> [t]|_=> []) (Agy ra.1 rb.1),ra.2++rb.2)
 | .block id c,env,ret,out=>qy c ((id,out)::env) ret out
 | .exit id,env,_,_=>(KG env id,[])
 | .ret,_,ret,_=>(ret,[])
 | .loop c,env,ret,_=>let l:=(qy c env ret []).1;let r:=qy c env ret l;(l,(Ev c,l)::r.2)
 |_,_,_,out=>(out,[])
def zt:List ResultVar->List Nat
 | []=> []
 | .tmp t::r=>t::zt r
 | .cell p _::r=>p::zt r
def zq (marks:List Nat) (fn:Func) (c:Code):Nat->List Nat:=let ret:=zt fn.results.toList;let g:=KG (qy c [] ret ret).2;match marks with
 | []=>g
 |m=> λid=>g id++m
def St.Qq (dead:List Nat) (st:St):St:=
 let s:St:= {st with tmps:=Im ((List.range st.tmps.length).filter λt=>!dead.contains t) 0 st.tmps}
 let r1:=s.tmps.flatMap AV.refs
 let r2:=r1++(s.heap.filter λp=>r1.contains p.1).flatMap λp=>p.2.refs
 bf ((s.heap.map (·.1)).filter λl=>!r2.contains l&&Nat.blt l Bn) s
def Zg (ops:Array Oper) (t:Nat):Bool:=ops.toList.any λo=>o.dst==some t
def kL (Γ:Env) (ops:Array Oper) (draw:Bool) (st:St) (K:St->Prop):Prop:=
 (∃st',Rw T Γ ops draw st=some st'/\K st')\/
 (draw=true/\Region.noSelect ops=true/\ ∃ck,Ge T Γ ops (Kt ops) st=some ck/\
  (anyS T Γ ops K (ops.size-(Kt ops).length) (Ei (Kt ops) (Array.replicate ops.size false)) ck\/Acs T Γ ops K (ops.size-(Kt ops).length) (Ei (Kt ops) (Array.replicate ops.size false)) ck))
def yr (Γ:Env) (ops:Array Oper) (draw:Bool) (st:St) (K:St->Prop):Prop:=
 kL T Γ ops draw st K\/ ∃dead:List Nat,(dead.all (Zg ops))=true/\kL T Γ ops draw st λs=>K (s.Qq dead)
def MG (K:St->Prop) (Q:Lo->St->Prop):Lo->St->Prop
 | .normal,s=>K s
 |e,s=>Q e s
def xm (id:Nat) (Q:Lo->St->Prop):Lo->St->Prop
 | .exit SW,s=>if SW=id then Q .normal s else Q (.exit SW) s
 |e,s=>Q e s
def Aan (ops:Array Oper) (t:Nat):Bool:=ops.toList.any λo=>match o.op with
 | .extract (.tmp s) _=>Nat.beq s t
 | .move (.tmp s)=>Nat.beq s t
 | .assign (.tmp s)=>Nat.beq s t
 |_=>false
def Ox (ops:Array Oper):Nat->List AV->List AV
 |_,[]=> []
 |i, .Mw l::r=>(if Aan ops i=true then .Mw l else .undef)::Ox ops (i+1) r
 |i,v::r=>v::Ox ops (i+1) r
def St.mR (ops:Array Oper) (st:St):St:= {st with tmps:=Ox ops 0 st.tmps}
inductive Ol (Γ:Env) (live:Nat->List Nat):Code->St->(Lo->St->Prop)->Prop where
 |skip {st:St} {Q:Lo->St->Prop} :Q .normal st->Ol Γ live .skip st Q
 |label {l:Nat} {st:St} {Q:Lo->St->Prop} :Q .normal st->Ol Γ live (.label l) st Q
 |exit {id:Nat} {st:St} {Q:Lo->St->Prop} :Q (.exit id) st->Ol Γ live (.exit id) st Q
 |ret {st:St} {Q:Lo->St->Prop} :Q .ret st->Ol Γ live .ret st Q
 |region {id:Nat} {ops:Array Oper} {draw:Bool} {st:St} {Q:Lo->St->Prop} :yr T (zR Γ draw) ops draw (st.mR ops) (Q .normal)->Ol Γ live (.region id ops draw) st Q
 |seq {x y:Code} {st:St} {Q:Lo->St->Prop} (Q1:Lo->St->Prop):Ol Γ live x st Q1->(∀s,Q1 .normal s->Ol Γ live y s Q)->(∀e s,e≠ .normal->Q1 e s->Q e s)->Ol Γ live (.seq x y) st Q
 |cond {c:Operand} {x y:Code} {st:St} {fr t:Bool} {Q:Lo->St->Prop} :st.ev c= .at (.data fr .bool t)->(t=true->Ol Γ live x st Q)->(t=false->Ol Γ live y st Q)->Ol Γ live (.cond c x y) st Q
 |block {id:Nat} {c:Code} {st:St} {Q:Lo->St->Prop} (Q1:Lo->St->Prop):Ol Γ live c st Q1->(∀e s,Q1 e s->xm id Q e s)->Ol Γ live (.block id c) st Q
 |loop {c:Code} {st:St} {Q:Lo->St->Prop} (Q1:Lo->St->Prop):Ol Γ live c (st.clean (live (Ev c))) Q1->(∀s,Q1 .normal s->Ol Γ live (.loop c) s Q)->(∀e s,e≠ .normal->Q1 e s->Q e s)->Ol Γ live (.loop c) st Q
def dv (st:St):List ResultVar->Option (List AV)
 | []=>some []
 | .tmp t::r=>(dv st r).map λl=>st.get t::l
 | .cell p t::r=>match Qm T st t (st.get p),dv st r with
  |some v,some l=>some (v::l)
  |_,_=>none
def nf (s:Spec) (fn:Func) (st:St):Option (Bool×s.res.den):=
 match dv T st fn.results.toList with
 |some [v]=>if s.Hi then none else Fp st s.res v
 |some [v,u]=>if s.Hi then Dv st s.res [v,u] else none
 |some [v,u,t]=>if s.Hi then Dv st s.res [v,u,t] else none
 |_=>none
def Te:(τ:Ty)->τ.den->List AV
 | .pair a r,x=> .at (.data a.flat a x.1)::Te r x.2
 |_,_=> []
def kH (st:St):(c:CK)->AC->Option (c.den×List Nat)
 | .Fy τ,a=>if τ.flat||a.settled then (Dm st τ a).map λp=>(p.2,[]) else none
 | .row e te, .own l off len=>match st.at l with
  |some (.arr _ _ e' Rj xs)=>if h:e'=e/\Rj=te then some ((((h.1▸xs:List e.den).drop off).take len),[l]) else none
  |_=>none
 | .row _ _, .Ly=>some ([],[])
 | .Hw e te, .own l off len=>match st.at l with
  |some (.arr _ tr e' Rj xs)=>if h:e'=e/\Rj=te/\(tr||e.flat)=true then some ((((h.1▸xs:List e.den).drop off).take len),[l]) else none
  |some (.Gu e' Rj xs)=>if h:e'=e/\Rj=te then some ((((h.1▸xs:List e.den).drop off).take len),[l]) else none
  |_=>none
 | .Hw _ _, .Ly=>some ([],[])
 | .Bl e te _, .own l off len=>match st.at l with
  |some (.Bl e' Rj rows none _)=>if h:e'=e/\Rj=te/\off=0/\len=rows.length then some ((h.1▸rows:List (List e.den)),[l]) else none
  |_=>none
 |_,_=>none
def Vh (st:St):(cs:List CK)->List AC->Option (CKs.den cs×List Nat)
 | [],[]=>some ((),[])
 |c::r,a::as=>match kH st c a,Vh st r as with
  |some (x,t1),some (y,t2)=>some ((x,y),t1++t2)
  |_,_=>none
 |_,_=>none
def pZ (st:St) (l:Nat):(c:CK)->Option c.den
 | .Fy _=>none
 | .row e te=>match st.at l with
  |some (.arr _ _ e' Rj xs)=>if h:e'=e/\Rj=te then some (h.1▸xs) else none
  |_=>none
 | .Hw e te=>match st.at l with
  |some (.Gu e' Rj xs)=>if h:e'=e/\Rj=te then some (h.1▸xs) else none
  |_=>none
 | .part _ _=>none
 | .Bl _ _ _=>none
def Ow (st:St):(k:Nat)->(cs:List (Bool×CK))->Option (IOs.den cs)
 |_,[]=>some ()
 |k,(true, .Fy _)::r=>Ow st (k+1) r
 |k,(true, .Bl _ _ _)::r=>Ow st (k+1) r
 |k,(true, .row e te)::r=>match pZ st (Dx true k) (.row e te),Ow st (k+1) r with
  |some x,some y=>some (x,y)
  |_,_=>none
 |k,(true, .Hw e te)::r=>match pZ st (Dx true k) (.Hw e te),Ow st (k+1) r with
  |some x,some y=>some (x,y)
  |_,_=>none
 |k,(true, .part e te)::r=>match pZ st (Dx true k) (.row e te),Ow st (k+1) r with
  |some x,some y=>some (x,y)
  |_,_=>none
 |k,(false,_)::r=>Ow st (k+1) r
def Qb:(k:Nat)->List (Bool×CK)->List Nat
 |_,[]=> []
 |k,(true, .Fy _)::r=>Qb (k+1) r
 |k,(true, .Bl _ _ _)::r=>Qb (k+1) r
 |k,(true,_)::r=>Dx true k::Qb (k+1) r
 |k,(false,_)::r=>Qb (k+1) r
def Jm:(k:Nat)->List (Bool×CK)->List AC->Option (List AC)
 |_,_,[]=>some []
 |k,(true, .row _ _)::r, .own l _ _::as=>if Nat.beq l (Dx true k) then Jm (k+1) r as else none
 |k,(true, .Hw _ _)::r, .own l _ _::as=>if Nat.beq l (Dx true k) then Jm (k+1) r as else none
 |k,(false,_)::r,a::as=>(Jm (k+1) r as).map λl=>a::l
 |_,_,_=>none
def iV (st:St):List AC->List (Bool×CK)->Prop
 | .own l off len::as,(true,_)::r=>(off=0/\match st.at l with
  |some (.arr _ _ _ _ xs)=>len=xs.length
  |some (.Gu _ _ xs)=>len=xs.length
  |_=>False)/\iV st as r
 |_::as,(false,_)::r=>iV st as r
 |_,_=>True
def ND (s:MSpec) (st:St) (l:List AV):Option (List AC×List Nat):=match s.rp with
 |none=>if s.Hi=Nat.blt 1 l.length then (ungroup s.Hb l).map λas=>(as,[]) else none
 |some tid=>match l with
  | [.at (.Hj m i)]=>match st.at m with
   |some (.var Uz vs)=>if Uz=tid/\i=0/\Nat.blt m Bn=true then some (vs,[m]) else none
   |_=>none
  |_=>none
def xr (st:St) (n:Nat) (as:List AC):List (Nat×Nat)->Prop
 | []=>True
 |(k,j)::r=>(match as[j]? with
  |some (.own l _ _)=>match st.at l with
   |some (.Bl _ _ _ _ (some p))=>p.1=Dx false k/\n<=p.2/\Nat.blt k 1000=true
   |_=>False
  |_=>False)/\xr st n as r
def kf (s:MSpec) (fn:Func) (x:Ins.den s.ins) (st:St) (cs:List AC) (P:CKs.den s.outs×IOs.den s.ins->Prop):Prop:=
 match dv T st fn.results.toList with
 |none=>False
 |some l=>match ND s st l with
  |none=>False
  |some (as,ml)=>match Vh st s.outs (cs++as),Ow st 0 s.ins with
   |some (r,ls),some o=>(aq (ml++ls++Qb 0 s.ins)&&Nat.blt s.ins.length 1000&&Nat.blt s.outs.length 1000&&s.ZU)=true/\xr st (s.Fb x) (cs++as) s.keeps/\P (r,o)
   |_,_=>False
def WQ (s:MSpec) (fn:Func) (x:Ins.den s.ins) (st:St) (P:CKs.den s.outs×IOs.den s.ins->Prop):Prop:=
 match s.ptr with
 |none=>kf T s fn x st [] P
 |some p=> ∃vs cs,st.at Pe=some (.var p.1 vs)/\vs.length=p.2/\Jm 0 s.ins vs=some cs/\iV st vs s.ins/\kf T s fn x st cs P
def aC (s:MSpec) (as:List AC):List AV:=match s.ptr with
 |none=>Th s.Ip as
 |some p=> .at (.Hj Pe 0)::Th s.Ip (as.drop p.2)
def qp (s:MSpec) (x:Ins.den s.ins):List (Nat×OB):=match s.ptr with
 |none=>Zy 0 s.ins x
 |some p=>Zy 0 s.ins x++ [(Pe, .var p.1 ((bQ 0 s.ins x).take p.2))]
def a6:List (Bool×CK)->Bool
 | []=>true
 |(true, .Bl _ _ _)::_=>false
 |_::r=>a6 r
def zM (s:MSpec):Bool:=a6 s.ins&&match s.ptr with
 |none=>true
 |some p=>Nat.ble p.2 s.ins.length
def Af4 (Γ:Env) (s:MSpec) (fn:Func) (x:Ins.den s.ins) (P:CKs.den s.outs×IOs.den s.ins->Prop):Prop:=
 (Nat.blt s.ins.length 1000&&zM s)=true/\ ∃c,fn.body=some c/\Ol T Γ (zq T.marks fn c) c {tmps:=aC s (bQ 0 s.ins x)++List.replicate (fn.ntmps-(aC s (bQ 0 s.ins x)).length) .undef,heap:=qp s x}
  (λe st=>(∀id,e≠ .exit id)/\WQ T s fn x st P)
def WR (Γ:Env) (s:Spec) (fn:Func) (x:s.arg.den) (P:s.res.den->Prop):Prop:=
 ∃c,fn.body=some c/\Ol T Γ (zq T.marks fn c) c {tmps:=Te s.arg x++List.replicate (fn.ntmps-(Te s.arg x).length) .undef,heap:= []}
  (λe st=>(∀id,e≠ .exit id)/\ ∃fr y,nf T s fn st=some (fr,y)/\(fr||!s.fresh)=true/\P y)
end Go.Proofs.Ytkkdpknjohcekaa
