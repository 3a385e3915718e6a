/-
  Part 3 of the proof that the statement FnNoShorterSolution holds.
-/
import Derived.Test.YtkkdpknjohcekaaGreatCFNoShorterSolution01
namespace Go.Proofs.YtkkdpknjohcekaaGreat
open Go.RowKit
def Ie:Nat->St->List AC->Option (List AC×St)
 |0,st,cs=>if cs.all (·.settled) then some (cs,st) else none
 |n+1,st,cs=>
  match cs.find? (λc=>!c.settled) with
  |none=>some (cs,st)
  |some (.own l _ _)=>match st.at l with
   |some (.arr fr _ e _ xs)=>Ie n (st.freeze l fr e xs) (cs.map (Cx l fr e xs))
   |some (.He e _ xs)=>Ie n (st.freeze l false e xs) (cs.map (Cx l false e xs))
   |_=>none
  |some (.Lc l)=>match st.at l with
   |some (.Vy v m)=>Ie n (st.Jj l v m) (cs.map (Hl l v m))
   |_=>none
  |some _=>none
def settle (st:St):AV->Option (AV×St)
 | .at (.own l off len)=>match st.at l with
  |some (.arr fr _ e _ xs)=>some (.at (.data fr (.slice e) ((xs.drop off).take len)),st.freeze l fr e xs)
  |some (.He e _ xs)=>some (.at (.data false (.slice e) ((xs.drop off).take len)),st.freeze l false e xs)
  |_=>none
 | .at (.Lc l)=>match st.at l with
  |some (.Vy v m)=>some (.at (.data false (.smap v) m),st.Jj l v m)
  |_=>none
 | .at a=>if a.settled then some (.at a,st) else none
 | .agg cs=>(Ie cs.length st cs).map λp=>(.agg p.1,p.2)
 | .bF fr τ x=>some (.bF fr τ x,st)
 | .Ng _=>none
def AC.refs:AC->List Nat
 | .own l _ _| .Hu l _| .Kw l _| .Lc l| .sub l _ _| .Kq l _ _=> [l]
 | .clo _ Ee=>Ee.map (·.1)
 |_=> []
def az:List Nat->Bool
 | []=>true
 |a::r=>!r.contains a&&az r
def Ty.tree:Ty->Bool
 | .int _| .bool| .str| .unit=>true
 | .slice e=>e.tree
 | .pair a r=>a.tree&&r.tree
 |_=>false
def Sv (st:St):AC->Bool
 | .data _ τ _=>τ.flat
 | .Mp=>true
 | .own l _ _=>match st.at l with
  |some (.arr _ tr e _ _)=>tr||e.flat
  |some (.He _ _ _)=>true
  |_=>false
 |_=>false
def Ts (st:St):AV->Bool
 | .at a=>Sv st a
 | .agg cs=>cs.all (Sv st)&&az (cs.flatMap AC.refs)
 |_=>false
def Bl:Nat:=1000000000
variable (T:Tab)
def OZ (t:TypeId) (τ:Ty) (i:Nat):Option TypeId:=
 if τ.Aq then (List.range 24).findSome? λf=>match T.off t f with
  |some (o,u)=>if o=i then some u else none
  |none=>none
 else some t
def Tab.PM (te:TypeId):Option Ty:=if T.Afg.contains te then (match T.ty te with
 |some (.slice e)=>some e
 |_=>none) else none
def ef (te:TypeId) (e:Ty):OB:=match T.PM te with
 |some e'=> .Bo e' te [] none none
 |none=> .arr (T.vu||e.flat) T.CB e te []
def Vb (b:OB) (key l i:Nat) (st:St):St:=
 match st.at l with
 |some (.var _ vs)=>match vs[i]? with
  |some .Mp=>
   let s1:=st.new key b
   match s1.at l with
   |some (.var tid vs')=>s1.Kp l (.var tid (Td vs' i (.own key 0 0)))
   |_=>s1
  |_=>st
 |_=>st
def fZ (l:Nat) (t:TypeId) (τ:Ty):Nat->Nat->St->St
 |0,_,st=>st
 |n+1,i,st=>
  fZ l t τ n (i+1) (match ((OZ T t τ i).bind T.elem).bind λte=>(T.ty te).map λe=>(te,e) with
   |some (te,e)=>Vb (ef T te e) (100000+l*100+i) l i st
   |none=>st)
def eK (l off:Nat) (t:TypeId) (τ:Ty):Nat->Nat->St->St
 |0,_,st=>st
 |n+1,i,st=>
  eK l off t τ n (i+1) (match ((OZ T t τ i).bind T.elem).bind λte=>(T.ty te).map λe=>(te,e) with
   |some (te,e)=>Vb (ef T te e) (100000+l*100+(off+i)) l (off+i) st
   |none=>st)
def zeroCells:(τ:Ty)->List AC
 | .unit=> []
 | .pair a r=>zeroCells a++zeroCells r
 | .slice _=> [.Mp]
 | .oslice _=> [.Mp]
 | .ptr _=> [.Vx]
 | .optr _=> [.Vx]
 | .clo _ _=> [.undef]
 |τ=> [.data true τ τ.zero]
def cellsOf (τ:Ty):AV->Option (List AC)
 | .agg cs=>if τ.Aq&&cs.length==τ.size then some cs else none
 | .at (.data fr Ox x)=>if Ox=τ then some (Sz fr Ox x) else none
 | .at .undef=>none
 | .at .skip=>none
 | .at a=>if τ.Aq then none else some [a]
 |_=>none
def mkVar (st:St) (l:Nat) (t:TypeId) (τ:Ty) (cs:List AC):Option (AV×St):=
 if Bl<=100000+l*100+cs.length then none else
 let s:=fZ T l t τ cs.length 0 (st.new l (.var t (cs.map (Ck l))))
 match s.at l with
 |some (.var _ _)=>some (.at (.Hu l 0),s)
 |_=>none
def Qs:(τ:Ty)->List AC
 | .unit=> []
 | .pair a r=>Qs a++Qs r
 | .slice e=> [.data false (.slice e) []]
 | .oslice _=> [.Mp]
 | .ptr _=> [.Vx]
 | .optr _=> [.Vx]
 | .clo _ _=> [.undef]
 |τ=> [.data false τ τ.zero]
def We:Nat:=1300000000
def gq:Nat:=1400000000
def tX (st:St) (l:Nat) (t:TypeId) (cs:List AC):Option (AV×St):=
 if Bl<=100000+l*100+cs.length then none else some (.at (.Hu l 0),st.new l (.var t (cs.map (Ck l))))
def Dv {α:Type} (xs:List α) (i:Nat) (ys:List α):List α:=xs.take i++ys++xs.drop (i+ys.length)
def XN (st:St) (τ:Ty) (l:Nat) (v:AV):AV:=match T.marks.contains (We+l)&&v.settled with
 |true=>match Fv st τ v with
  |some p=> .at (.data false τ p.2)
  |none=>v
 |false=>v
def Vg (st:St) (t:TypeId) (p v:AV):Option St:=
 match T.ty t,p with
 |some τ, .at (.Hu l i)=>match st.at l,cellsOf τ (XN T st τ l v) with
  |some (.var tid vs),some cs=>if i+cs.length<=vs.length then some (if τ.Aq&&Nat.blt (100000+l*100+(i+cs.length)) Bl then eK T l i t τ cs.length 0 (st.Kp l (.var tid (Dv vs i cs))) else st.Kp l (.var tid (Dv vs i cs))) else none
  |_,_=>none
 |some τ, .at (.Kw l j)=>match settle st v with
  |some (v',st')=>match st'.at l,Fv st' τ v' with
   |some (.arr fr tr e tid xs),some (Wh,x)=>if h:τ=e then (if j<xs.length then some (st'.Kp l (.arr (fr&&Wh) (tr&&(Ts st v&&e.tree)) e tid (xs.set j (h▸x)))) else none) else none
   |_,_=>none
  |none=>none
 |_,_=>none
def Dk:Nat:=4294967296
def Om (st:St) (dst:Nat) (t:TypeId) (x y:Operand):Option (AV×St):=
 match T.elem t with
 |none=>none
 |some te=>match T.ty te,settle st (st.ev y) with
  |some e,some (y',st')=>match Fv st' (.slice e) y' with
   |none=>none
   |some (rY,ys)=>
    let tr2:=e.flat||(Ts st (st.ev y)&&e.tree)
    match st'.ev x with
    | .at .Mp=>if ys.length<=Dk/\dst<Bl then some (.at (.own dst 0 (0+ys.length)),(st'.new dst (.arr (T.vu||e.flat) T.CB e te [])).new dst (.arr ((T.vu||e.flat)&&(rY||e.flat)) (T.CB&&tr2) e te (((([]:List e.den).drop 0).take 0)++ys))) else none
    | .at (.own l off len)=>match st'.at l with
     |some (.arr fr tr e' tid xs)=>if h:e'=e/\tid=te then
       (if len+ys.length<=Dk/\l<Bl then
        some (.at (.own l 0 (len+ys.length)),st'.new l (.arr (fr&&(rY||e.flat)) (tr&&tr2) e te ((((h.1▸xs:List e.den).drop off).take len)++ys))) else none)
      else none
     |_=>none
    |_=>none
  |_,_=>none
def Qt (st:St) (l i m:Nat) (e:Ty) (te tid:TypeId) (rows:List (List e.den)) (kp:Option (Nat×Nat)):St:=
 (st.Kp l (.Bo e te rows (some i) kp)).new m (.arr false false e tid (rows.getD i []))
def Sd (st:St) (dst:Nat) (t:TypeId) (x y:Operand):Option (AV×St):=
 match x with
 | .tmp tx=>match st.get tx with
  | .at (.sub l i _)=>match st.at l,T.elem t with
   |some (.Bo e te rows none kp),some tid=>if (Nat.blt l Bl&&(Nat.blt dst Bl&&!Nat.beq dst l))=true then Om T ((Qt st l i dst e te tid rows kp).put (some tx) (.at (.own dst 0 (rows.getD i []).length))) dst t x y else none
   |_,_=>none
  |_=>Om T st dst t x y
 |_=>Om T st dst t x y
def mV:Ty->Bool
 | .int _| .bool| .str| .slice _| .oslice _=>true
 |_=>false
def gH:Ty->Bool
 | .unit=>true
 | .pair a r=>gH a&&gH r
 |e=>mV e
def bR (st:St) (dst:Nat) (t:TypeId) (l c:AV):Option (AV×St):=
 match T.elem t,l,c with
 |some te, .at (.data _ (.int _) n), .at (.data _ (.int _) m)=>match T.ty te with
  |some e=>if inb n (Dk+1)=true/\n=m/\gH e=true/\dst<Bl then some (.at (.own dst 0 n.toNat),st.new dst (.arr (T.vu||e.flat) (T.CB&&e.tree) e te (List.replicate n.toNat e.zero))) else none
  |none=>none
 |_,_,_=>none
def Ly (e:Ty):Nat->List (Nat×Operand)->St->Option (Bool×Bool×List e.den×St)
 |_,[],st=>some (true,true,[],st)
 |i,(j,x)::r,st=>
  if i=j then match settle st (st.ev x) with
   |some (v,st')=>match Fv st' e v with
    |some (fr,y)=>match Ly e (i+1) r st' with
     |some (Wh,tr',ys,Att)=>some (fr&&Wh,Ts st (st.ev x)&&e.tree&&tr',y::ys,Att)
     |none=>none
    |none=>none
   |none=>none
  else none
def Na (st:St) (dst:Nat) (t:TypeId) (len:Nat) (parts:Array (Nat×Operand)):Option (AV×St):=
 match T.elem t with
 |none=>none
 |some te=>match T.ty te with
  |none=>none
  |some e=>if parts.size=len/\len<=64/\e.size<=64/\dst<Bl then (match Ly e 0 parts.toList st with
   |some (fr,tr,ys,st')=>some (.at (.own dst 0 len),st'.new dst (.arr ((T.vu||e.flat)&&fr) (T.CB&&tr) e te ys))
   |none=>none) else none
def Vf (st:St) (dst:Nat) (t:TypeId):Option (AV×St):=
 match T.mapOf t with
 |some v=>if dst<Bl then some (.at (.Lc dst),st.new dst (.Vy v λ_=>none)) else none
 |none=>none
def jZ {α:Type} (m:ByteArray->Option α) (k:ByteArray) (x:α):ByteArray->Option α:= λs=>if s=k then some x else m s
def Jw (st:St) (t:TypeId) (m k x:AV):Option St:=
 match T.mapOf t,m,k with
 |some v, .at (.Lc l), .at (.data _ .str s)=>match st.at l,Fv st v x with
  |some (.Vy v' f),some (_,y)=>if h:v'=v/\v.flat=true/\v.Aq=false then some (st.Kp l (.Vy v (jZ (h.1▸f:ByteArray->Option v.den) s y))) else none
  |_,_=>none
 |_,_,_=>none
def j6 (st:St) (t t':TypeId) (x y:AV):Option (AV×St):=
 match x,(T.elem t).bind T.ty with
 | .at (.own l off len),some e=>if T.elem t=T.elem t'/\e.flat=true/\e.size=1 then match st.at l,Fv st (.slice e) y with
  |some (.arr fr _ e' tid xs),some (_,ys)=>if h:e'=e/\T.elem t=some tid then
    some (.at (.data true (.int .i64) (min len ys.length:Nat)),st.Kp l (.arr fr false e tid (Dv (h.1▸xs:List e.den) off (ys.take len))))
   else none
  |_,_=>none
  else none
 |_,_=>none
def evalClear (st:St) (t:TypeId) (x:AV):Option St:=
 match x,(T.elem t).bind T.ty with
 | .at (.own l off len),some e=>if e.flat=true/\mV e=true then match st.at l with
  |some (.arr fr _ e' tid xs)=>if h:e'=e/\T.elem t=some tid then
    some (st.Kp l (.arr fr false e tid (Dv (h.1▸xs:List e.den) off (List.replicate len e.zero))))
   else none
  |_=>none
  else none
 |_,_=>none
def Mz (st:St) (t:TypeId):List (Nat×Operand)->List AC->Option (List AC)
 | [],cs=>some cs
 |(i,x)::r,cs=>
  match T.off t i with
  |some (o,u)=>match T.ty u with
   |some ρ=>match cellsOf ρ (st.ev x) with
    |some c=>if o+c.length<=cs.length then Mz st t r (Dv cs o c) else none
    |none=>none
   |none=>none
  |none=>none
def Yc (st:St) (t:TypeId) (parts:Array (Nat×Operand)):Option AV:=
 match T.ty t with
 |none=>none
 |some τ=>if τ.Aq then (Mz T st t parts.toList (zeroCells τ)).map .agg else none
def Dx (io:Bool) (k:Nat):Nat:=if io then 1000000000+k else 500000+k
def Kx (k:Nat):Nat:=600000+k
def ZZ (dst:Nat) (k:Nat):Nat:=1000000*(dst+1)+k
def Tl:List (Option Nat)->List AC->List AV
 |none::s,a::as=> .at a::Tl s as
 |some n::s,as=> .agg (as.take n)::Tl s (as.drop n)
 |_,_=> []
def Ln:List (Option Nat)->List Value->List Value
 |none::s,u::us=>u::Ln s us
 |some n::s,us=> .agg (us.take n).toArray::Ln s (us.drop n)
 |_,_=> []
def ungroup:List (Option Nat)->List AV->Option (List AC)
 | [],[]=>some []
 |none::s, .at a::as=>(ungroup s as).map λr=>a::r
 |some n::s, .agg cs::as=>if cs.length=n then (ungroup s as).map λr=>cs++r else none
 |some n::s, .at (.data fr τ x)::as=>if τ.Aq=true/\(Sz fr τ x).length=n then (ungroup s as).map λr=>Sz fr τ x++r else none
 |_,_=>none
def kP (l:Nat):(c:CK)->c.den->Option OB
 | .Ec _,_=>none
 | .row e te,xs=>some (.arr false false e te xs)
 | .Ij e te,xs=>some (.He e te xs)
 | .part e te,x=>some (.arr false false e te x.1)
 | .Bo e te kp,xs=>some (.Bo e te xs none (if kp then some (l,List.length xs) else none))
def Aqm (l:Nat):(c:CK)->c.den->AC
 | .Ec τ,x=> .data τ.flat τ x
 | .row _ _,xs=> .own l 0 (List.length xs)
 | .Ij _ _,xs=> .own l 0 (List.length xs)
 | .part _ _,x=> .own l x.2.1 x.2.2
 | .Bo _ _ _,xs=> .own l 0 (List.length xs)
def iW {α:Type} (l:Nat):Option α->List (Nat×α)->List (Nat×α)
 |none,r=>r
 |some b,r=>(l,b)::r
def Zy:(k:Nat)->(cs:List (Bool×CK))->Ins.den cs->List (Nat×OB)
 |_,[],_=> []
 |k,p::r,x=>iW (Dx p.1 k) (kP (Dx p.1 k) p.2 x.1) (Zy (k+1) r x.2)
def c5:(k:Nat)->(cs:List (Bool×CK))->Ins.den cs->List AC
 |_,[],_=> []
 |k,p::r,x=>Aqm (Dx p.1 k) p.2 x.1::c5 (k+1) r x.2
inductive Loc where
 |row (l:Nat)
 |sub (l i c:Nat)
 |view (l:Nat)
 deriving DecidableEq
def Loc.Xj:Loc->Nat
 | .row l=>l
 | .sub l _ _=>l
 | .view l=>l
def Loc.reads:Loc->Bool
 | .view _=>true
 |_=>false
def cw (st:St) (ls:List Nat):Bool:=ls.all λl=>match st.at l with|some (.var _ vs)=>vs.all (·.settled)|_=>false
def views (k:Nat) (ls:List Nat):List (Nat×Loc):=ls.map λl=>(Dx false k, .view l)
def Ms (st:St) (io:Bool) (k:Nat):(c:CK)->AC->Option (c.den×List (Nat×Loc))
 | .Ec τ, .own l off len=>(Dr st τ (.own l off len)).map λp=>(p.2,[(Dx false k, .view l)])
 | .Ec τ, .clo g Ee=>if cw st (Ee.map (·.1))&&!τ.Aq then (Kn st τ (.clo g Ee)).map λp=>(p.2,views k (Ee.map (·.1))) else none
 | .Ec τ, .Hu l i=>if cw st [l]&&!τ.Aq then (Kn st τ (.Hu l i)).map λp=>(p.2,views k [l]) else none
 | .Ec τ, .sub l i c=>(Dr st τ (.sub l i c)).map λp=>(p.2,[(Dx false k, .view l)])
 | .Ec τ,a=>if τ.flat||a.settled then (Dr st τ a).map λp=>(p.2,[]) else none
 | .row e te, .own l off len=>match st.at l with
  |some (.arr _ _ e' Rv xs)=>if h:e'=e/\Rv=te/\off=0/\len=xs.length then some ((h.1▸xs:List e.den),[(Dx io k, .row l)]) else none
  |_=>none
 | .row e _, .sub l i c=>match st.at l with
  |some (.He e' _ xs)=>if h:e'= .slice e/\e.flat=true/\io=true/\c=0 then xs[i]?.map λy=>((h.1▸y:(Ty.slice e).den),[(Dx io k, .sub l i c)]) else none
  |_=>none
 | .row _ _, .Mp=>some ([],[])
 | .Ij e te, .own l off len=>match st.at l with
  |some (.He e' Rv xs)=>if h:e'=e/\Rv=te/\off=0/\len=xs.length then some ((h.1▸xs:List e.den),[(Dx io k, .row l)]) else none
  |_=>none
 | .Ij e _, .sub l i c=>match st.at l with
  |some (.He e' _ xs)=>if h:e'= .slice e/\io=true/\c=0 then xs[i]?.map λy=>((h.1▸y:(Ty.slice e).den),[(Dx io k, .sub l i c)]) else none
  |_=>none
 | .Ij _ _, .Mp=>some ([],[])
 | .part e te, .own l off len=>match st.at l with
  |some (.arr _ _ e' Rv xs)=>if h:e'=e/\Rv=te/\e.flat=true/\io=true then some (((h.1▸xs:List e.den),off,len),[(Dx io k, .row l)]) else none
  |_=>none
 | .Bo e te _, .own l off len=>match st.at l with
  |some (.Bo e' Rv rows none _)=>if h:e'=e/\Rv=te/\off=0/\len=rows.length/\io=false then some ((h.1▸rows:List (List e.den)),[(Dx io k, .row l)]) else none
  |_=>none
 |_,_=>none
def gD (st:St):(k:Nat)->(cs:List (Bool×CK))->List AC->Option (Ins.den cs×List (Nat×Loc))
 |_,[],[]=>some ((),[])
 |k,p::r,a::as=>match Ms st p.1 k p.2 a,gD st (k+1) r as with
  |some (x,t1),some (y,t2)=>some ((x,y),t1++t2)
  |_,_=>none
 |_,_,_=>none
def cE (st:St):(c:CK)->c.den->AC->Option St
 | .row e _,ys, .own l _ len=>match st.at l with
  |some (.arr fr tr e' te xs)=>if h:e=e'/\List.length ys=len/\xs.length=len then some (st.Kp l (.arr (fr&&e'.flat) (tr&&e'.flat) e' te (h.1▸ys))) else none
  |_=>none
 | .Ij e _,ys, .own l _ len=>match st.at l with
  |some (.He e' te xs)=>if h:e=e'/\List.length ys=len/\xs.length=len then some (st.Kp l (.He e' te (h.1▸ys))) else none
  |_=>none
 | .row e _,ys, .sub l i _=>match st.at l with
  |some (.He e' te xs)=>if h: .slice e=e' then (match xs[i]? with
   |some y=>if List.length ys=List.length (h▸y:(Ty.slice e).den) then some (st.Kp l (.He e' te (xs.set i (h▸(ys:(Ty.slice e).den))))) else none
   |none=>none) else none
  |_=>none
 | .Ij e _,ys, .sub l i _=>match st.at l with
  |some (.He e' te xs)=>if h: .slice e=e' then (match xs[i]? with
   |some y=>if List.length ys=List.length (h▸y:(Ty.slice e).den) then some (st.Kp l (.He e' te (xs.set i (h▸(ys:(Ty.slice e).den))))) else none
   |none=>none) else none
  |_=>none
 |_,_, .Mp=>some st
 |_,_,_=>none
def MN (st:St) (e:Ty) (ys:List e.den):AC->Option St
 | .own l _ _=>match st.at l with
  |some (.arr fr tr e' te xs)=>if h:e=e'/\List.length ys=xs.length then some (st.Kp l (.arr fr tr e' te (h.1▸ys))) else none
  |_=>none
 |_=>none
def It:(cs:List (Bool×CK))->IOs.den cs->List AC->St->Option St
 | [],_,_,st=>some st
 |(true, .Ec _)::r,x,_::as,st=>It r x as st
 |(true, .row e te)::r,x,a::as,st=>match cE st (.row e te) x.1 a with
  |some st'=>It r x.2 as st'
  |none=>none
 |(true, .Ij e te)::r,x,a::as,st=>match cE st (.Ij e te) x.1 a with
  |some st'=>It r x.2 as st'
  |none=>none
 |(true, .part e _)::r,x,a::as,st=>match MN st e x.1 a with
  |some st'=>It r x.2 as st'
  |none=>none
 |(true, .Bo _ _ _)::r,x,_::as,st=>It r x as st
 |(false,_)::r,x,_::as,st=>It r x as st
 |_,_,_,_=>none
def Cl (dead part:List Nat) (c:AC):AC:=if c.refs.any (λl=>dead.contains l) then .undef else match c with
 | .sub l i c=>if part.contains l then .undef else .sub l i c
 | .Kq l i c=>if part.contains l then .undef else .Kq l i c
 |c=>c
def Ya:List (Nat×OB)->List Nat->List (Nat×OB)
 | [],_=> []
 |(k,b)::r,dead=>if dead.contains k then Ya r dead else (k,b)::Ya r dead
def St.cO (st:St) (dead part:List Nat):St:=let s:=st.Lp (Cl dead part); {s with heap:=Ya s.heap dead}
def Ua (st:St) (l j m:Nat) (e:Ty) (te:TypeId) (rows:List (List e.den)) (xs:List e.den) (kp:Option (Nat×Nat)):St:=
 (st.cO [m] [l]).Kp l (.Bo e te (rows.set j xs) none kp)
def c8 (j:Nat):Option (Nat×Nat)->Option (Nat×Nat)
 |none=>none
 |some p=>some (p.1,min p.2 j)
def bT (st:St) (t:TypeId) (p v:AV):Option St:=
 match T.ty t,p with
 |some τ, .at (.Kq l i j)=>match settle st v with
  |some (v',st')=>match st'.at l,Fv st' τ v' with
   |some (.Bo e te rows none kp),some (_,x)=>if h:τ=e then some (st'.Kp l (.Bo e te (rows.set i ((rows.getD i []).set j (h▸x))) none kp)) else none
   |_,_=>none
  |none=>none
 |some τ, .at (.Kw l j)=>match st.at l,v with
  |some (.Bo e te rows out kp), .at (.own m off len)=>match st.at m with
   |some (.arr _ _ e' _ xs)=>if h:e'=e/\(Nat.blt l Bl&&(!Nat.beq m l&&!τ.Aq))=true/\off=0/\len=xs.length/\(out=none\/out=some j) then some (Ua st l j m e te rows (h.1▸xs) (c8 j kp)) else none
   |_=>none
  |_,_=>none
 |_,_=>none
def PN (st:St):AV->Bool
 | .at (.Kq _ _ _)=>true
 | .at (.Kw l _)=>match st.at l with
  |some (.Bo _ _ _ _ _)=>true
  |_=>false
 |_=>false
def Qh (st:St) (t:TypeId) (p v:AV):Option St:=match PN st p with
 |true=>bT T st t p v
 |false=>Vg T st t p v
def Rq (st:St) (k m:Nat) (b:OB):St:=let s:=st.cO [m,k] []; {s with heap:=Oz s.heap k b}
def eu (t:TypeId):Option (TypeId×Ty):=(T.elem t).bind λte=>(T.PM te).map λe=>(te,e)
def Yf (st:St) (dst:Nat) (t:TypeId) (l c:AV):Option (AV×St):=
 match eu T t with
 |none=>bR T st dst t l c
 |some (te,e)=>match l,c with
  | .at (.data _ (.int _) n), .at (.data _ (.int _) m)=>if inb n (Dk+1)=true/\n=m/\dst<Bl then some (.at (.own dst 0 n.toNat),Rq st dst dst (.Bo e te (List.replicate n.toNat []) none none)) else none
  |_,_=>none
def Js (st:St) (dst:Nat) (t:TypeId) (len:Nat) (parts:Array (Nat×Operand)):Option (AV×St):=
 match eu T t with
 |none=>Na T st dst t len parts
 |some (te,e)=>match parts.toList with
  | [(0,x)]=>match st.ev x with
   | .at (.own m off ln)=>match st.at m with
    |some (.arr _ _ e' _ xs)=>if h:e'=e/\(Nat.beq len 1&&(Nat.blt dst Bl&&Nat.blt m Bl))=true/\off=0/\ln=xs.length then some (.at (.own dst 0 1),Rq st dst m (.Bo e te [h.1▸xs] none none)) else none
    |_=>none
   |_=>none
  |_=>none
def Se (st:St) (dst:Nat) (t:TypeId) (x y:Operand):Option (AV×St):=
 match eu T t with
 |none=>Sd T st dst t x y
 |some (te,e)=>match st.ev x,st.ev y with
  | .at (.own l off len), .at (.own m Aa1 tQ)=>match st.at l,st.at m with
   |some (.Bo e1 te1 A none _),some (.Bo e2 wJ B none _)=>
    if h:(e1=e/\e2=e)/\(decide (te1=te)&&decide (wJ=te)&&(Nat.blt l Bl&&(Nat.blt m Bl&&!Nat.beq m l)))=true/\(off=0/\len=A.length)/\(Aa1=0/\tQ=B.length)/\0<B.length/\A.length+B.length<=Dk then
     some (.at (.own l 0 (A.length+B.length)),Rq st l m (.Bo e te ((h.1.1▸A:List (List e.den))++(h.1.2▸B:List (List e.den))) none none))
    else none
   |_,_=>none
  |_,_=>none
def vZ (fr:Bool):(c:CK)->c.den->Option OB
 | .Ec _,_=>none
 | .row e te,xs=>some (.arr (fr&&e.flat) false e te xs)
 | .Ij e te,xs=>some (.He e te xs)
 | .part e te,x=>some (.arr (fr&&e.flat) false e te x.1)
 | .Bo e te _,xs=>some (.Bo e te xs none none)
def ES (H:List (Nat×OB)) (l:Nat):Option OB->List (Nat×OB)
 |some b=>Oz H l b
 |none=>H
def Yp (fr:Bool) (key:Nat->Nat):(k:Nat)->(cs:List CK)->CKs.den cs->List (Nat×OB)->List (Nat×OB)
 |_,[],_,H=>H
 |k,c::r,x,H=>Yp fr key (k+1) r x.2 (ES H (key k) (vZ fr c x.1))
def cd (key:Nat->Nat):(k:Nat)->(cs:List CK)->CKs.den cs->List AC
 |_,[],_=> []
 |k,c::r,x=>(match c,x.1 with
  | .Ec τ,y=> .data τ.flat τ y
  | .row _ _,xs=> .own (key k) 0 (List.length xs)
  | .Ij _ _,xs=> .own (key k) 0 (List.length xs)
  | .Bo _ _ _,xs=> .own (key k) 0 (List.length xs)
  | .part _ _,_=> .undef)::cd key (k+1) r x.2
def aA:List (Option Nat)->List AC->List (Bool×List AC)
 |none::s,a::as=>(false,[a])::aA s as
 |some n::s,as=>(true,as.take n)::aA s (as.drop n)
 |_,_=> []
def Aoa (Ht:Bool) (sh:List (Option Nat)) (as:List AC):Option AV:=
 if Ht then some (.Ng (aA sh as)) else match Tl sh as with
  | [v]=>some v
  | []=>some .undef
  |_=>none
def nt (tks:List (Nat×Loc)):List Nat:=(tks.filter λt=>Nat.blt t.1 Bl&&!t.2.reads).map λt=>t.2.Xj
def whole (tks:List (Nat×Loc)):List Nat:=tks.flatMap λt=>match t.2 with| .row l=> [l]|_=> []
def BP (tks:List (Nat×Loc)):List Nat:=(tks.filter λt=>t.2.reads).map λt=>t.2.Xj
def FC (ins:List (Bool×CK)) (te:TypeId) (used:List Nat):List (Nat×Loc)->Option Nat
 | []=>none
 |(k, .row l)::r=>if Nat.blt k Bl&&(!used.contains l&&(match ins[k-500000]? with
   |some (false, .row _ Rv)=>decide (Rv=te)
   |some (false, .Ij _ Rv)=>decide (Rv=te)
   |some (false, .Bo _ Rv _)=>decide (Rv=te)
   |_=>false)) then some l else FC ins te used r
 |_::r=>FC ins te used r
def LD (ins:List (Bool×CK)) (tks:List (Nat×Loc)) (d:Nat):(k:Nat)->(used:List Nat)->List CK->List Nat
 |_,_,[]=> []
 |k,used,c::r=>match (match c with
   | .row _ te=>FC ins te used tks
   | .Ij _ te=>FC ins te used tks
   | .Bo _ te _=>FC ins te used tks
   |_=>none) with
  |some l=>l::LD ins tks d (k+1) (l::used) r
  |none=>ZZ d k::LD ins tks d (k+1) used r
def nk (s:MSpec) (tks:List (Nat×Loc)) (d:Nat):List Nat:=LD s.ins tks d 0 [] s.outs
def Eb (ks:List Nat) (j:Nat):Nat:=match ks[j]? with
 |some l=>l
 |none=>Bl+j
def zl (ks:List Nat) (n:Nat):Bool:=Nat.beq ks.length n&&(az ks&&ks.all λl=>Nat.blt l Bl)
def PH (st:St) (l:List Nat):Bool:=l.all λk=>match st.at k with|some (.arr fr _ _ _ _)=>fr|_=>false
def QU (st:St) (s:MSpec) (args:List AV):Option (List Nat×List AC×List AV):=
 match s.ptr with
 |none=>some ([],[],args)
 |some p=>match args with
  | .at (.Hu l i)::rest=>match st.at l with
   |some (.var tid vs)=>if tid=p.1/\vs.length=p.2/\i=0 then some ([l],vs,rest) else none
   |_=>none
  |_=>none
def Wn:List (Bool×CK)->List AC->Bool
 |(true, .row _ _)::r, .own _ _ _::as=>Wn r as
 |(true, .Ij _ _)::r, .own _ _ _::as=>Wn r as
 |(true,_)::_,_::_=>false
 |(false,_)::r,_::as=>Wn r as
 |_,as=>as.isEmpty
def hJ {α:Type} :List (Bool×CK)->List α->List α->List α
 |(true,_)::r,v::vs,as=>v::hJ r vs as
 |(false,_)::r,_::vs,a::as=>a::hJ r vs as
 |_,vs,_=>vs
def uv:List (Bool×CK)->Nat->Nat
 |(true,_)::r,n+1=>uv r n
 |(false,_)::r,n+1=>uv r n+1
 |_,_=>0
def MSpec.aM (s:MSpec):Nat:=match s.ptr with|none=>0|some p=>uv s.ins p.2
def rD (ins:List (Bool×CK)) (as:List AC) (pl:List Nat) (st:St):St:=
 match pl with
 | []=>st
 |l::_=>match st.at l with
  |some (.var tid vs)=>st.Kp l (.var tid (hJ ins vs as))
  |_=>st
def Tt (d:Nat):Nat:=ZZ d 999
def mM (s:MSpec) (d:Nat):List Nat:=match s.rp with|none=> []|some _=> [Tt d]
def Sy (s:MSpec) (tks:List (Nat×Loc)) (d:Nat):List Nat:=nk s tks d++mM s d
def nR (H:List (Nat×OB)) (l:Nat):Bool:=match Aw H l with
 |some (.Bo _ _ _ _ _)=>true
 |_=>false
def c7 (H:List (Nat×OB)) (ks:List Nat) (tks:List (Nat×Loc)):List (Nat×Nat)->List Nat
 | []=> []
 |(k,j)::r=>match tks.find? (λt=>Nat.beq t.1 (Dx false k)),ks[j]? with
  |some (_, .row l),some l'=>if Nat.beq l' l&&nR H l then l::c7 H ks tks r else c7 H ks tks r
  |_,_=>c7 H ks tks r
def s5 (H:List (Nat×OB)) (l:Nat):Nat:=match Aw H l with
 |some (.Bo _ _ rows _ _)=>rows.length
 |_=>0
def dP (H:List (Nat×OB)) (ls:List Nat) (n:Nat):List AV->Bool
 | []=>true
 | .at (.sub l i _)::r=>(!ls.contains l||(Nat.blt i n&&Nat.blt i (s5 H l)))&&dP H ls n r
 |_::r=>dP H ls n r
def Mg (ls:List Nat):List AV->List AV->List AV
 | .at (.sub l i c)::r,v::vs=>(if ls.contains l then .at (.sub l i c) else v)::Mg ls r vs
 |_::r,v::vs=>v::Mg ls r vs
 |_,vs=>vs
def Ais:Option OB->Option (Nat×Nat)
 |some (.Bo _ _ _ _ kp)=>kp
 |_=>none
def OB.HG (b:OB) (kp:Option (Nat×Nat)):OB:=match b with
 | .Bo e te rows out _=> .Bo e te rows out kp
 |b=>b
def dA (H0:List (Nat×OB)) (ls:List Nat) (n:Nat):List (Nat×OB)->List (Nat×OB)
 | []=> []
 |(l,b)::r=>(l,if ls.contains l then b.HG (c8 n (Ais (Aw H0 l))) else b)::dA H0 ls n r
def mz (cA st:St) (ls:List Nat) (n:Nat):St:=match ls with
 | []=>st
 |_=> {tmps:=Mg ls cA.tmps st.tmps,heap:=dA cA.heap ls n st.heap}
def Aem (s:MSpec) (d:Nat) (as:List AC):Option AV:=match s.rp with
 |none=>Aoa s.Ht s.Hp as
 |some _=>some (.at (.Hu (Tt d) 0))
def m7 (st st1:St) (d:Nat) (s:MSpec) (pl:List Nat) (tks:List (Nat×Loc)) (r:CKs.den s.outs):St:=
 let ks:=Sy s tks d
 let key:=Eb ks
 let st2:=rD s.ins (cd key 0 s.outs r) pl (st1.cO (nt tks++ks++(if s.flat then [] else BP tks)) (whole tks))
 {st2 with heap:=Yp (PH st (nt tks)) key 0 s.outs r (ES st2.heap (Tt d) (s.rp.map λtid=> .var tid ((cd key 0 s.outs r).drop s.aM)))}
def Yd (st:St) (dst:Option Nat) (s:MSpec) (args:List AV):Option (AV×St):=
 match QU st s args with
 |none=>none
 |some (pl,vs,rest)=>match ungroup s.Jb rest with
 |none=>none
 |some oO=>match gD st 0 s.ins (vs++oO) with
  |none=>none
  |some (x,tks)=>if az (tks.map λt=>t.2.Xj)&&zl (Sy s tks (dst.getD 0)) (s.outs.length+(mM s (dst.getD 0)).length)&&Nat.blt s.outs.length 1000&&Nat.blt s.ins.length 1000&&(Wn s.ins vs&&pl.all λl=>!((tks.map λt=>t.2.Xj)++Sy s tks (dst.getD 0)).contains l) then match s.fn x with
   |none=>none
   |some (r,o)=>match It s.ins o (vs++oO) st with
    |none=>none
    |some st1=>match Aem s (dst.getD 0) ((cd (Eb (Sy s tks (dst.getD 0))) 0 s.outs r).drop s.aM) with
     |none=>none
     |some v=>if dP (m7 st st1 (dst.getD 0) s pl tks r).heap (c7 st.heap (Sy s tks (dst.getD 0)) tks s.keeps) (s.Fp x) st.tmps=true then
       some (v,mz st (m7 st st1 (dst.getD 0) s pl tks r) (c7 st.heap (Sy s tks (dst.getD 0)) tks s.keeps) (s.Fp x)) else none
   else none
def Ny:List Operand->St->Option St
 | [],st=>some st
 |x::r,st=>match settle st (st.ev x) with
  |some (_,st')=>Ny r st'
  |none=>none
def Pc (st:St) (p x:Operand):St:=match st.ev p with
 | .at (.Hu l _)=>match T.marks.contains (gq+l) with
  |true=>match Ny [x] st with
   |some s0=>s0
   |none=>st
  |false=>st
 |_=>st
def fU (s:Spec) (args:List AV):Bool:=!(s.fresh||s.res.flat||args.all (·.settled))
def evalOp (Γ:Env) (st:St) (o:Oper):Option (AV×St):=
 match o.op with
 | .assign x=>match st.ev x,o.dst,(T.elem o.type).bind λte=>(T.ty te).map λe=>(te,e) with
  | .at .Mp,some d,some (te,e)=>if d<Bl then some (.at (.own d 0 0),st.new d (.arr (T.vu||e.flat) T.CB e te [])) else none
  |v,_,_=>some (v,st)
 | .alloc t=>match o.dst,T.ty t with
  |some d,some τ=>match T.marks.contains (We+d) with
   |true=>tX st d t (Qs τ)
   |false=>mkVar T st d t τ (zeroCells τ)
  |_,_=>none
 | .box t x=>match o.dst,T.ty t with
  |some d,some τ=>match cellsOf τ (st.ev x) with
   |some cs=>match T.marks.contains (We+d) with
    |true=>if cs.all (·.settled)=true then (Fb st τ cs).map λp=>(.at (.data false (.optr τ) (some p.2)),st) else none
    |false=>mkVar T st d t τ cs
   |none=>none
  |_,_=>none
 | .store t p x=>(Qh T (Pc T st p x) t ((Pc T st p x).ev p) ((Pc T st p x).ev x)).map λs=>(.undef,s)
 | .makeSlice t l c=>match o.dst with
  |some d=>Yf T st d t (st.ev l) (st.ev c)
  |none=>none
 | .makeMap t none=>match o.dst with
  |some d=>Vf T st d t
  |none=>none
 | .mapUpdate t m k x=>(Jw T st t (st.ev m) (st.ev k) (st.ev x)).map λs=>(.undef,s)
 | .insert t m k x=>(Jw T st t (st.ev m) (st.ev k) (st.ev x)).map λs=>(.undef,s)
 | .buildSlice t len parts=>match o.dst with
  |some d=>Js T st d t len parts
  |none=>none
 | .build t parts=>(Yc T st t parts).map λv=>(v,st)
 | .call {callee:= .builtin .append,args,argTypes} =>match o.dst,args.toList,argTypes.toList with
  |some d,[x,y],[t,t']=>if t=t' then Se T st d t x y else none
  |_,_,_=>none
 | .call {callee:= .builtin .copy,args,argTypes} =>match args.toList,argTypes.toList with
  | [x,y],[t,t']=>j6 T st t t' (st.ev x) (st.ev y)
  |_,_=>none
 | .call {callee:= .builtin .clear,args,argTypes} =>match args.toList,argTypes.toList with
  | [x],[t]=>(evalClear T st t (st.ev x)).map λs=>(.undef,s)
  |_,_=>none
 | .call {callee:= .value (.func f),args, .. } =>match Γ f with
  |some (.m s)=>Yd st o.dst s (args.toList.map st.ev)
  |some (.q s)=>if fU s (args.toList.map st.ev) then (match Ny args.toList st with
   |some st1=>(Fc T Γ st1 o).map λv=>(v,st1)
   |none=>none) else (Fc T Γ st o).map λv=>(v,st)
  |_=>(Fc T Γ st o).map λv=>(v,st)
 |_=>(Fc T Γ st o).map λv=>(v,st)
def fX (e:Ty):Nat->List (Nat×Operand)->St->Option (Bool×List e.den)
 |_,[],_=>some (true,[])
 |i,(j,x)::r,st=>
  if i=j/\(st.ev x).settled=true then match Fv st e (st.ev x),fX e (i+1) r st with
   |some (fr,y),some (Wh,ys)=>some (fr&&Wh,y::ys)
   |_,_=>none
  else none
def bQ (st:St) (t:TypeId) (len:Nat) (parts:Array (Nat×Operand)):Option AV:=
 match T.elem t with
 |none=>none
 |some te=>match T.ty te with
  |none=>none
  |some e=>if parts.size=len/\len<=64/\e.size<=64 then (fX e 0 parts.toList st).map λp=> .at (.data p.1 (.slice e) p.2) else none
def Xn (Γ:Env) (st:St) (o:Oper):Option AV:=
 match o.op with
 | .buildSlice t len parts=>bQ T st t len parts
 | .build t parts=>Yc T st t parts
 |_=>Fc T Γ st o
def ZS (q:Bool) (Γ:Env) (o:Oper):Bool:=
 match o.op with
 | .buildSlice _ _ _| .build _ _=>!q
 | .alloc _| .box _ _| .store _ _ _| .makeSlice _ _ _| .makeMap _ _| .mapUpdate _ _ _ _| .insert _ _ _ _=>true
 | .assign (.const _)=>true
 | .call {callee:= .builtin .append, .. } =>true
 | .call {callee:= .builtin .copy, .. } =>true
 | .call {callee:= .builtin .clear, .. } =>true
 | .call {callee:= .value (.func f), .. } =>match Γ f with
  |some (.m _)=>true
  |_=>false
 |_=>false
def Ey (Γ:Env) (ops:Array Oper) (st:St) (o:Oper):Option St:=
 match o.guard with
 |none=>(evalOp T Γ st o).map λr=>r.2.put o.dst r.1
 |some (j,want)=>match Xx st ((ops[j]?).bind (·.dst)) with
  |some (some b)=>if b==want then (evalOp T Γ st o).map λr=>r.2.put o.dst r.1 else some (st.put o.dst (.at .skip))
  |some none=>some (st.put o.dst (.at .skip))
  |none=>none
def aU (Γ:Env) (ops:Array Oper):List Oper->St->Option St
 | [],st=>some st
 |o::r,st=>match Ey T Γ ops st o with
  |some st'=>aU Γ ops r st'
  |none=>none
def Kb (q:Bool) (Γ:Env) (ops:Array Oper):List Nat:=
 (List.range ops.size).foldl (init:= []) λacc i=>match ops[i]? with
  |some o=>if ZS q Γ o||o.after.any (λe=>Region.binds .any e&&acc.contains e.on) then acc++ [i] else acc
  |none=>acc
def cQ (q:Bool) (Γ:Env) (ops:Array Oper):List Nat:=(List.range ops.size).filter λi=>!(Kb q Γ ops).contains i
def nQ (ops:Array Oper) (hd tl:List Nat) (i:Nat):Bool:=
 match ops[i]? with
 |some o=>(match o.op,o.guard with
  | .move (.tmp _),none=>true
  |_,_=>false)&&!((tl.take 1++hd).any λj=>decide (i<j)&&Region.waitsFor .any ops j i)
 |none=>false
def Wg (q:Bool) (Γ:Env) (ops:Array Oper):List Nat:=(cQ q Γ ops).filter λi=>nQ ops (cQ q Γ ops) (Kb q Γ ops) i
def Wl (q:Bool) (Γ:Env) (ops:Array Oper):List Nat:=(cQ q Γ ops).filter λi=>!nQ ops (cQ q Γ ops) (Kb q Γ ops) i
def kx (q:Bool) (Γ:Env) (ops:Array Oper):List Nat:=Wg q Γ ops++Wl q Γ ops
def ZK (ops:Array Oper) (i:Nat):Bool:=match ops[i]? with
 |some o=>(match o.op,o.guard with
  | .extract _ _,none=>true
  |_,_=>false)
 |none=>false
def oh (ops:Array Oper):List Nat->Array Bool->Bool
 | [],Ah=>(Region.ready .any ops Ah).isEmpty
 |k::r,Ah=>(decide (Region.ready .any ops Ah= [k])||(ZK ops k&&((Region.ready .any ops Ah).contains k&&Region.free .any ops Ah k)))&&oh ops r (Ah.setIfInBounds k true)
def pf (ops:Array Oper) (tl:List Nat):List Nat->Array Bool->Bool
 | [],Ah=>oh ops tl Ah
 |k::r,Ah=>(Region.ready .any ops Ah).contains k&&Region.free .any ops Ah k&&pf ops tl r (Ah.setIfInBounds k true)
def uG (ops:Array Oper) (hd:List Nat):List Nat->Bool
 | []=>true
 |f::r=>(hd.all λi=>(f::hd).any λj=>decide (i<j)&&Region.waitsFor .any ops j i)&&r.all λt=>(f::r).any λk=>Region.waitsFor .any ops t k
def nH (ops:Array Oper) (tl hd:List Nat):List Nat->Array Bool->Bool
 | [],Ah=>pf ops tl hd Ah
 |k::r,Ah=>(Region.ready .any ops Ah).contains k&&Region.free .any ops Ah k&&nH ops tl hd r (Ah.setIfInBounds k true)
def cV (q:Bool) (Γ:Env) (ops:Array Oper):Bool:=
 Region.noSelect ops&&((Wg q Γ ops).length+((Wl q Γ ops).length+(Kb q Γ ops).length)==ops.size)&&nH ops (Kb q Γ ops) (Wl q Γ ops) (Wg q Γ ops) (Array.replicate ops.size false)&&uG ops (Wl q Γ ops) (Kb q Γ ops)
def Xk (Γ:Env) (ops:Array Oper) (st:St) (o:Oper):Option AV:=
 match o.guard with
 |none=>Xn T Γ st o
 |some (j,want)=>match Xx st ((ops[j]?).bind (·.dst)) with
  |some (some b)=>if b==want then Xn T Γ st o else some (.at .skip)
  |some none=>some (.at .skip)
  |none=>none
def Ge (Γ:Env) (ops:Array Oper):List Nat->St->Option St
 | [],st=>some st
 |i::r,st=>match ops[i]? with
  |none=>none
  |some o=>match Xk T Γ ops st o with
   |some v=>Ge Γ ops r (st.put o.dst v)
   |none=>none
def Nj (Γ:Env) (ops:Array Oper):List Nat->St->Option St
 | [],st=>some st
 |i::r,st=>match ops[i]? with
  |none=>none
  |some o=>match Ey T Γ ops st o with
   |some st'=>Nj Γ ops r st'
   |none=>none
def Sh (Γ:Env) (ops:Array Oper) (draw:Bool) (st:St):Option St:=
 if draw then (if cV false Γ ops then (match Ge T Γ ops (kx false Γ ops) st with
  |some st'=>Nj T Γ ops (Kb false Γ ops) st'
  |none=>none) else if cV true Γ ops then (match Ge T Γ ops (kx true Γ ops) st with
  |some st'=>Nj T Γ ops (Kb true Γ ops) st'
  |none=>none) else none)
 else aU T Γ ops ops.toList st
def zf (ops:Array Oper) (i:Nat):Bool:=match ops[i]? with
 |some o=>(match o.op,o.guard with
  | .move (.tmp _),none=>true
  |_,_=>false)
 |none=>false
def kA (ops:Array Oper) (i:Nat):Bool:=match ops[i]? with
 |some o=>(match o.op,o.guard with
  | .move (.tmp _),none=>true
  | .nilCheck _,none=>true
  | .fieldAddr _ _ _,none=>true
  |_,_=>false)
 |none=>false
def Aoi (q:Bool) (ops:Array Oper) (i:Nat):Bool:=match q with
 |true=>kA ops i
 |false=>zf ops i
def Ka (q:Bool) (ops:Array Oper):List Nat->Array Bool->List Nat
 | [],_=> []
 |i::r,Ah=>if Aoi q ops i&&((Region.ready .any ops Ah).contains i&&Region.free .any ops Ah i) then i::Ka q ops r (Ah.setIfInBounds i true) else Ka q ops r Ah
def ZX (q:Bool) (ops:Array Oper):List Nat:=Ka q ops (List.range ops.size) (Array.replicate ops.size false)
def ku (q:Bool) (ops:Array Oper):Bool:=Nat.ble (ops.size-(ZX q ops).length) 8
def Ld (ops:Array Oper):List Nat:=ZX (!ku false ops) ops
def El:List Nat->Array Bool->Array Bool
 | [],Ah=>Ah
 |i::r,Ah=>El r (Ah.setIfInBounds i true)
def anyS (Γ:Env) (ops:Array Oper) (K:St->Prop):Nat->Array Bool->St->Prop
 |0,Ah,st=>Region.ready .any ops Ah= []/\K st
 |f+1,Ah,st=>Region.ready .any ops Ah≠ []/\ ∀i∈Region.ready .any ops Ah,∃o st',ops[i]?=some o/\Ey T Γ ops st o=some st'/\anyS Γ ops K f (Ah.setIfInBounds i true) st'
def kB (ops:Array Oper) (i:Nat):Bool:=match ops[i]? with
 |some o=>(match o.op,o.guard with
  | .move _,none=>true
  | .load _ _,none=>true
  | .indexAddr _ _ _,none=>true
  | .fieldAddr _ _ _,none=>true
  |_,_=>false)
 |none=>false
def kH (ops:Array Oper):List Nat->Array Bool->List Nat
 | [],_=> []
 |i::r,Ah=>if kB ops i&&((Region.ready .any ops Ah).contains i&&Region.free .any ops Ah i) then i::kH ops r (Ah.setIfInBounds i true) else kH ops r Ah
def pW (ops:Array Oper) (i j:Nat) (p:Oper->Oper->Bool):Bool:=match ops[i]?,ops[j]? with
 |some x,some y=>p x y
 |_,_=>false
def oL (ops:Array Oper) (x y:Oper):Bool:=match x.dst with
 |some d=>!(y.looksAt ops).contains d
 |none=>true
def JX (x y:Oper):Bool:=match x.dst with
 |some d=>y.dst !=some d
 |none=>true
def jG (ops:Array Oper):List Nat->Array Bool->Bool
 | [],_=>true
 |r::E,Ah=>(Region.ready .any ops Ah).contains r&&jG ops E (Ah.setIfInBounds r true)
def zM (ops:Array Oper):List Nat->Bool
 | []=>true
 |r::E=>(pW ops r r (oL ops)&&E.all λq=>pW ops r q (λx y=>JX x y&&oL ops y x)&&(Region.waitsFor .any ops q r||pW ops r q (oL ops)))&&zM ops E
def Ad5 (ops:Array Oper) (E:List Nat) (L0:Array Bool):Bool:=E.all λr=>(List.range ops.size).all λj=>E.contains j||L0.getD j false||Region.waitsFor .any ops j r||pW ops r j (λx y=>x.apart ops y)
def cW (ops:Array Oper) (E:List Nat) (L0:Array Bool):Bool:=(E.all (kB ops)&&jG ops E L0)&&(zM ops E&&Ad5 ops E L0)
def sn (ops:Array Oper) (E:List Nat) (Ah:Array Bool) (r:Nat):Bool:=(List.range ops.size).any λj=>!E.contains j&&(Ah.getD j false&&Region.waitsFor .any ops j r)
def Ab1 (Γ:Env) (ops:Array Oper) (E:List Nat) (Ah:Array Bool) (st:St):Prop:=
 ∀r∈E,sn ops E Ah r=true\/ ∃o v,ops[r]?=some o/\Xk T Γ ops st o=some v/\ ∀d,o.dst=some d->st.get d=v
def r8 (Γ:Env) (ops:Array Oper) (E:List Nat) (K:St->Prop):Nat->Array Bool->St->Prop
 |0,Ah,st=>Ab1 T Γ ops E Ah st/\Region.ready .any ops Ah= []/\K st
 |f+1,Ah,st=>Ab1 T Γ ops E Ah st/\Region.ready .any ops Ah≠ []/\ ∀i∈Region.ready .any ops Ah,∃o st',ops[i]?=some o/\Ey T Γ ops st o=some st'/\r8 Γ ops E K f (Ah.setIfInBounds i true) st'
def Ad4 (Γ:Env) (ops:Array Oper) (K:St->Prop) (n:Nat) (L0:Array Bool) (cA:St):Prop:=
 ∃E st1,cW ops E L0=true/\E.length<=n/\Ge T Γ ops E cA=some st1/\r8 T Γ ops E K (n-E.length) (El E L0) st1
def zU (Γ:Env) (draw:Bool):Env:= λf=>match Γ f with
 |some (.b s m)=>some (if draw then .q s else .m m)
 |r=>r
inductive Mb where
 |normal
 |exit (id:Nat)
 |ret
def Ja (live:List Nat):Nat->List AV->List AV
 |_,[]=> []
 |i,v::r=>(if live.contains i then v else .undef)::Ja live (i+1) r
def AV.refs:AV->List Nat
 | .at a=>a.refs
 | .agg cs=>cs.flatMap AC.refs
 | .bF _ _ _=> []
 | .Ng l=>l.flatMap λp=>p.2.flatMap AC.refs
def OB.refs:OB->List Nat
 | .var _ vs=>vs.flatMap AC.refs
 |_=> []
def bo:List Nat->St->St
 | [],st=>st
 |l::r,st=>bo r (st.forget l)
def pE (l k m:Nat):Nat:=if m=l then k else m
def Vo (l k:Nat):AC->AC
 | .own m off len=> .own (pE l k m) off len
 | .Hu m i=> .Hu (pE l k m) i
 | .Kw m i=> .Kw (pE l k m) i
 | .clo f Ee=> .clo f (Ee.map λp=>(pE l k p.1,p.2))
 | .Lc m=> .Lc (pE l k m)
 | .sub m i c=> .sub (pE l k m) i c
 | .Kq m i c=> .Kq (pE l k m) i c
 |a=>a
def St.rename (l k:Nat) (st:St):St:=
 match Aw st.heap k,Aw st.heap l with
 |none,some b=>if (Nat.blt l Bl&&Nat.blt k Bl)=true then
   (let s:=st.Lp (Vo l k); {s with heap:=Oz (aG s.heap l) k (b.map (Vo l k))}) else st
 |_,_=>st
def Nd:Nat->Nat->St->St
 |0,_,st=>st
 |n+1,t,st=>Nd n (t+1) (match st.get t with
  | .at (.own l _ _)=>match Aw st.heap l with
   |some (.arr _ _ _ _ _)=>if (st.tmps.take t).any (λv=>v.refs.contains l) then st else st.rename l (700000+t)
   |_=>st
  |_=>st)
def cZ:Nat:=1000000007
def AC.Agz (flat:Bool):AC->AC
 | .data fr τ x=> .data (fr&&!(flat&&τ.flat)) τ x
 |c=>c
def OB.Jp (flat all one:Bool):OB->OB
 | .arr fr tr e tid xs=> .arr (fr&&!(all||(one||(flat&&e.flat)))) (tr&&!all) e tid xs
 | .var tid vs=> .var tid (vs.map (AC.Agz flat))
 |b=>b
def Pv:Nat:=1000000009
def Ok:Nat:=1100000000
def Ace:Nat:=1200000000
def St.Jp (live:List Nat) (st:St):St:= {st with heap:=st.heap.map λp=>(p.1,p.2.Jp (live.contains Pv) (live.contains (Ok+p.1)) (live.contains (Ace+p.1)))}
def Sq:Nat:=900000000
def cf (t:Nat) (st:St):St:=match st.get t with
 | .at (.own l off len)=>match Aw st.heap l with
  |some (.arr fr tr e tid xs)=>if Nat.blt l Bl=true then (st.new l (.arr fr tr e tid ((xs.drop off).take len))).put (some t) (.at (.own l 0 ((xs.drop off).take len).length)) else st
  |_=>st
 |_=>st
def Pu:Nat:=1900000000
def nm:Nat:=950000000
def Qo (c:Nat) (st:St):St:=match Aw st.heap Pu with
 |some (.var _ vs)=>match vs[c]? with
  |some (.own l off len)=>match Aw st.heap l with
   |some (.arr fr tr e te xs)=>if Nat.blt l Bl=true then match Aw (st.new l (.arr fr tr e te ((xs.drop off).take len))).heap Pu with
     |some (.var tid vs')=>(st.new l (.arr fr tr e te ((xs.drop off).take len))).Kp Pu (.var tid (vs'.set c (.own l 0 ((xs.drop off).take len).length)))
     |_=>st
    else st
   |_=>st
  |_=>st
 |_=>st
def Qf (live:List Nat):Nat->Nat->St->St
 |0,_,st=>st
 |n+1,c,st=>Qf live n (c+1) (if live.contains (nm+c) then Qo c st else st)
def Pr (live:List Nat):Nat->Nat->St->St
 |0,_,st=>Qf live 16 0 st
 |n+1,t,st=>Pr live n (t+1) (if live.contains (Sq+t) then cf t st else st)
def St.clean (live:List Nat) (st:St):St:=
 let s:St:= {st with tmps:=Ja live 0 st.tmps}
 let r1:=s.tmps.flatMap AV.refs
 let r2:=r1++(s.heap.filter λp=>r1.contains p.1).flatMap λp=>p.2.refs
 let s2:=bo ((s.heap.map (·.1)).filter λl=>!r2.contains l&&Nat.blt l Bl) s
 let s2:=if live.any (λt=>Nat.ble Sq t&&Nat.blt t cZ) then Pr live s2.tmps.length 0 s2 else s2
 let s3:=if live.contains cZ then Nd s2.tmps.length 0 s2 else s2
 if live.any (λt=>Nat.ble Pv t) then s3.Jp live else s3
def Ez:Code->Nat
 | .region id _ _=>id
 | .seq a _=>Ez a
 | .cond _ a _=>Ez a
 | .block _ c=>Ez c
 | .loop c=>1000+Ez c
 |_=>0
def Ah3 (a b:List Nat):List Nat:=a++b.filter λt=>!a.contains t
def zq:List Oper->List Nat->List Nat
 | [],out=>out
 |o::r,out=>Ah3 (o.op.operands.toList.filterMap λ | .tmp t=>some t|_=>none) (match o.dst with|some d=>(zq r out).filter (·!=d)|none=>zq r out)
def JY:List (Nat×List Nat)->Nat->List Nat
 | [],_=> []
 |(k,l)::r,id=>if k=id then l else JY r id
def qy:Code->List (Nat×List Nat)->List Nat->List Nat->List Nat×List (Nat×List Nat)
 | .region _ ops _,_,_,out=>(zq ops.toList out,[])
 | .seq a b,env,ret,out=>let rb:=qy b env ret out;let ra:=qy a env ret rb.1;(ra.1,ra.2++rb.2)
 | .cond c a b,env,ret,out=>let ra:=qy a env ret out;let rb:=qy b env ret out
  (Ah3 (match c with| .tmp t=> [t]|_=> []) (Ah3 ra.1 rb.1),ra.2++rb.2)
 | .block id c,env,ret,out=>qy c ((id,out)::env) ret out
 | .exit id,env,_,_=>(JY env id,[])
 | .ret,_,ret,_=>(ret,[])
 | .loop c,env,ret,_=>let l:=(qy c env ret []).1;let r:=qy c env ret l;(l,(Ez c,l)::r.2)
 |_,_,_,out=>(out,[])
def zr:List ResultVar->List Nat
 | []=> []
 | .tmp t::r=>t::zr r
 | .cell p _::r=>p::zr r
def zp (marks:List Nat) (fn:Func) (c:Code):Nat->List Nat:=let ret:=zr fn.results.toList;let g:=JY (qy c [] ret ret).2;match marks with
 | []=>g
 |m=> λid=>g id++m
def St.Rb (dead:List Nat) (st:St):St:=
 let s:St:= {st with tmps:=Ja ((List.range st.tmps.length).filter λt=>!dead.contains t) 0 st.tmps}
 let r1:=s.tmps.flatMap AV.refs
 let r2:=r1++(s.heap.filter λp=>r1.contains p.1).flatMap λp=>p.2.refs
 bo ((s.heap.map (·.1)).filter λl=>!r2.contains l&&Nat.blt l Bl) s
def Zg (ops:Array Oper) (t:Nat):Bool:=ops.toList.any λo=>o.dst==some t
def kY (Γ:Env) (ops:Array Oper) (draw:Bool) (st:St) (K:St->Prop):Prop:=
 (∃st',Sh T Γ ops draw st=some st'/\K st')\/
 (draw=true/\Region.noSelect ops=true/\ ∃cA,Ge T Γ ops (Ld ops) st=some cA/\
  (anyS T Γ ops K (ops.size-(Ld ops).length) (El (Ld ops) (Array.replicate ops.size false)) cA\/Ad4 T Γ ops K (ops.size-(Ld ops).length) (El (Ld ops) (Array.replicate ops.size false)) cA))
def yz (Γ:Env) (ops:Array Oper) (draw:Bool) (st:St) (K:St->Prop):Prop:=
 kY T Γ ops draw st K\/ ∃dead:List Nat,(dead.all (Zg ops))=true/\kY T Γ ops draw st λs=>K (s.Rb dead)
def LS (K:St->Prop) (Q:Mb->St->Prop):Mb->St->Prop
 | .normal,s=>K s
 |e,s=>Q e s
def xB (id:Nat) (Q:Mb->St->Prop):Mb->St->Prop
 | .exit SX,s=>if SX=id then Q .normal s else Q (.exit SX) s
 |e,s=>Q e s
def Aaq (ops:Array Oper) (t:Nat):Bool:=ops.toList.any λo=>match o.op with
 | .extract (.tmp s) _=>Nat.beq s t
 | .move (.tmp s)=>Nat.beq s t
 | .assign (.tmp s)=>Nat.beq s t
 |_=>false
def Ph (ops:Array Oper):Nat->List AV->List AV
 |_,[]=> []
 |i, .Ng l::r=>(if Aaq ops i=true then .Ng l else .undef)::Ph ops (i+1) r
 |i,v::r=>v::Ph ops (i+1) r
def St.nq (ops:Array Oper) (st:St):St:= {st with tmps:=Ph ops 0 st.tmps}
inductive Oy (Γ:Env) (live:Nat->List Nat):Code->St->(Mb->St->Prop)->Prop where
 |skip {st:St} {Q:Mb->St->Prop} :Q .normal st->Oy Γ live .skip st Q
 |label {l:Nat} {st:St} {Q:Mb->St->Prop} :Q .normal st->Oy Γ live (.label l) st Q
 |exit {id:Nat} {st:St} {Q:Mb->St->Prop} :Q (.exit id) st->Oy Γ live (.exit id) st Q
 |ret {st:St} {Q:Mb->St->Prop} :Q .ret st->Oy Γ live .ret st Q
 |region {id:Nat} {ops:Array Oper} {draw:Bool} {st:St} {Q:Mb->St->Prop} :yz T (zU Γ draw) ops draw (st.nq ops) (Q .normal)->Oy Γ live (.region id ops draw) st Q
 |seq {x y:Code} {st:St} {Q:Mb->St->Prop} (Q1:Mb->St->Prop):Oy Γ live x st Q1->(∀s,Q1 .normal s->Oy Γ live y s Q)->(∀e s,e≠ .normal->Q1 e s->Q e s)->Oy Γ live (.seq x y) st Q
 |cond {c:Operand} {x y:Code} {st:St} {fr t:Bool} {Q:Mb->St->Prop} :st.ev c= .at (.data fr .bool t)->(t=true->Oy Γ live x st Q)->(t=false->Oy Γ live y st Q)->Oy Γ live (.cond c x y) st Q
 |block {id:Nat} {c:Code} {st:St} {Q:Mb->St->Prop} (Q1:Mb->St->Prop):Oy Γ live c st Q1->(∀e s,Q1 e s->xB id Q e s)->Oy Γ live (.block id c) st Q
 |loop {c:Code} {st:St} {Q:Mb->St->Prop} (Q1:Mb->St->Prop):Oy Γ live c (st.clean (live (Ez c))) Q1->(∀s,Q1 .normal s->Oy Γ live (.loop c) s Q)->(∀e s,e≠ .normal->Q1 e s->Q e s)->Oy Γ live (.loop c) st Q
def dL (st:St):List ResultVar->Option (List AV)
 | []=>some []
 | .tmp t::r=>(dL st r).map λl=>st.get t::l
 | .cell p t::r=>match Qu T st t (st.get p),dL st r with
  |some v,some l=>some (v::l)
  |_,_=>none
def nE (s:Spec) (fn:Func) (st:St):Option (Bool×s.res.den):=
 match dL T st fn.results.toList with
 |some [v]=>if s.Ht then none else Fv st s.res v
 |some [v,u]=>if s.Ht then Dw st s.res [v,u] else none
 |some [v,u,t]=>if s.Ht then Dw st s.res [v,u,t] else none
 |_=>none
def Ti:(τ:Ty)->τ.den->List AV
 | .pair a r,x=> .at (.data a.flat a x.1)::Ti r x.2
 |_,_=> []
def kV (st:St):(c:CK)->AC->Option (c.den×List Nat)
 | .Ec τ,a=>if τ.flat||a.settled then (Dr st τ a).map λp=>(p.2,[]) else none
 | .row e te, .own l off len=>match st.at l with
  |some (.arr _ _ e' Rv xs)=>if h:e'=e/\Rv=te then some ((((h.1▸xs:List e.den).drop off).take len),[l]) else none
  |_=>none
 | .row _ _, .Mp=>some ([],[])
 | .Ij e te, .own l off len=>match st.at l with
  |some (.arr _ tr e' Rv xs)=>if h:e'=e/\Rv=te/\(tr||e.flat)=true then some ((((h.1▸xs:List e.den).drop off).take len),[l]) else none
  |some (.He e' Rv xs)=>if h:e'=e/\Rv=te then some ((((h.1▸xs:List e.den).drop off).take len),[l]) else none
  |_=>none
 | .Ij _ _, .Mp=>some ([],[])
 | .Bo e te _, .own l off len=>match st.at l with
  |some (.Bo e' Rv rows none _)=>if h:e'=e/\Rv=te/\off=0/\len=rows.length then some ((h.1▸rows:List (List e.den)),[l]) else none
  |_=>none
 |_,_=>none
def Vm (st:St):(cs:List CK)->List AC->Option (CKs.den cs×List Nat)
 | [],[]=>some ((),[])
 |c::r,a::as=>match kV st c a,Vm st r as with
  |some (x,t1),some (y,t2)=>some ((x,y),t1++t2)
  |_,_=>none
 |_,_=>none
def q8 (st:St) (l:Nat):(c:CK)->Option c.den
 | .Ec _=>none
 | .row e te=>match st.at l with
  |some (.arr _ _ e' Rv xs)=>if h:e'=e/\Rv=te then some (h.1▸xs) else none
  |_=>none
 | .Ij e te=>match st.at l with
  |some (.He e' Rv xs)=>if h:e'=e/\Rv=te then some (h.1▸xs) else none
  |_=>none
 | .part _ _=>none
 | .Bo _ _ _=>none
def Pe (st:St):(k:Nat)->(cs:List (Bool×CK))->Option (IOs.den cs)
 |_,[]=>some ()
 |k,(true, .Ec _)::r=>Pe st (k+1) r
 |k,(true, .Bo _ _ _)::r=>Pe st (k+1) r
 |k,(true, .row e te)::r=>match q8 st (Dx true k) (.row e te),Pe st (k+1) r with
  |some x,some y=>some (x,y)
  |_,_=>none
 |k,(true, .Ij e te)::r=>match q8 st (Dx true k) (.Ij e te),Pe st (k+1) r with
  |some x,some y=>some (x,y)
  |_,_=>none
 |k,(true, .part e te)::r=>match q8 st (Dx true k) (.row e te),Pe st (k+1) r with
  |some x,some y=>some (x,y)
  |_,_=>none
 |k,(false,_)::r=>Pe st (k+1) r
def Qk:(k:Nat)->List (Bool×CK)->List Nat
 |_,[]=> []
 |k,(true, .Ec _)::r=>Qk (k+1) r
 |k,(true, .Bo _ _ _)::r=>Qk (k+1) r
 |k,(true,_)::r=>Dx true k::Qk (k+1) r
 |k,(false,_)::r=>Qk (k+1) r
def Jz:(k:Nat)->List (Bool×CK)->List AC->Option (List AC)
 |_,_,[]=>some []
 |k,(true, .row _ _)::r, .own l _ _::as=>if Nat.beq l (Dx true k) then Jz (k+1) r as else none
 |k,(true, .Ij _ _)::r, .own l _ _::as=>if Nat.beq l (Dx true k) then Jz (k+1) r as else none
 |k,(false,_)::r,a::as=>(Jz (k+1) r as).map λl=>a::l
 |_,_,_=>none
def jr (st:St):List AC->List (Bool×CK)->Prop
 | .own l off len::as,(true,_)::r=>(off=0/\match st.at l with
  |some (.arr _ _ _ _ xs)=>len=xs.length
  |some (.He _ _ xs)=>len=xs.length
  |_=>False)/\jr st as r
 |_::as,(false,_)::r=>jr st as r
 |_,_=>True
def MT (s:MSpec) (st:St) (l:List AV):Option (List AC×List Nat):=match s.rp with
 |none=>if s.Ht=Nat.blt 1 l.length then (ungroup s.Hp l).map λas=>(as,[]) else none
 |some tid=>match l with
  | [.at (.Hu m i)]=>match st.at m with
   |some (.var Vd vs)=>if Vd=tid/\i=0/\Nat.blt m Bl=true then some (vs,[m]) else none
   |_=>none
  |_=>none
def xG (st:St) (n:Nat) (as:List AC):List (Nat×Nat)->Prop
 | []=>True
 |(k,j)::r=>(match as[j]? with
  |some (.own l _ _)=>match st.at l with
   |some (.Bo _ _ _ _ (some p))=>p.1=Dx false k/\n<=p.2/\Nat.blt k 1000=true
   |_=>False
  |_=>False)/\xG st n as r
def kJ (s:MSpec) (fn:Func) (x:Ins.den s.ins) (st:St) (cs:List AC) (P:CKs.den s.outs×IOs.den s.ins->Prop):Prop:=
 match dL T st fn.results.toList with
 |none=>False
 |some l=>match MT s st l with
  |none=>False
  |some (as,ml)=>match Vm st s.outs (cs++as),Pe st 0 s.ins with
   |some (r,ls),some o=>(az (ml++ls++Qk 0 s.ins)&&Nat.blt s.ins.length 1000&&Nat.blt s.outs.length 1000&&s.ZW)=true/\xG st (s.Fp x) (cs++as) s.keeps/\P (r,o)
   |_,_=>False
def WY (s:MSpec) (fn:Func) (x:Ins.den s.ins) (st:St) (P:CKs.den s.outs×IOs.den s.ins->Prop):Prop:=
 match s.ptr with
 |none=>kJ T s fn x st [] P
 |some p=> ∃vs cs,st.at Pu=some (.var p.1 vs)/\vs.length=p.2/\Jz 0 s.ins vs=some cs/\jr st vs s.ins/\kJ T s fn x st cs P
def aI (s:MSpec) (as:List AC):List AV:=match s.ptr with
 |none=>Tl s.Jb as
 |some p=> .at (.Hu Pu 0)::Tl s.Jb (as.drop p.2)
def qp (s:MSpec) (x:Ins.den s.ins):List (Nat×OB):=match s.ptr with
 |none=>Zy 0 s.ins x
 |some p=>Zy 0 s.ins x++ [(Pu, .var p.1 ((c5 0 s.ins x).take p.2))]
def a7:List (Bool×CK)->Bool
 | []=>true
 |(true, .Bo _ _ _)::_=>false
 |_::r=>a7 r
def zP (s:MSpec):Bool:=a7 s.ins&&match s.ptr with
 |none=>true
 |some p=>Nat.ble p.2 s.ins.length
def Af7 (Γ:Env) (s:MSpec) (fn:Func) (x:Ins.den s.ins) (P:CKs.den s.outs×IOs.den s.ins->Prop):Prop:=
 (Nat.blt s.ins.length 1000&&zP s)=true/\ ∃c,fn.body=some c/\Oy T Γ (zp T.marks fn c) c {tmps:=aI s (c5 0 s.ins x)++List.replicate (fn.ntmps-(aI s (c5 0 s.ins x)).length) .undef,heap:=qp s x}
  (λe st=>(∀id,e≠ .exit id)/\WY T s fn x st P)
def WZ (Γ:Env) (s:Spec) (fn:Func) (x:s.arg.den) (P:s.res.den->Prop):Prop:=
 ∃c,fn.body=some c/\Oy T Γ (zp T.marks fn c) c {tmps:=Ti s.arg x++List.replicate (fn.ntmps-(Ti s.arg x).length) .undef,heap:= []}
  (λe st=>(∀id,e≠ .exit id)/\ ∃fr y,nE T s fn st=some (fr,y)/\(fr||!s.fresh)=true/\P y)
end Go.Proofs.YtkkdpknjohcekaaGreat
