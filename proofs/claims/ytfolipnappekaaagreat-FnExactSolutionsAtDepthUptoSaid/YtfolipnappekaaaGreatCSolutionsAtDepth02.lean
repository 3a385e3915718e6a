/-
  Part 3 of the proof that the statement FnExactSolutionsAtDepth holds.
-/
import Derived.Test.YtfolipnappekaaaGreatCSolutionsAtDepth01
namespace Go.Proofs.YtfolipnappekaaaGreat
open Go.RowKit
def Ds:Nat->St->List AC->Option (List AC×St)
 |0,st,cs=>if cs.all (·.settled) then some (cs,st) else none
 |n+1,st,cs=>
  match cs.find? (λc=>!c.settled) with
  |none=>some (cs,st)
  |some (.own l _ _)=>match st.at l with
   |some (.arr fr _ e _ xs)=>Ds n (st.freeze l fr e xs) (cs.map (Bh l fr e xs))
   |some (.Dg e _ xs)=>Ds n (st.freeze l false e xs) (cs.map (Bh l false e xs))
   |_=>none
  |some (.Gd l)=>match st.at l with
   |some (.Qh v m)=>Ds n (st.Eo l v m) (cs.map (Dm l v m))
   |_=>none
  |some _=>none
def settle (st:St):AV->Option (AV×St)
 | .at (.own l off len)=>match st.at l with
  |some (.arr fr _ e _ xs)=>some (.at (.data fr (.slice e) ((xs.drop off).take len)),st.freeze l fr e xs)
  |some (.Dg e _ xs)=>some (.at (.data false (.slice e) ((xs.drop off).take len)),st.freeze l false e xs)
  |_=>none
 | .at (.Gd l)=>match st.at l with
  |some (.Qh v m)=>some (.at (.data false (.smap v) m),st.Eo l v m)
  |_=>none
 | .at a=>if a.settled then some (.at a,st) else none
 | .agg cs=>(Ds cs.length st cs).map λp=>(.agg p.1,p.2)
 | .Wv fr τ x=>some (.Wv fr τ x,st)
 | .Ih _=>none
def AC.refs:AC->List Nat
 | .own l _ _| .Du l _| .Fw l _| .Gd l| .sub l _ _| .Ft l _ _=> [l]
 | .clo _ Ca=>Ca.map (·.1)
 |_=> []
def Vc:List Nat->Bool
 | []=>true
 |a::r=>!r.contains a&&Vc r
def Ty.tree:Ty->Bool
 | .int _| .bool| .str| .unit=>true
 | .slice e=>e.tree
 | .pair a r=>a.tree&&r.tree
 |_=>false
def Mx (st:St):AC->Bool
 | .data _ τ _=>τ.flat
 | .Hr=>true
 | .own l _ _=>match st.at l with
  |some (.arr _ tr e _ _)=>tr||e.flat
  |some (.Dg _ _ _)=>true
  |_=>false
 |_=>false
def Oa (st:St):AV->Bool
 | .at a=>Mx st a
 | .agg cs=>cs.all (Mx st)&&Vc (cs.flatMap AC.refs)
 |_=>false
def Am:Nat:=1000000000
variable (T:Tab)
def IU (t:TypeId) (τ:Ty) (i:Nat):Option TypeId:=
 if τ.Ac then (List.range 24).findSome? λf=>match T.off t f with
  |some (o,u)=>if o=i then some u else none
  |none=>none
 else some t
def Tab.JC (te:TypeId):Option Ty:=if T.QQ.contains te then (match T.ty te with
 |some (.slice e)=>some e
 |_=>none) else none
def aq (te:TypeId) (e:Ty):OB:=match T.JC te with
 |some e'=> .Al e' te [] none none
 |none=> .arr (T.pC||e.flat) T.xB e te []
def Ph (b:OB) (key l i:Nat) (st:St):St:=
 match st.at l with
 |some (.var _ vs)=>match vs[i]? with
  |some .Hr=>
   let s1:=st.new key b
   match s1.at l with
   |some (.var tid vs')=>s1.Fq l (.var tid (Nk vs' i (.own key 0 0)))
   |_=>s1
  |_=>st
 |_=>st
def bP (l:Nat) (t:TypeId) (τ:Ty):Nat->Nat->St->St
 |0,_,st=>st
 |n+1,i,st=>
  bP l t τ n (i+1) (match ((IU T t τ i).bind T.elem).bind λte=>(T.ty te).map λe=>(te,e) with
   |some (te,e)=>Ph (aq T te e) (100000+l*100+i) l i st
   |none=>st)
def aP (l off:Nat) (t:TypeId) (τ:Ty):Nat->Nat->St->St
 |0,_,st=>st
 |n+1,i,st=>
  aP l off t τ n (i+1) (match ((IU T t τ i).bind T.elem).bind λte=>(T.ty te).map λe=>(te,e) with
   |some (te,e)=>Ph (aq T te e) (100000+l*100+(off+i)) l (off+i) st
   |none=>st)
def zeroCells:(τ:Ty)->List AC
 | .unit=> []
 | .pair a r=>zeroCells a++zeroCells r
 | .slice _=> [.Hr]
 | .oslice _=> [.Hr]
 | .ptr _=> [.Ro]
 | .optr _=> [.Ro]
 | .clo _ _=> [.undef]
 |τ=> [.data true τ τ.zero]
def cellsOf (τ:Ty):AV->Option (List AC)
 | .agg cs=>if τ.Ac&&cs.length==τ.size then some cs else none
 | .at (.data fr Jp x)=>if Jp=τ then some (Nc fr Jp x) else none
 | .at .undef=>none
 | .at .skip=>none
 | .at a=>if τ.Ac then none else some [a]
 |_=>none
def mkVar (st:St) (l:Nat) (t:TypeId) (τ:Ty) (cs:List AC):Option (AV×St):=
 if Am<=100000+l*100+cs.length then none else
 let s:=bP T l t τ cs.length 0 (st.new l (.var t (cs.map (Bd l))))
 match s.at l with
 |some (.var _ _)=>some (.at (.Du l 0),s)
 |_=>none
def Bs {α:Type} (xs:List α) (i:Nat) (ys:List α):List α:=xs.take i++ys++xs.drop (i+ys.length)
def Pq (st:St) (t:TypeId) (p v:AV):Option St:=
 match T.ty t,p with
 |some τ, .at (.Du l i)=>match st.at l,cellsOf τ v with
  |some (.var tid vs),some cs=>if i+cs.length<=vs.length then some (if τ.Ac&&Nat.blt (100000+l*100+(i+cs.length)) Am then aP T l i t τ cs.length 0 (st.Fq l (.var tid (Bs vs i cs))) else st.Fq l (.var tid (Bs vs i cs))) else none
  |_,_=>none
 |some τ, .at (.Fw l j)=>match settle st v with
  |some (v',st')=>match st'.at l,Cv st' τ v' with
   |some (.arr fr tr e tid xs),some (Qs,x)=>if h:τ=e then (if j<xs.length then some (st'.Fq l (.arr (fr&&Qs) (tr&&(Oa st v&&e.tree)) e tid (xs.set j (h▸x)))) else none) else none
   |_,_=>none
  |none=>none
 |_,_=>none
def Be:Nat:=4294967296
def Jh (st:St) (dst:Nat) (t:TypeId) (x y:Operand):Option (AV×St):=
 match T.elem t with
 |none=>none
 |some te=>match T.ty te,settle st (st.ev y) with
  |some e,some (y',st')=>match Cv st' (.slice e) y' with
   |none=>none
   |some (oA,ys)=>
    let tr2:=e.flat||(Oa st (st.ev y)&&e.tree)
    match st'.ev x with
    | .at .Hr=>if ys.length<=Be/\dst<Am then some (.at (.own dst 0 (0+ys.length)),(st'.new dst (.arr (T.pC||e.flat) T.xB e te [])).new dst (.arr ((T.pC||e.flat)&&(oA||e.flat)) (T.xB&&tr2) e te (((([]:List e.den).drop 0).take 0)++ys))) else none
    | .at (.own l off len)=>match st'.at l with
     |some (.arr fr tr e' tid xs)=>if h:e'=e/\tid=te then
       (if len+ys.length<=Be/\l<Am then
        some (.at (.own l 0 (len+ys.length)),st'.new l (.arr (fr&&(oA||e.flat)) (tr&&tr2) e te ((((h.1▸xs:List e.den).drop off).take len)++ys))) else none)
      else none
     |_=>none
    |_=>none
  |_,_=>none
def Ld (st:St) (l i m:Nat) (e:Ty) (te tid:TypeId) (rows:List (List e.den)) (kp:Option (Nat×Nat)):St:=
 (st.Fq l (.Al e te rows (some i) kp)).new m (.arr false false e tid (rows.getD i []))
def Mh (st:St) (dst:Nat) (t:TypeId) (x y:Operand):Option (AV×St):=
 match x with
 | .tmp tx=>match st.get tx with
  | .at (.sub l i _)=>match st.at l,T.elem t with
   |some (.Al e te rows none kp),some tid=>if (Nat.blt l Am&&(Nat.blt dst Am&&!Nat.beq dst l))=true then Jh T ((Ld st l i dst e te tid rows kp).put (some tx) (.at (.own dst 0 (rows.getD i []).length))) dst t x y else none
   |_,_=>none
  |_=>Jh T st dst t x y
 |_=>Jh T st dst t x y
def jc:Ty->Bool
 | .int _| .bool| .str| .slice _| .oslice _=>true
 |_=>false
def cj:Ty->Bool
 | .unit=>true
 | .pair a r=>cj a&&cj r
 |e=>jc e
def Xd (st:St) (dst:Nat) (t:TypeId) (l c:AV):Option (AV×St):=
 match T.elem t,l,c with
 |some te, .at (.data _ (.int _) n), .at (.data _ (.int _) m)=>match T.ty te with
  |some e=>if inb n (Be+1)=true/\n=m/\cj e=true/\dst<Am then some (.at (.own dst 0 n.toNat),st.new dst (.arr (T.pC||e.flat) (T.xB&&e.tree) e te (List.replicate n.toNat e.zero))) else none
  |none=>none
 |_,_,_=>none
def Gu (e:Ty):Nat->List (Nat×Operand)->St->Option (Bool×Bool×List e.den×St)
 |_,[],st=>some (true,true,[],st)
 |i,(j,x)::r,st=>
  if i=j then match settle st (st.ev x) with
   |some (v,st')=>match Cv st' e v with
    |some (fr,y)=>match Gu e (i+1) r st' with
     |some (Qs,VI,ys,Ano)=>some (fr&&Qs,Oa st (st.ev x)&&e.tree&&VI,y::ys,Ano)
     |none=>none
    |none=>none
   |none=>none
  else none
def Hv (st:St) (dst:Nat) (t:TypeId) (len:Nat) (parts:Array (Nat×Operand)):Option (AV×St):=
 match T.elem t with
 |none=>none
 |some te=>match T.ty te with
  |none=>none
  |some e=>if parts.size=len/\len<=64/\e.size<=64/\dst<Am then (match Gu e 0 parts.toList st with
   |some (fr,tr,ys,st')=>some (.at (.own dst 0 len),st'.new dst (.arr ((T.pC||e.flat)&&fr) (T.xB&&tr) e te ys))
   |none=>none) else none
def Pp (st:St) (dst:Nat) (t:TypeId):Option (AV×St):=
 match T.mapOf t with
 |some v=>if dst<Am then some (.at (.Gd dst),st.new dst (.Qh v λ_=>none)) else none
 |none=>none
def eN {α:Type} (m:ByteArray->Option α) (k:ByteArray) (x:α):ByteArray->Option α:= λs=>if s=k then some x else m s
def Ex (st:St) (t:TypeId) (m k x:AV):Option St:=
 match T.mapOf t,m,k with
 |some v, .at (.Gd l), .at (.data _ .str s)=>match st.at l,Cv st v x with
  |some (.Qh v' f),some (_,y)=>if h:v'=v/\v.flat=true/\v.Ac=false then some (st.Fq l (.Qh v (eN (h.1▸f:ByteArray->Option v.den) s y))) else none
  |_,_=>none
 |_,_,_=>none
def dv (st:St) (t t':TypeId) (x y:AV):Option (AV×St):=
 match x,(T.elem t).bind T.ty with
 | .at (.own l off len),some e=>if T.elem t=T.elem t'/\e.flat=true/\e.size=1 then match st.at l,Cv st (.slice e) y with
  |some (.arr fr _ e' tid xs),some (_,ys)=>if h:e'=e/\T.elem t=some tid then
    some (.at (.data true (.int .i64) (min len ys.length:Nat)),st.Fq l (.arr fr false e tid (Bs (h.1▸xs:List e.den) off (ys.take len))))
   else none
  |_,_=>none
  else none
 |_,_=>none
def evalClear (st:St) (t:TypeId) (x:AV):Option St:=
 match x,(T.elem t).bind T.ty with
 | .at (.own l off len),some e=>if e.flat=true/\jc e=true then match st.at l with
  |some (.arr fr _ e' tid xs)=>if h:e'=e/\T.elem t=some tid then
    some (st.Fq l (.arr fr false e tid (Bs (h.1▸xs:List e.den) off (List.replicate len e.zero))))
   else none
  |_=>none
  else none
 |_,_=>none
def Hu (st:St) (t:TypeId):List (Nat×Operand)->List AC->Option (List AC)
 | [],cs=>some cs
 |(i,x)::r,cs=>
  match T.off t i with
  |some (o,u)=>match T.ty u with
   |some ρ=>match cellsOf ρ (st.ev x) with
    |some c=>if o+c.length<=cs.length then Hu st t r (Bs cs o c) else none
    |none=>none
   |none=>none
  |none=>none
def Sh (st:St) (t:TypeId) (parts:Array (Nat×Operand)):Option AV:=
 match T.ty t with
 |none=>none
 |some τ=>if τ.Ac then (Hu T st t parts.toList (zeroCells τ)).map .agg else none
def Bu (io:Bool) (k:Nat):Nat:=if io then 1000000000+k else 500000+k
def Fy (k:Nat):Nat:=600000+k
def TH (dst:Nat) (k:Nat):Nat:=1000000*(dst+1)+k
def Ns:List (Option Nat)->List AC->List AV
 |none::s,a::as=> .at a::Ns s as
 |some n::s,as=> .agg (as.take n)::Ns s (as.drop n)
 |_,_=> []
def Gi:List (Option Nat)->List Value->List Value
 |none::s,u::us=>u::Gi s us
 |some n::s,us=> .agg (us.take n).toArray::Gi s (us.drop n)
 |_,_=> []
def ungroup:List (Option Nat)->List AV->Option (List AC)
 | [],[]=>some []
 |none::s, .at a::as=>(ungroup s as).map λr=>a::r
 |some n::s, .agg cs::as=>if cs.length=n then (ungroup s as).map λr=>cs++r else none
 |some n::s, .at (.data fr τ x)::as=>if τ.Ac=true/\(Nc fr τ x).length=n then (ungroup s as).map λr=>Nc fr τ x++r else none
 |_,_=>none
def fX (l:Nat):(c:CK)->c.den->Option OB
 | .Dn _,_=>none
 | .row e te,xs=>some (.arr false false e te xs)
 | .Dv e te,xs=>some (.Dg e te xs)
 | .part e te,x=>some (.arr false false e te x.1)
 | .Al e te kp,xs=>some (.Al e te xs none (if kp then some (l,List.length xs) else none))
def Akl (l:Nat):(c:CK)->c.den->AC
 | .Dn τ,x=> .data τ.flat τ x
 | .row _ _,xs=> .own l 0 (List.length xs)
 | .Dv _ _,xs=> .own l 0 (List.length xs)
 | .part _ _,x=> .own l x.2.1 x.2.2
 | .Al _ _ _,xs=> .own l 0 (List.length xs)
def dm {α:Type} (l:Nat):Option α->List (Nat×α)->List (Nat×α)
 |none,r=>r
 |some b,r=>(l,b)::r
def Uh:(k:Nat)->(cs:List (Bool×CK))->Ins.den cs->List (Nat×OB)
 |_,[],_=> []
 |k,p::r,x=>dm (Bu p.1 k) (fX (Bu p.1 k) p.2 x.1) (Uh (k+1) r x.2)
def Xj:(k:Nat)->(cs:List (Bool×CK))->Ins.den cs->List AC
 |_,[],_=> []
 |k,p::r,x=>Akl (Bu p.1 k) p.2 x.1::Xj (k+1) r x.2
inductive Loc where
 |row (l:Nat)
 |sub (l i c:Nat)
 |view (l:Nat)
 deriving DecidableEq
def Loc.Rn:Loc->Nat
 | .row l=>l
 | .sub l _ _=>l
 | .view l=>l
def Loc.reads:Loc->Bool
 | .view _=>true
 |_=>false
def Yb (st:St) (ls:List Nat):Bool:=ls.all λl=>match st.at l with|some (.var _ vs)=>vs.all (·.settled)|_=>false
def views (k:Nat) (ls:List Nat):List (Nat×Loc):=ls.map λl=>(Bu false k, .view l)
def Hl (st:St) (io:Bool) (k:Nat):(c:CK)->AC->Option (c.den×List (Nat×Loc))
 | .Dn τ, .own l off len=>(Bp st τ (.own l off len)).map λp=>(p.2,[(Bu false k, .view l)])
 | .Dn τ, .clo g Ca=>if Yb st (Ca.map (·.1))&&!τ.Ac then (Fo st τ (.clo g Ca)).map λp=>(p.2,views k (Ca.map (·.1))) else none
 | .Dn τ, .Du l i=>if Yb st [l]&&!τ.Ac then (Fo st τ (.Du l i)).map λp=>(p.2,views k [l]) else none
 | .Dn τ, .sub l i c=>(Bp st τ (.sub l i c)).map λp=>(p.2,[(Bu false k, .view l)])
 | .Dn τ,a=>if τ.flat||a.settled then (Bp st τ a).map λp=>(p.2,[]) else none
 | .row e te, .own l off len=>match st.at l with
  |some (.arr _ _ e' Mc xs)=>if h:e'=e/\Mc=te/\off=0/\len=xs.length then some ((h.1▸xs:List e.den),[(Bu io k, .row l)]) else none
  |_=>none
 | .row e _, .sub l i c=>match st.at l with
  |some (.Dg e' _ xs)=>if h:e'= .slice e/\e.flat=true/\io=true/\c=0 then xs[i]?.map λy=>((h.1▸y:(Ty.slice e).den),[(Bu io k, .sub l i c)]) else none
  |_=>none
 | .row _ _, .Hr=>some ([],[])
 | .Dv e te, .own l off len=>match st.at l with
  |some (.Dg e' Mc xs)=>if h:e'=e/\Mc=te/\off=0/\len=xs.length then some ((h.1▸xs:List e.den),[(Bu io k, .row l)]) else none
  |_=>none
 | .Dv e _, .sub l i c=>match st.at l with
  |some (.Dg e' _ xs)=>if h:e'= .slice e/\io=true/\c=0 then xs[i]?.map λy=>((h.1▸y:(Ty.slice e).den),[(Bu io k, .sub l i c)]) else none
  |_=>none
 | .Dv _ _, .Hr=>some ([],[])
 | .part e te, .own l off len=>match st.at l with
  |some (.arr _ _ e' Mc xs)=>if h:e'=e/\Mc=te/\e.flat=true/\io=true then some (((h.1▸xs:List e.den),off,len),[(Bu io k, .row l)]) else none
  |_=>none
 | .Al e te _, .own l off len=>match st.at l with
  |some (.Al e' Mc rows none _)=>if h:e'=e/\Mc=te/\off=0/\len=rows.length/\io=false then some ((h.1▸rows:List (List e.den)),[(Bu io k, .row l)]) else none
  |_=>none
 |_,_=>none
def cc (st:St):(k:Nat)->(cs:List (Bool×CK))->List AC->Option (Ins.den cs×List (Nat×Loc))
 |_,[],[]=>some ((),[])
 |k,p::r,a::as=>match Hl st p.1 k p.2 a,cc st (k+1) r as with
  |some (x,t1),some (y,t2)=>some ((x,y),t1++t2)
  |_,_=>none
 |_,_,_=>none
def Yh (st:St):(c:CK)->c.den->AC->Option St
 | .row e _,ys, .own l _ len=>match st.at l with
  |some (.arr fr tr e' te xs)=>if h:e=e'/\List.length ys=len/\xs.length=len then some (st.Fq l (.arr (fr&&e'.flat) (tr&&e'.flat) e' te (h.1▸ys))) else none
  |_=>none
 | .Dv e _,ys, .own l _ len=>match st.at l with
  |some (.Dg e' te xs)=>if h:e=e'/\List.length ys=len/\xs.length=len then some (st.Fq l (.Dg e' te (h.1▸ys))) else none
  |_=>none
 | .row e _,ys, .sub l i _=>match st.at l with
  |some (.Dg e' te xs)=>if h: .slice e=e' then (match xs[i]? with
   |some y=>if List.length ys=List.length (h▸y:(Ty.slice e).den) then some (st.Fq l (.Dg e' te (xs.set i (h▸(ys:(Ty.slice e).den))))) else none
   |none=>none) else none
  |_=>none
 | .Dv e _,ys, .sub l i _=>match st.at l with
  |some (.Dg e' te xs)=>if h: .slice e=e' then (match xs[i]? with
   |some y=>if List.length ys=List.length (h▸y:(Ty.slice e).den) then some (st.Fq l (.Dg e' te (xs.set i (h▸(ys:(Ty.slice e).den))))) else none
   |none=>none) else none
  |_=>none
 |_,_, .Hr=>some st
 |_,_,_=>none
def FY (st:St) (e:Ty) (ys:List e.den):AC->Option St
 | .own l _ _=>match st.at l with
  |some (.arr fr tr e' te xs)=>if h:e=e'/\List.length ys=xs.length then some (st.Fq l (.arr fr tr e' te (h.1▸ys))) else none
  |_=>none
 |_=>none
def Ef:(cs:List (Bool×CK))->IOs.den cs->List AC->St->Option St
 | [],_,_,st=>some st
 |(true, .Dn _)::r,x,_::as,st=>Ef r x as st
 |(true, .row e te)::r,x,a::as,st=>match Yh st (.row e te) x.1 a with
  |some st'=>Ef r x.2 as st'
  |none=>none
 |(true, .Dv e te)::r,x,a::as,st=>match Yh st (.Dv e te) x.1 a with
  |some st'=>Ef r x.2 as st'
  |none=>none
 |(true, .part e _)::r,x,a::as,st=>match FY st e x.1 a with
  |some st'=>Ef r x.2 as st'
  |none=>none
 |(true, .Al _ _ _)::r,x,_::as,st=>Ef r x as st
 |(false,_)::r,x,_::as,st=>Ef r x as st
 |_,_,_,_=>none
def Ba (dead part:List Nat) (c:AC):AC:=if c.refs.any (λl=>dead.contains l) then .undef else match c with
 | .sub l i c=>if part.contains l then .undef else .sub l i c
 | .Ft l i c=>if part.contains l then .undef else .Ft l i c
 |c=>c
def Se:List (Nat×OB)->List Nat->List (Nat×OB)
 | [],_=> []
 |(k,b)::r,dead=>if dead.contains k then Se r dead else (k,b)::Se r dead
def St.Ys (st:St) (dead part:List Nat):St:=let s:=st.Gl (Ba dead part); {s with heap:=Se s.heap dead}
def Oe (st:St) (l j m:Nat) (e:Ty) (te:TypeId) (rows:List (List e.den)) (xs:List e.den) (kp:Option (Nat×Nat)):St:=
 (st.Ys [m] [l]).Fq l (.Al e te (rows.set j xs) none kp)
def Xm (j:Nat):Option (Nat×Nat)->Option (Nat×Nat)
 |none=>none
 |some p=>some (p.1,min p.2 j)
def Xe (st:St) (t:TypeId) (p v:AV):Option St:=
 match T.ty t,p with
 |some τ, .at (.Ft l i j)=>match settle st v with
  |some (v',st')=>match st'.at l,Cv st' τ v' with
   |some (.Al e te rows none kp),some (_,x)=>if h:τ=e then some (st'.Fq l (.Al e te (rows.set i ((rows.getD i []).set j (h▸x))) none kp)) else none
   |_,_=>none
  |none=>none
 |some τ, .at (.Fw l j)=>match st.at l,v with
  |some (.Al e te rows out kp), .at (.own m off len)=>match st.at m with
   |some (.arr _ _ e' _ xs)=>if h:e'=e/\(Nat.blt l Am&&(!Nat.beq m l&&!τ.Ac))=true/\off=0/\len=xs.length/\(out=none\/out=some j) then some (Oe st l j m e te rows (h.1▸xs) (Xm j kp)) else none
   |_=>none
  |_,_=>none
 |_,_=>none
def JD (st:St):AV->Bool
 | .at (.Ft _ _ _)=>true
 | .at (.Fw l _)=>match st.at l with
  |some (.Al _ _ _ _ _)=>true
  |_=>false
 |_=>false
def Ku (st:St) (t:TypeId) (p v:AV):Option St:=match JD st p with
 |true=>Xe T st t p v
 |false=>Pq T st t p v
def Lw (st:St) (k m:Nat) (b:OB):St:=let s:=st.Ys [m,k] []; {s with heap:=Jr s.heap k b}
def aC (t:TypeId):Option (TypeId×Ty):=(T.elem t).bind λte=>(T.JC te).map λe=>(te,e)
def Sk (st:St) (dst:Nat) (t:TypeId) (l c:AV):Option (AV×St):=
 match aC T t with
 |none=>Xd T st dst t l c
 |some (te,e)=>match l,c with
  | .at (.data _ (.int _) n), .at (.data _ (.int _) m)=>if inb n (Be+1)=true/\n=m/\dst<Am then some (.at (.own dst 0 n.toNat),Lw st dst dst (.Al e te (List.replicate n.toNat []) none none)) else none
  |_,_=>none
def Eu (st:St) (dst:Nat) (t:TypeId) (len:Nat) (parts:Array (Nat×Operand)):Option (AV×St):=
 match aC T t with
 |none=>Hv T st dst t len parts
 |some (te,e)=>match parts.toList with
  | [(0,x)]=>match st.ev x with
   | .at (.own m off ln)=>match st.at m with
    |some (.arr _ _ e' _ xs)=>if h:e'=e/\(Nat.beq len 1&&(Nat.blt dst Am&&Nat.blt m Am))=true/\off=0/\ln=xs.length then some (.at (.own dst 0 1),Lw st dst m (.Al e te [h.1▸xs] none none)) else none
    |_=>none
   |_=>none
  |_=>none
def Mi (st:St) (dst:Nat) (t:TypeId) (x y:Operand):Option (AV×St):=
 match aC T t with
 |none=>Mh T st dst t x y
 |some (te,e)=>match st.ev x,st.ev y with
  | .at (.own l off len), .at (.own m TJ q9)=>match st.at l,st.at m with
   |some (.Al e1 te1 A none _),some (.Al e2 tj B none _)=>
    if h:(e1=e/\e2=e)/\(decide (te1=te)&&decide (tj=te)&&(Nat.blt l Am&&(Nat.blt m Am&&!Nat.beq m l)))=true/\(off=0/\len=A.length)/\(TJ=0/\q9=B.length)/\0<B.length/\A.length+B.length<=Be then
     some (.at (.own l 0 (A.length+B.length)),Lw st l m (.Al e te ((h.1.1▸A:List (List e.den))++(h.1.2▸B:List (List e.den))) none none))
    else none
   |_,_=>none
  |_,_=>none
def su (fr:Bool):(c:CK)->c.den->Option OB
 | .Dn _,_=>none
 | .row e te,xs=>some (.arr (fr&&e.flat) false e te xs)
 | .Dv e te,xs=>some (.Dg e te xs)
 | .part e te,x=>some (.arr (fr&&e.flat) false e te x.1)
 | .Al e te _,xs=>some (.Al e te xs none none)
def ze (H:List (Nat×OB)) (l:Nat):Option OB->List (Nat×OB)
 |some b=>Jr H l b
 |none=>H
def Ss (fr:Bool) (key:Nat->Nat):(k:Nat)->(cs:List CK)->CKs.den cs->List (Nat×OB)->List (Nat×OB)
 |_,[],_,H=>H
 |k,c::r,x,H=>Ss fr key (k+1) r x.2 (ze H (key k) (su fr c x.1))
def Xq (key:Nat->Nat):(k:Nat)->(cs:List CK)->CKs.den cs->List AC
 |_,[],_=> []
 |k,c::r,x=>(match c,x.1 with
  | .Dn τ,y=> .data τ.flat τ y
  | .row _ _,xs=> .own (key k) 0 (List.length xs)
  | .Dv _ _,xs=> .own (key k) 0 (List.length xs)
  | .Al _ _ _,xs=> .own (key k) 0 (List.length xs)
  | .part _ _,_=> .undef)::Xq key (k+1) r x.2
def Vd:List (Option Nat)->List AC->List (Bool×List AC)
 |none::s,a::as=>(false,[a])::Vd s as
 |some n::s,as=>(true,as.take n)::Vd s (as.drop n)
 |_,_=> []
def Aif (Cs:Bool) (sh:List (Option Nat)) (as:List AC):Option AV:=
 if Cs then some (.Ih (Vd sh as)) else match Ns sh as with
  | [v]=>some v
  | []=>some .undef
  |_=>none
def jv (tks:List (Nat×Loc)):List Nat:=(tks.filter λt=>Nat.blt t.1 Am&&!t.2.reads).map λt=>t.2.Rn
def whole (tks:List (Nat×Loc)):List Nat:=tks.flatMap λt=>match t.2 with| .row l=> [l]|_=> []
def xG (tks:List (Nat×Loc)):List Nat:=(tks.filter λt=>t.2.reads).map λt=>t.2.Rn
def zo (ins:List (Bool×CK)) (te:TypeId) (used:List Nat):List (Nat×Loc)->Option Nat
 | []=>none
 |(k, .row l)::r=>if Nat.blt k Am&&(!used.contains l&&(match ins[k-500000]? with
   |some (false, .row _ Mc)=>decide (Mc=te)
   |some (false, .Dv _ Mc)=>decide (Mc=te)
   |some (false, .Al _ Mc _)=>decide (Mc=te)
   |_=>false)) then some l else zo ins te used r
 |_::r=>zo ins te used r
def EO (ins:List (Bool×CK)) (tks:List (Nat×Loc)) (d:Nat):(k:Nat)->(used:List Nat)->List CK->List Nat
 |_,_,[]=> []
 |k,used,c::r=>match (match c with
   | .row _ te=>zo ins te used tks
   | .Dv _ te=>zo ins te used tks
   | .Al _ te _=>zo ins te used tks
   |_=>none) with
  |some l=>l::EO ins tks d (k+1) (l::used) r
  |none=>TH d k::EO ins tks d (k+1) used r
def jq (s:MSpec) (tks:List (Nat×Loc)) (d:Nat):List Nat:=EO s.ins tks d 0 [] s.outs
def Bz (ks:List Nat) (j:Nat):Nat:=match ks[j]? with
 |some l=>l
 |none=>Am+j
def wv (ks:List Nat) (n:Nat):Bool:=Nat.beq ks.length n&&(Vc ks&&ks.all λl=>Nat.blt l Am)
def IY (st:St) (l:List Nat):Bool:=l.all λk=>match st.at k with|some (.arr fr _ _ _ _)=>fr|_=>false
def KD (st:St) (s:MSpec) (args:List AV):Option (List Nat×List AC×List AV):=
 match s.ptr with
 |none=>some ([],[],args)
 |some p=>match args with
  | .at (.Du l i)::rest=>match st.at l with
   |some (.var tid vs)=>if tid=p.1/\vs.length=p.2/\i=0 then some ([l],vs,rest) else none
   |_=>none
  |_=>none
def Qv:List (Bool×CK)->List AC->Bool
 |(true, .row _ _)::r, .own _ _ _::as=>Qv r as
 |(true, .Dv _ _)::r, .own _ _ _::as=>Qv r as
 |(true,_)::_,_::_=>false
 |(false,_)::r,_::as=>Qv r as
 |_,as=>as.isEmpty
def cH {α:Type} :List (Bool×CK)->List α->List α->List α
 |(true,_)::r,v::vs,as=>v::cH r vs as
 |(false,_)::r,_::vs,a::as=>a::cH r vs as
 |_,vs,_=>vs
def qH:List (Bool×CK)->Nat->Nat
 |(true,_)::r,n+1=>qH r n
 |(false,_)::r,n+1=>qH r n+1
 |_,_=>0
def MSpec.Vn (s:MSpec):Nat:=match s.ptr with|none=>0|some p=>qH s.ins p.2
def nZ (ins:List (Bool×CK)) (as:List AC) (pl:List Nat) (st:St):St:=
 match pl with
 | []=>st
 |l::_=>match st.at l with
  |some (.var tid vs)=>st.Fq l (.var tid (cH ins vs as))
  |_=>st
def Ob (d:Nat):Nat:=TH d 999
def iW (s:MSpec) (d:Nat):List Nat:=match s.rp with|none=> []|some _=> [Ob d]
def Nb (s:MSpec) (tks:List (Nat×Loc)) (d:Nat):List Nat:=jq s tks d++iW s d
def jT (H:List (Nat×OB)) (l:Nat):Bool:=match Ad H l with
 |some (.Al _ _ _ _ _)=>true
 |_=>false
def Xl (H:List (Nat×OB)) (ks:List Nat) (tks:List (Nat×Loc)):List (Nat×Nat)->List Nat
 | []=> []
 |(k,j)::r=>match tks.find? (λt=>Nat.beq t.1 (Bu false k)),ks[j]? with
  |some (_, .row l),some l'=>if Nat.beq l' l&&jT H l then l::Xl H ks tks r else Xl H ks tks r
  |_,_=>Xl H ks tks r
def oB (H:List (Nat×OB)) (l:Nat):Nat:=match Ad H l with
 |some (.Al _ _ rows _ _)=>rows.length
 |_=>0
def aa (H:List (Nat×OB)) (ls:List Nat) (n:Nat):List AV->Bool
 | []=>true
 | .at (.sub l i _)::r=>(!ls.contains l||(Nat.blt i n&&Nat.blt i (oB H l)))&&aa H ls n r
 |_::r=>aa H ls n r
def He (ls:List Nat):List AV->List AV->List AV
 | .at (.sub l i c)::r,v::vs=>(if ls.contains l then .at (.sub l i c) else v)::He ls r vs
 |_::r,v::vs=>v::He ls r vs
 |_,vs=>vs
def Ad9:Option OB->Option (Nat×Nat)
 |some (.Al _ _ _ _ kp)=>kp
 |_=>none
def OB.AL (b:OB) (kp:Option (Nat×Nat)):OB:=match b with
 | .Al e te rows out _=> .Al e te rows out kp
 |b=>b
def Zy (H0:List (Nat×OB)) (ls:List Nat) (n:Nat):List (Nat×OB)->List (Nat×OB)
 | []=> []
 |(l,b)::r=>(l,if ls.contains l then b.AL (Xm n (Ad9 (Ad H0 l))) else b)::Zy H0 ls n r
def iK (Ye st:St) (ls:List Nat) (n:Nat):St:=match ls with
 | []=>st
 |_=> {tmps:=He ls Ye.tmps st.tmps,heap:=Zy Ye.heap ls n st.heap}
def YN (s:MSpec) (d:Nat) (as:List AC):Option AV:=match s.rp with
 |none=>Aif s.Cs s.Di as
 |some _=>some (.at (.Du (Ob d) 0))
def iq (st st1:St) (d:Nat) (s:MSpec) (pl:List Nat) (tks:List (Nat×Loc)) (r:CKs.den s.outs):St:=
 let ks:=Nb s tks d
 let key:=Bz ks
 let st2:=nZ s.ins (Xq key 0 s.outs r) pl (st1.Ys (jv tks++ks++(if s.flat then [] else xG tks)) (whole tks))
 {st2 with heap:=Ss (IY st (jv tks)) key 0 s.outs r (ze st2.heap (Ob d) (s.rp.map λtid=> .var tid ((Xq key 0 s.outs r).drop s.Vn)))}
def Si (st:St) (dst:Option Nat) (s:MSpec) (args:List AV):Option (AV×St):=
 match KD st s args with
 |none=>none
 |some (pl,vs,rest)=>match ungroup s.Eh rest with
 |none=>none
 |some l4=>match cc st 0 s.ins (vs++l4) with
  |none=>none
  |some (x,tks)=>if Vc (tks.map λt=>t.2.Rn)&&wv (Nb s tks (dst.getD 0)) (s.outs.length+(iW s (dst.getD 0)).length)&&Nat.blt s.outs.length 1000&&Nat.blt s.ins.length 1000&&(Qv s.ins vs&&pl.all λl=>!((tks.map λt=>t.2.Rn)++Nb s tks (dst.getD 0)).contains l) then match s.fn x with
   |none=>none
   |some (r,o)=>match Ef s.ins o (vs++l4) st with
    |none=>none
    |some st1=>match YN s (dst.getD 0) ((Xq (Bz (Nb s tks (dst.getD 0))) 0 s.outs r).drop s.Vn) with
     |none=>none
     |some v=>if aa (iq st st1 (dst.getD 0) s pl tks r).heap (Xl st.heap (Nb s tks (dst.getD 0)) tks s.keeps) (s.Cn x) st.tmps=true then
       some (v,iK st (iq st st1 (dst.getD 0) s pl tks r) (Xl st.heap (Nb s tks (dst.getD 0)) tks s.keeps) (s.Cn x)) else none
   else none
def Ke:List Operand->St->Option St
 | [],st=>some st
 |x::r,st=>match settle st (st.ev x) with
  |some (_,st')=>Ke r st'
  |none=>none
def bK (s:Spec) (args:List AV):Bool:=!(s.fresh||s.res.flat||args.all (·.settled))
def evalOp (Γ:Env) (st:St) (o:Oper):Option (AV×St):=
 match o.op with
 | .assign x=>match st.ev x,o.dst,(T.elem o.type).bind λte=>(T.ty te).map λe=>(te,e) with
  | .at .Hr,some d,some (te,e)=>if d<Am then some (.at (.own d 0 0),st.new d (.arr (T.pC||e.flat) T.xB e te [])) else none
  |v,_,_=>some (v,st)
 | .alloc t=>match o.dst,T.ty t with
  |some d,some τ=>mkVar T st d t τ (zeroCells τ)
  |_,_=>none
 | .box t x=>match o.dst,T.ty t with
  |some d,some τ=>match cellsOf τ (st.ev x) with
   |some cs=>mkVar T st d t τ cs
   |none=>none
  |_,_=>none
 | .store t p x=>(Ku T st t (st.ev p) (st.ev x)).map λs=>(.undef,s)
 | .makeSlice t l c=>match o.dst with
  |some d=>Sk T st d t (st.ev l) (st.ev c)
  |none=>none
 | .makeMap t none=>match o.dst with
  |some d=>Pp T st d t
  |none=>none
 | .mapUpdate t m k x=>(Ex T st t (st.ev m) (st.ev k) (st.ev x)).map λs=>(.undef,s)
 | .insert t m k x=>(Ex T st t (st.ev m) (st.ev k) (st.ev x)).map λs=>(.undef,s)
 | .buildSlice t len parts=>match o.dst with
  |some d=>Eu T st d t len parts
  |none=>none
 | .build t parts=>(Sh T st t parts).map λv=>(v,st)
 | .call {callee:= .builtin .append,args,argTypes} =>match o.dst,args.toList,argTypes.toList with
  |some d,[x,y],[t,t']=>if t=t' then Mi T st d t x y else none
  |_,_,_=>none
 | .call {callee:= .builtin .copy,args,argTypes} =>match args.toList,argTypes.toList with
  | [x,y],[t,t']=>dv T st t t' (st.ev x) (st.ev y)
  |_,_=>none
 | .call {callee:= .builtin .clear,args,argTypes} =>match args.toList,argTypes.toList with
  | [x],[t]=>(evalClear T st t (st.ev x)).map λs=>(.undef,s)
  |_,_=>none
 | .call {callee:= .value (.func f),args, .. } =>match Γ f with
  |some (.m s)=>Si st o.dst s (args.toList.map st.ev)
  |some (.q s)=>if bK s (args.toList.map st.ev) then (match Ke args.toList st with
   |some st1=>(Cm T Γ st1 o).map λv=>(v,st1)
   |none=>none) else (Cm T Γ st o).map λv=>(v,st)
  |_=>(Cm T Γ st o).map λv=>(v,st)
 |_=>(Cm T Γ st o).map λv=>(v,st)
def bN (e:Ty):Nat->List (Nat×Operand)->St->Option (Bool×List e.den)
 |_,[],_=>some (true,[])
 |i,(j,x)::r,st=>
  if i=j/\(st.ev x).settled=true then match Cv st e (st.ev x),bN e (i+1) r st with
   |some (fr,y),some (Qs,ys)=>some (fr&&Qs,y::ys)
   |_,_=>none
  else none
def Xc (st:St) (t:TypeId) (len:Nat) (parts:Array (Nat×Operand)):Option AV:=
 match T.elem t with
 |none=>none
 |some te=>match T.ty te with
  |none=>none
  |some e=>if parts.size=len/\len<=64/\e.size<=64 then (bN e 0 parts.toList st).map λp=> .at (.data p.1 (.slice e) p.2) else none
def Ru (Γ:Env) (st:St) (o:Oper):Option AV:=
 match o.op with
 | .buildSlice t len parts=>Xc T st t len parts
 | .build t parts=>Sh T st t parts
 |_=>Cm T Γ st o
def SW (q:Bool) (Γ:Env) (o:Oper):Bool:=
 match o.op with
 | .buildSlice _ _ _| .build _ _=>!q
 | .alloc _| .box _ _| .store _ _ _| .makeSlice _ _ _| .makeMap _ _| .mapUpdate _ _ _ _| .insert _ _ _ _=>true
 | .assign (.const _)=>true
 | .call {callee:= .builtin .append, .. } =>true
 | .call {callee:= .builtin .copy, .. } =>true
 | .call {callee:= .builtin .clear, .. } =>true
 | .call {callee:= .value (.func f), .. } =>match Γ f with
  |some (.m _)=>true
  |_=>false
 |_=>false
def Ch (Γ:Env) (ops:Array Oper) (st:St) (o:Oper):Option St:=
 match o.guard with
 |none=>(evalOp T Γ st o).map λr=>r.2.put o.dst r.1
 |some (j,want)=>match Sa st ((ops[j]?).bind (·.dst)) with
  |some (some b)=>if b==want then (evalOp T Γ st o).map λr=>r.2.put o.dst r.1 else some (st.put o.dst (.at .skip))
  |some none=>some (st.put o.dst (.at .skip))
  |none=>none
def Vv (Γ:Env) (ops:Array Oper):List Oper->St->Option St
 | [],st=>some st
 |o::r,st=>match Ch T Γ ops st o with
  |some st'=>Vv Γ ops r st'
  |none=>none
def Fg (q:Bool) (Γ:Env) (ops:Array Oper):List Nat:=
 (List.range ops.size).foldl (init:= []) λacc i=>match ops[i]? with
  |some o=>if SW q Γ o||o.after.any (λe=>Region.binds .any e&&acc.contains e.on) then acc++ [i] else acc
  |none=>acc
def Yv (q:Bool) (Γ:Env) (ops:Array Oper):List Nat:=(List.range ops.size).filter λi=>!(Fg q Γ ops).contains i
def jS (ops:Array Oper) (hd tl:List Nat) (i:Nat):Bool:=
 match ops[i]? with
 |some o=>(match o.op,o.guard with
  | .move (.tmp _),none=>true
  |_,_=>false)&&!((tl.take 1++hd).any λj=>decide (i<j)&&Region.waitsFor .any ops j i)
 |none=>false
def Qr (q:Bool) (Γ:Env) (ops:Array Oper):List Nat:=(Yv q Γ ops).filter λi=>jS ops (Yv q Γ ops) (Fg q Γ ops) i
def Qt (q:Bool) (Γ:Env) (ops:Array Oper):List Nat:=(Yv q Γ ops).filter λi=>!jS ops (Yv q Γ ops) (Fg q Γ ops) i
def fh (q:Bool) (Γ:Env) (ops:Array Oper):List Nat:=Qr q Γ ops++Qt q Γ ops
def SK (ops:Array Oper) (i:Nat):Bool:=match ops[i]? with
 |some o=>(match o.op,o.guard with
  | .extract _ _,none=>true
  |_,_=>false)
 |none=>false
def kA (ops:Array Oper):List Nat->Array Bool->Bool
 | [],Aa=>(Region.ready .any ops Aa).isEmpty
 |k::r,Aa=>(decide (Region.ready .any ops Aa= [k])||(SK ops k&&((Region.ready .any ops Aa).contains k&&Region.free .any ops Aa k)))&&kA ops r (Aa.setIfInBounds k true)
def lE (ops:Array Oper) (tl:List Nat):List Nat->Array Bool->Bool
 | [],Aa=>kA ops tl Aa
 |k::r,Aa=>(Region.ready .any ops Aa).contains k&&Region.free .any ops Aa k&&lE ops tl r (Aa.setIfInBounds k true)
def qR (ops:Array Oper) (hd:List Nat):List Nat->Bool
 | []=>true
 |f::r=>(hd.all λi=>(f::hd).any λj=>decide (i<j)&&Region.waitsFor .any ops j i)&&r.all λt=>(f::r).any λk=>Region.waitsFor .any ops t k
def jG (ops:Array Oper) (tl hd:List Nat):List Nat->Array Bool->Bool
 | [],Aa=>lE ops tl hd Aa
 |k::r,Aa=>(Region.ready .any ops Aa).contains k&&Region.free .any ops Aa k&&jG ops tl hd r (Aa.setIfInBounds k true)
def fE (q:Bool) (Γ:Env) (ops:Array Oper):Bool:=
 Region.noSelect ops&&((Qr q Γ ops).length+((Qt q Γ ops).length+(Fg q Γ ops).length)==ops.size)&&jG ops (Fg q Γ ops) (Qt q Γ ops) (Qr q Γ ops) (Array.replicate ops.size false)&&qR ops (Qt q Γ ops) (Fg q Γ ops)
def Rr (Γ:Env) (ops:Array Oper) (st:St) (o:Oper):Option AV:=
 match o.guard with
 |none=>Ru T Γ st o
 |some (j,want)=>match Sa st ((ops[j]?).bind (·.dst)) with
  |some (some b)=>if b==want then Ru T Γ st o else some (.at .skip)
  |some none=>some (.at .skip)
  |none=>none
def Cw (Γ:Env) (ops:Array Oper):List Nat->St->Option St
 | [],st=>some st
 |i::r,st=>match ops[i]? with
  |none=>none
  |some o=>match Rr T Γ ops st o with
   |some v=>Cw Γ ops r (st.put o.dst v)
   |none=>none
def Ij (Γ:Env) (ops:Array Oper):List Nat->St->Option St
 | [],st=>some st
 |i::r,st=>match ops[i]? with
  |none=>none
  |some o=>match Ch T Γ ops st o with
   |some st'=>Ij Γ ops r st'
   |none=>none
def Mk (Γ:Env) (ops:Array Oper) (draw:Bool) (st:St):Option St:=
 if draw then (if fE false Γ ops then (match Cw T Γ ops (fh false Γ ops) st with
  |some st'=>Ij T Γ ops (Fg false Γ ops) st'
  |none=>none) else if fE true Γ ops then (match Cw T Γ ops (fh true Γ ops) st with
  |some st'=>Ij T Γ ops (Fg true Γ ops) st'
  |none=>none) else none)
 else Vv T Γ ops ops.toList st
def wj (ops:Array Oper) (i:Nat):Bool:=match ops[i]? with
 |some o=>(match o.op,o.guard with
  | .move (.tmp _),none=>true
  |_,_=>false)
 |none=>false
def fq (ops:Array Oper) (i:Nat):Bool:=match ops[i]? with
 |some o=>(match o.op,o.guard with
  | .move (.tmp _),none=>true
  | .nilCheck _,none=>true
  | .fieldAddr _ _ _,none=>true
  |_,_=>false)
 |none=>false
def Ain (q:Bool) (ops:Array Oper) (i:Nat):Bool:=match q with
 |true=>fq ops i
 |false=>wj ops i
def Fc (q:Bool) (ops:Array Oper):List Nat->Array Bool->List Nat
 | [],_=> []
 |i::r,Aa=>if Ain q ops i&&((Region.ready .any ops Aa).contains i&&Region.free .any ops Aa i) then i::Fc q ops r (Aa.setIfInBounds i true) else Fc q ops r Aa
def TC (q:Bool) (ops:Array Oper):List Nat:=Fc q ops (List.range ops.size) (Array.replicate ops.size false)
def fb (q:Bool) (ops:Array Oper):Bool:=Nat.ble (ops.size-(TC q ops).length) 8
def Is (ops:Array Oper):List Nat:=TC (!fb false ops) ops
def Cq:List Nat->Array Bool->Array Bool
 | [],Aa=>Aa
 |i::r,Aa=>Cq r (Aa.setIfInBounds i true)
def anyS (Γ:Env) (ops:Array Oper) (K:St->Prop):Nat->Array Bool->St->Prop
 |0,Aa,st=>Region.ready .any ops Aa= []/\K st
 |f+1,Aa,st=>Region.ready .any ops Aa≠ []/\ ∀i∈Region.ready .any ops Aa,∃o st',ops[i]?=some o/\Ch T Γ ops st o=some st'/\anyS Γ ops K f (Aa.setIfInBounds i true) st'
def fu (ops:Array Oper) (i:Nat):Bool:=match ops[i]? with
 |some o=>(match o.op,o.guard with
  | .move _,none=>true
  | .load _ _,none=>true
  | .indexAddr _ _ _,none=>true
  | .fieldAddr _ _ _,none=>true
  |_,_=>false)
 |none=>false
def lW (ops:Array Oper):List Nat->Array Bool->List Nat
 | [],_=> []
 |i::r,Aa=>if fu ops i&&((Region.ready .any ops Aa).contains i&&Region.free .any ops Aa i) then i::lW ops r (Aa.setIfInBounds i true) else lW ops r Aa
def mA (ops:Array Oper) (i j:Nat) (p:Oper->Oper->Bool):Bool:=match ops[i]?,ops[j]? with
 |some x,some y=>p x y
 |_,_=>false
def kW (ops:Array Oper) (x y:Oper):Bool:=match x.dst with
 |some d=>!(y.looksAt ops).contains d
 |none=>true
def DK (x y:Oper):Bool:=match x.dst with
 |some d=>y.dst !=some d
 |none=>true
def ef (ops:Array Oper):List Nat->Array Bool->Bool
 | [],_=>true
 |r::E,Aa=>(Region.ready .any ops Aa).contains r&&ef ops E (Aa.setIfInBounds r true)
def wQ (ops:Array Oper):List Nat->Bool
 | []=>true
 |r::E=>(mA ops r r (kW ops)&&E.all λq=>mA ops r q (λx y=>DK x y&&kW ops y x)&&(Region.waitsFor .any ops q r||mA ops r q (kW ops)))&&wQ ops E
def WQ (ops:Array Oper) (E:List Nat) (L0:Array Bool):Bool:=E.all λr=>(List.range ops.size).all λj=>E.contains j||L0.getD j false||Region.waitsFor .any ops j r||mA ops r j (λx y=>x.apart ops y)
def fG (ops:Array Oper) (E:List Nat) (L0:Array Bool):Bool:=(E.all (fu ops)&&ef ops E L0)&&(wQ ops E&&WQ ops E L0)
def oN (ops:Array Oper) (E:List Nat) (Aa:Array Bool) (r:Nat):Bool:=(List.range ops.size).any λj=>!E.contains j&&(Aa.getD j false&&Region.waitsFor .any ops j r)
def UH (Γ:Env) (ops:Array Oper) (E:List Nat) (Aa:Array Bool) (st:St):Prop:=
 ∀r∈E,oN ops E Aa r=true\/ ∃o v,ops[r]?=some o/\Rr T Γ ops st o=some v/\ ∀d,o.dst=some d->st.get d=v
def rW (Γ:Env) (ops:Array Oper) (E:List Nat) (K:St->Prop):Nat->Array Bool->St->Prop
 |0,Aa,st=>UH T Γ ops E Aa st/\Region.ready .any ops Aa= []/\K st
 |f+1,Aa,st=>UH T Γ ops E Aa st/\Region.ready .any ops Aa≠ []/\ ∀i∈Region.ready .any ops Aa,∃o st',ops[i]?=some o/\Ch T Γ ops st o=some st'/\rW Γ ops E K f (Aa.setIfInBounds i true) st'
def Abf (Γ:Env) (ops:Array Oper) (K:St->Prop) (n:Nat) (L0:Array Bool) (Ye:St):Prop:=
 ∃E st1,fG ops E L0=true/\E.length<=n/\Cw T Γ ops E Ye=some st1/\rW T Γ ops E K (n-E.length) (Cq E L0) st1
def vr (Γ:Env) (ops:Array Oper) (draw:Bool) (st:St) (K:St->Prop):Prop:=
 (∃st',Mk T Γ ops draw st=some st'/\K st')\/
 (draw=true/\Region.noSelect ops=true/\ ∃Ye,Cw T Γ ops (Is ops) st=some Ye/\
  (anyS T Γ ops K (ops.size-(Is ops).length) (Cq (Is ops) (Array.replicate ops.size false)) Ye\/Abf T Γ ops K (ops.size-(Is ops).length) (Cq (Is ops) (Array.replicate ops.size false)) Ye))
def wY (Γ:Env) (draw:Bool):Env:= λf=>match Γ f with
 |some (.b s m)=>some (if draw then .q s else .m m)
 |r=>r
inductive Ha where
 |normal
 |exit (id:Nat)
 |ret
def Ga (live:List Nat):Nat->List AV->List AV
 |_,[]=> []
 |i,v::r=>(if live.contains i then v else .undef)::Ga live (i+1) r
def AV.refs:AV->List Nat
 | .at a=>a.refs
 | .agg cs=>cs.flatMap AC.refs
 | .Wv _ _ _=> []
 | .Ih l=>l.flatMap λp=>p.2.flatMap AC.refs
def OB.refs:OB->List Nat
 | .var _ vs=>vs.flatMap AC.refs
 |_=> []
def aA:List Nat->St->St
 | [],st=>st
 |l::r,st=>aA r (st.forget l)
def lY (l k m:Nat):Nat:=if m=l then k else m
def Pz (l k:Nat):AC->AC
 | .own m off len=> .own (lY l k m) off len
 | .Du m i=> .Du (lY l k m) i
 | .Fw m i=> .Fw (lY l k m) i
 | .clo f Ca=> .clo f (Ca.map λp=>(lY l k p.1,p.2))
 | .Gd m=> .Gd (lY l k m)
 | .sub m i c=> .sub (lY l k m) i c
 | .Ft m i c=> .Ft (lY l k m) i c
 |a=>a
def St.rename (l k:Nat) (st:St):St:=
 match Ad st.heap k,Ad st.heap l with
 |none,some b=>if (Nat.blt l Am&&Nat.blt k Am)=true then
   (let s:=st.Gl (Pz l k); {s with heap:=Jr (Vk s.heap l) k (b.map (Pz l k))}) else st
 |_,_=>st
def Ib:Nat->Nat->St->St
 |0,_,st=>st
 |n+1,t,st=>Ib n (t+1) (match st.get t with
  | .at (.own l _ _)=>match Ad st.heap l with
   |some (.arr _ _ _ _ _)=>if (st.tmps.take t).any (λv=>v.refs.contains l) then st else st.rename l (700000+t)
   |_=>st
  |_=>st)
def Zc:Nat:=1000000007
def AC.Ab8 (flat:Bool):AC->AC
 | .data fr τ x=> .data (fr&&!(flat&&τ.flat)) τ x
 |c=>c
def OB.En (flat all one:Bool):OB->OB
 | .arr fr tr e tid xs=> .arr (fr&&!(all||(one||(flat&&e.flat)))) (tr&&!all) e tid xs
 | .var tid vs=> .var tid (vs.map (AC.Ab8 flat))
 |b=>b
def Oj:Nat:=1000000009
def Ut:Nat:=1100000000
def rP:Nat:=1200000000
def St.En (live:List Nat) (st:St):St:= {st with heap:=st.heap.map λp=>(p.1,p.2.En (live.contains Oj) (live.contains (Ut+p.1)) (live.contains (rP+p.1)))}
def Mu:Nat:=900000000
def Xr (t:Nat) (st:St):St:=match st.get t with
 | .at (.own l off len)=>match Ad st.heap l with
  |some (.arr fr tr e tid xs)=>if Nat.blt l Am=true then (st.new l (.arr fr tr e tid ((xs.drop off).take len))).put (some t) (.at (.own l 0 ((xs.drop off).take len).length)) else st
  |_=>st
 |_=>st
def Kg:Nat:=1900000000
def jr:Nat:=950000000
def La (c:Nat) (st:St):St:=match Ad st.heap Kg with
 |some (.var _ vs)=>match vs[c]? with
  |some (.own l off len)=>match Ad st.heap l with
   |some (.arr fr tr e te xs)=>if Nat.blt l Am=true then match Ad (st.new l (.arr fr tr e te ((xs.drop off).take len))).heap Kg with
     |some (.var tid vs')=>(st.new l (.arr fr tr e te ((xs.drop off).take len))).Fq Kg (.var tid (vs'.set c (.own l 0 ((xs.drop off).take len).length)))
     |_=>st
    else st
   |_=>st
  |_=>st
 |_=>st
def Kr (live:List Nat):Nat->Nat->St->St
 |0,_,st=>st
 |n+1,c,st=>Kr live n (c+1) (if live.contains (jr+c) then La c st else st)
def Kd (live:List Nat):Nat->Nat->St->St
 |0,_,st=>Kr live 16 0 st
 |n+1,t,st=>Kd live n (t+1) (if live.contains (Mu+t) then Xr t st else st)
def St.clean (live:List Nat) (st:St):St:=
 let s:St:= {st with tmps:=Ga live 0 st.tmps}
 let r1:=s.tmps.flatMap AV.refs
 let r2:=r1++(s.heap.filter λp=>r1.contains p.1).flatMap λp=>p.2.refs
 let s2:=aA ((s.heap.map (·.1)).filter λl=>!r2.contains l&&Nat.blt l Am) s
 let s2:=if live.any (λt=>Nat.ble Mu t&&Nat.blt t Zc) then Kd live s2.tmps.length 0 s2 else s2
 let s3:=if live.contains Zc then Ib s2.tmps.length 0 s2 else s2
 if live.any (λt=>Nat.ble Oj t) then s3.En live else s3
def Ci:Code->Nat
 | .region id _ _=>id
 | .seq a _=>Ci a
 | .cond _ a _=>Ci a
 | .block _ c=>Ci c
 | .loop c=>1000+Ci c
 |_=>0
def Abd (a b:List Nat):List Nat:=a++b.filter λt=>!a.contains t
def wB:List Oper->List Nat->List Nat
 | [],out=>out
 |o::r,out=>Abd (o.op.operands.toList.filterMap λ | .tmp t=>some t|_=>none) (match o.dst with|some d=>(wB r out).filter (·!=d)|none=>wB r out)
def DM:List (Nat×List Nat)->Nat->List Nat
 | [],_=> []
 |(k,l)::r,id=>if k=id then l else DM r id
def mZ:Code->List (Nat×List Nat)->List Nat->List Nat->List Nat×List (Nat×List Nat)
 | .region _ ops _,_,_,out=>(wB ops.toList out,[])
 | .seq a b,env,ret,out=>let rb:=mZ b env ret out;let ra:=mZ a env ret rb.1;(ra.1,ra.2++rb.2)
 | .cond c a b,env,ret,out=>let ra:=mZ a env ret out;let rb:=mZ b env ret out
  (Abd (match c with| .tmp t=> [t]|_=> []) (Abd ra.1 rb.1),ra.2++rb.2)
 | .block id c,env,ret,out=>mZ c ((id,out)::env) ret out
 | .exit id,env,_,_=>(DM env id,[])
 | .ret,_,ret,_=>(ret,[])
 | .loop c,env,ret,_=>let l:=(mZ c env ret []).1;let r:=mZ c env ret l;(l,(Ci c,l)::r.2)
 |_,_,_,out=>(out,[])
def wC:List ResultVar->List Nat
 | []=> []
 | .tmp t::r=>t::wC r
 | .cell p _::r=>p::wC r
def wA (marks:List Nat) (fn:Func) (c:Code):Nat->List Nat:=let ret:=wC fn.results.toList;let g:=DM (mZ c [] ret ret).2;match marks with
 | []=>g
 |m=> λid=>g id++m
def FF (K:St->Prop) (Q:Ha->St->Prop):Ha->St->Prop
 | .normal,s=>K s
 |e,s=>Q e s
def uf (id:Nat) (Q:Ha->St->Prop):Ha->St->Prop
 | .exit LY,s=>if LY=id then Q .normal s else Q (.exit LY) s
 |e,s=>Q e s
def TY (ops:Array Oper) (t:Nat):Bool:=ops.toList.any λo=>match o.op with
 | .extract (.tmp s) _=>Nat.beq s t
 | .move (.tmp s)=>Nat.beq s t
 | .assign (.tmp s)=>Nat.beq s t
 |_=>false
def Jz (ops:Array Oper):Nat->List AV->List AV
 |_,[]=> []
 |i, .Ih l::r=>(if TY ops i=true then .Ih l else .undef)::Jz ops (i+1) r
 |i,v::r=>v::Jz ops (i+1) r
def St.ju (ops:Array Oper) (st:St):St:= {st with tmps:=Jz ops 0 st.tmps}
inductive Jq (Γ:Env) (live:Nat->List Nat):Code->St->(Ha->St->Prop)->Prop where
 |skip {st:St} {Q:Ha->St->Prop} :Q .normal st->Jq Γ live .skip st Q
 |label {l:Nat} {st:St} {Q:Ha->St->Prop} :Q .normal st->Jq Γ live (.label l) st Q
 |exit {id:Nat} {st:St} {Q:Ha->St->Prop} :Q (.exit id) st->Jq Γ live (.exit id) st Q
 |ret {st:St} {Q:Ha->St->Prop} :Q .ret st->Jq Γ live .ret st Q
 |region {id:Nat} {ops:Array Oper} {draw:Bool} {st:St} {Q:Ha->St->Prop} :vr T (wY Γ draw) ops draw (st.ju ops) (Q .normal)->Jq Γ live (.region id ops draw) st Q
 |seq {x y:Code} {st:St} {Q:Ha->St->Prop} (Q1:Ha->St->Prop):Jq Γ live x st Q1->(∀s,Q1 .normal s->Jq Γ live y s Q)->(∀e s,e≠ .normal->Q1 e s->Q e s)->Jq Γ live (.seq x y) st Q
 |cond {c:Operand} {x y:Code} {st:St} {fr t:Bool} {Q:Ha->St->Prop} :st.ev c= .at (.data fr .bool t)->(t=true->Jq Γ live x st Q)->(t=false->Jq Γ live y st Q)->Jq Γ live (.cond c x y) st Q
 |block {id:Nat} {c:Code} {st:St} {Q:Ha->St->Prop} (Q1:Ha->St->Prop):Jq Γ live c st Q1->(∀e s,Q1 e s->uf id Q e s)->Jq Γ live (.block id c) st Q
 |loop {c:Code} {st:St} {Q:Ha->St->Prop} (Q1:Ha->St->Prop):Jq Γ live c (st.clean (live (Ci c))) Q1->(∀s,Q1 .normal s->Jq Γ live (.loop c) s Q)->(∀e s,e≠ .normal->Q1 e s->Q e s)->Jq Γ live (.loop c) st Q
def a8 (st:St):List ResultVar->Option (List AV)
 | []=>some []
 | .tmp t::r=>(a8 st r).map λl=>st.get t::l
 | .cell p t::r=>match Le T st t (st.get p),a8 st r with
  |some v,some l=>some (v::l)
  |_,_=>none
def jE (s:Spec) (fn:Func) (st:St):Option (Bool×s.res.den):=
 match a8 T st fn.results.toList with
 |some [v]=>if s.Cs then none else Cv st s.res v
 |some [v,u]=>if s.Cs then Bt st s.res [v,u] else none
 |some [v,u,t]=>if s.Cs then Bt st s.res [v,u,t] else none
 |_=>none
def Np:(τ:Ty)->τ.den->List AV
 | .pair a r,x=> .at (.data a.flat a x.1)::Np r x.2
 |_,_=> []
def gg (st:St):(c:CK)->AC->Option (c.den×List Nat)
 | .Dn τ,a=>if τ.flat||a.settled then (Bp st τ a).map λp=>(p.2,[]) else none
 | .row e te, .own l off len=>match st.at l with
  |some (.arr _ _ e' Mc xs)=>if h:e'=e/\Mc=te then some ((((h.1▸xs:List e.den).drop off).take len),[l]) else none
  |_=>none
 | .row _ _, .Hr=>some ([],[])
 | .Dv e te, .own l off len=>match st.at l with
  |some (.arr _ tr e' Mc xs)=>if h:e'=e/\Mc=te/\(tr||e.flat)=true then some ((((h.1▸xs:List e.den).drop off).take len),[l]) else none
  |some (.Dg e' Mc xs)=>if h:e'=e/\Mc=te then some ((((h.1▸xs:List e.den).drop off).take len),[l]) else none
  |_=>none
 | .Dv _ _, .Hr=>some ([],[])
 | .Al e te _, .own l off len=>match st.at l with
  |some (.Al e' Mc rows none _)=>if h:e'=e/\Mc=te/\off=0/\len=rows.length then some ((h.1▸rows:List (List e.den)),[l]) else none
  |_=>none
 |_,_=>none
def Py (st:St):(cs:List CK)->List AC->Option (CKs.den cs×List Nat)
 | [],[]=>some ((),[])
 |c::r,a::as=>match gg st c a,Py st r as with
  |some (x,t1),some (y,t2)=>some ((x,y),t1++t2)
  |_,_=>none
 |_,_=>none
def mF (st:St) (l:Nat):(c:CK)->Option c.den
 | .Dn _=>none
 | .row e te=>match st.at l with
  |some (.arr _ _ e' Mc xs)=>if h:e'=e/\Mc=te then some (h.1▸xs) else none
  |_=>none
 | .Dv e te=>match st.at l with
  |some (.Dg e' Mc xs)=>if h:e'=e/\Mc=te then some (h.1▸xs) else none
  |_=>none
 | .part _ _=>none
 | .Al _ _ _=>none
def Jx (st:St):(k:Nat)->(cs:List (Bool×CK))->Option (IOs.den cs)
 |_,[]=>some ()
 |k,(true, .Dn _)::r=>Jx st (k+1) r
 |k,(true, .Al _ _ _)::r=>Jx st (k+1) r
 |k,(true, .row e te)::r=>match mF st (Bu true k) (.row e te),Jx st (k+1) r with
  |some x,some y=>some (x,y)
  |_,_=>none
 |k,(true, .Dv e te)::r=>match mF st (Bu true k) (.Dv e te),Jx st (k+1) r with
  |some x,some y=>some (x,y)
  |_,_=>none
 |k,(true, .part e te)::r=>match mF st (Bu true k) (.row e te),Jx st (k+1) r with
  |some x,some y=>some (x,y)
  |_,_=>none
 |k,(false,_)::r=>Jx st (k+1) r
def Ky:(k:Nat)->List (Bool×CK)->List Nat
 |_,[]=> []
 |k,(true, .Dn _)::r=>Ky (k+1) r
 |k,(true, .Al _ _ _)::r=>Ky (k+1) r
 |k,(true,_)::r=>Bu true k::Ky (k+1) r
 |k,(false,_)::r=>Ky (k+1) r
def Fb:(k:Nat)->List (Bool×CK)->List AC->Option (List AC)
 |_,_,[]=>some []
 |k,(true, .row _ _)::r, .own l _ _::as=>if Nat.beq l (Bu true k) then Fb (k+1) r as else none
 |k,(true, .Dv _ _)::r, .own l _ _::as=>if Nat.beq l (Bu true k) then Fb (k+1) r as else none
 |k,(false,_)::r,a::as=>(Fb (k+1) r as).map λl=>a::l
 |_,_,_=>none
def dP (st:St):List AC->List (Bool×CK)->Prop
 | .own l off len::as,(true,_)::r=>(off=0/\match st.at l with
  |some (.arr _ _ _ _ xs)=>len=xs.length
  |some (.Dg _ _ xs)=>len=xs.length
  |_=>False)/\dP st as r
 |_::as,(false,_)::r=>dP st as r
 |_,_=>True
def GH (s:MSpec) (st:St) (l:List AV):Option (List AC×List Nat):=match s.rp with
 |none=>if s.Cs=Nat.blt 1 l.length then (ungroup s.Di l).map λas=>(as,[]) else none
 |some tid=>match l with
  | [.at (.Du m i)]=>match st.at m with
   |some (.var Pn vs)=>if Pn=tid/\i=0/\Nat.blt m Am=true then some (vs,[m]) else none
   |_=>none
  |_=>none
def uk (st:St) (n:Nat) (as:List AC):List (Nat×Nat)->Prop
 | []=>True
 |(k,j)::r=>(match as[j]? with
  |some (.own l _ _)=>match st.at l with
   |some (.Al _ _ _ _ (some p))=>p.1=Bu false k/\n<=p.2/\Nat.blt k 1000=true
   |_=>False
  |_=>False)/\uk st n as r
def fI (s:MSpec) (fn:Func) (x:Ins.den s.ins) (st:St) (cs:List AC) (P:CKs.den s.outs×IOs.den s.ins->Prop):Prop:=
 match a8 T st fn.results.toList with
 |none=>False
 |some l=>match GH s st l with
  |none=>False
  |some (as,ml)=>match Py st s.outs (cs++as),Jx st 0 s.ins with
   |some (r,ls),some o=>(Vc (ml++ls++Ky 0 s.ins)&&Nat.blt s.ins.length 1000&&Nat.blt s.outs.length 1000&&s.TB)=true/\uk st (s.Cn x) (cs++as) s.keeps/\P (r,o)
   |_,_=>False
def PS (s:MSpec) (fn:Func) (x:Ins.den s.ins) (st:St) (P:CKs.den s.outs×IOs.den s.ins->Prop):Prop:=
 match s.ptr with
 |none=>fI T s fn x st [] P
 |some p=> ∃vs cs,st.at Kg=some (.var p.1 vs)/\vs.length=p.2/\Fb 0 s.ins vs=some cs/\dP st vs s.ins/\fI T s fn x st cs P
def Vm (s:MSpec) (as:List AC):List AV:=match s.ptr with
 |none=>Ns s.Eh as
 |some p=> .at (.Du Kg 0)::Ns s.Eh (as.drop p.2)
def mW (s:MSpec) (x:Ins.den s.ins):List (Nat×OB):=match s.ptr with
 |none=>Uh 0 s.ins x
 |some p=>Uh 0 s.ins x++ [(Kg, .var p.1 ((Xj 0 s.ins x).take p.2))]
def Ul:List (Bool×CK)->Bool
 | []=>true
 |(true, .Al _ _ _)::_=>false
 |_::r=>Ul r
def wT (s:MSpec):Bool:=Ul s.ins&&match s.ptr with
 |none=>true
 |some p=>Nat.ble p.2 s.ins.length
def ZJ (Γ:Env) (s:MSpec) (fn:Func) (x:Ins.den s.ins) (P:CKs.den s.outs×IOs.den s.ins->Prop):Prop:=
 (Nat.blt s.ins.length 1000&&wT s)=true/\ ∃c,fn.body=some c/\Jq T Γ (wA T.marks fn c) c {tmps:=Vm s (Xj 0 s.ins x)++List.replicate (fn.ntmps-(Vm s (Xj 0 s.ins x)).length) .undef,heap:=mW s x}
  (λe st=>(∀id,e≠ .exit id)/\PS T s fn x st P)
def PT (Γ:Env) (s:Spec) (fn:Func) (x:s.arg.den) (P:s.res.den->Prop):Prop:=
 ∃c,fn.body=some c/\Jq T Γ (wA T.marks fn c) c {tmps:=Np s.arg x++List.replicate (fn.ntmps-(Np s.arg x).length) .undef,heap:= []}
  (λe st=>(∀id,e≠ .exit id)/\ ∃fr y,jE T s fn st=some (fr,y)/\(fr||!s.fresh)=true/\P y)
end Go.Proofs.YtfolipnappekaaaGreat
