/-
  Part 3 of the proof that the statement FnCommutatorMacros holds.
-/
import Derived.Test.YtfgfigkbgecfnaaCFCommutatorMacros01
namespace Go.Proofs.Ytfgfigkbgecfnaa
open Go.RowKit
def Ff:Nat->St->List AC->Option (List AC×St)
 |0,st,cs=>if cs.all (·.settled) then some (cs,st) else none
 |n+1,st,cs=>
  match cs.find? (λc=>!c.settled) with
  |none=>some (cs,st)
  |some (.own l _ _)=>match st.at l with
   |some (.arr fr _ e _ xs)=>Ff n (st.freeze l fr e xs) (cs.map (Ca l fr e xs))
   |some (.Ev e _ xs)=>Ff n (st.freeze l false e xs) (cs.map (Ca l false e xs))
   |_=>none
  |some (.Hv l)=>match st.at l with
   |some (.Qy v m)=>Ff n (st.Gf l v m) (cs.map (Ey l v m))
   |_=>none
  |some _=>none
def settle (st:St):AV->Option (AV×St)
 | .at (.own l off len)=>match st.at l with
  |some (.arr fr _ e _ xs)=>some (.at (.data fr (.slice e) ((xs.drop off).take len)),st.freeze l fr e xs)
  |some (.Ev e _ xs)=>some (.at (.data false (.slice e) ((xs.drop off).take len)),st.freeze l false e xs)
  |_=>none
 | .at (.Hv l)=>match st.at l with
  |some (.Qy v m)=>some (.at (.data false (.smap v) m),st.Gf l v m)
  |_=>none
 | .at a=>if a.settled then some (.at a,st) else none
 | .agg cs=>(Ff cs.length st cs).map λp=>(.agg p.1,p.2)
 | .Wh fr τ x=>some (.Wh fr τ x,st)
 | .Jy _=>none
def AC.refs:AC->List Nat
 | .own l _ _| .Ez l _| .Hj l _| .Hv l| .sub l _ _| .Hf l _ _=> [l]
 | .clo _ Cx=>Cx.map (·.1)
 |_=> []
def Uv:List Nat->Bool
 | []=>true
 |a::r=>!r.contains a&&Uv r
def Ty.tree:Ty->Bool
 | .int _| .bool| .str| .unit=>true
 | .slice e=>e.tree
 | .pair a r=>a.tree&&r.tree
 |_=>false
def Od (st:St):AC->Bool
 | .data _ τ _=>τ.flat
 | .Jf=>true
 | .own l _ _=>match st.at l with
  |some (.arr _ tr e _ _)=>tr||e.flat
  |some (.Ev _ _ _)=>true
  |_=>false
 |_=>false
def Ph (st:St):AV->Bool
 | .at a=>Od st a
 | .agg cs=>cs.all (Od st)&&Uv (cs.flatMap AC.refs)
 |_=>false
def Az:Nat:=1000000000
variable (T:Tab)
def xm (t:TypeId) (τ:Ty) (i:Nat):Option TypeId:=
 if τ.Ak then (List.range 24).findSome? λf=>match T.off t f with
  |some (o,u)=>if o=i then some u else none
  |none=>none
 else some t
def Tab.xt (te:TypeId):Option Ty:=if T.OJ.contains te then (match T.ty te with
 |some (.slice e)=>some e
 |_=>none) else none
def Zx (te:TypeId) (e:Ty):OB:=match T.xt te with
 |some e'=> .Bc e' te [] none none
 |none=> .arr (T.nO||e.flat) T.uF e te []
def Qf (b:OB) (key l i:Nat) (st:St):St:=
 match st.at l with
 |some (.var _ vs)=>match vs[i]? with
  |some .Jf=>
   let s1:=st.new key b
   match s1.at l with
   |some (.var tid vs')=>s1.He l (.var tid (Oo vs' i (.own key 0 0)))
   |_=>s1
  |_=>st
 |_=>st
def br (l:Nat) (t:TypeId) (τ:Ty):Nat->Nat->St->St
 |0,_,st=>st
 |n+1,i,st=>
  br l t τ n (i+1) (match ((xm T t τ i).bind T.elem).bind λte=>(T.ty te).map λe=>(te,e) with
   |some (te,e)=>Qf (Zx T te e) (100000+l*100+i) l i st
   |none=>st)
def ay (l off:Nat) (t:TypeId) (τ:Ty):Nat->Nat->St->St
 |0,_,st=>st
 |n+1,i,st=>
  ay l off t τ n (i+1) (match ((xm T t τ i).bind T.elem).bind λte=>(T.ty te).map λe=>(te,e) with
   |some (te,e)=>Qf (Zx T te e) (100000+l*100+(off+i)) l (off+i) st
   |none=>st)
def zeroCells:(τ:Ty)->List AC
 | .unit=> []
 | .pair a r=>zeroCells a++zeroCells r
 | .slice _=> [.Jf]
 | .oslice _=> [.Jf]
 | .ptr _=> [.Qx]
 | .optr _=> [.Qx]
 | .clo _ _=> [.undef]
 |τ=> [.data true τ τ.zero]
def cellsOf (τ:Ty):AV->Option (List AC)
 | .agg cs=>if τ.Ak&&cs.length==τ.size then some cs else none
 | .at (.data fr Lg x)=>if Lg=τ then some (Oi fr Lg x) else none
 | .at .undef=>none
 | .at .skip=>none
 | .at a=>if τ.Ak then none else some [a]
 |_=>none
def mkVar (st:St) (l:Nat) (t:TypeId) (τ:Ty) (cs:List AC):Option (AV×St):=
 if Az<=100000+l*100+cs.length then none else
 let s:=br T l t τ cs.length 0 (st.new l (.var t (cs.map (Bs l))))
 match s.at l with
 |some (.var _ _)=>some (.at (.Ez l 0),s)
 |_=>none
def Mp:(τ:Ty)->List AC
 | .unit=> []
 | .pair a r=>Mp a++Mp r
 | .slice e=> [.data false (.slice e) []]
 | .oslice _=> [.Jf]
 | .ptr _=> [.Qx]
 | .optr _=> [.Qx]
 | .clo _ _=> [.undef]
 |τ=> [.data false τ τ.zero]
def lS:Nat:=1300000000
def bD:Nat:=1400000000
def mC (st:St) (l:Nat) (t:TypeId) (cs:List AC):Option (AV×St):=
 if Az<=100000+l*100+cs.length then none else some (.at (.Ez l 0),st.new l (.var t (cs.map (Bs l))))
def Dd {α:Type} (xs:List α) (i:Nat) (ys:List α):List α:=xs.take i++ys++xs.drop (i+ys.length)
def AW (st:St) (τ:Ty) (l:Nat) (v:AV):AV:=match T.marks.contains (lS+l)&&v.settled with
 |true=>match Dz st τ v with
  |some p=> .at (.data false τ p.2)
  |none=>v
 |false=>v
def Qm (st:St) (t:TypeId) (p v:AV):Option St:=
 match T.ty t,p with
 |some τ, .at (.Ez l i)=>match st.at l,cellsOf τ (AW T st τ l v) with
  |some (.var tid vs),some cs=>if i+cs.length<=vs.length then some (if τ.Ak&&Nat.blt (100000+l*100+(i+cs.length)) Az then ay T l i t τ cs.length 0 (st.He l (.var tid (Dd vs i cs))) else st.He l (.var tid (Dd vs i cs))) else none
  |_,_=>none
 |some τ, .at (.Hj l j)=>match settle st v with
  |some (v',st')=>match st'.at l,Dz st' τ v' with
   |some (.arr fr tr e tid xs),some (Rj,x)=>if h:τ=e then (if j<xs.length then some (st'.He l (.arr (fr&&Rj) (tr&&(Ph st v&&e.tree)) e tid (xs.set j (h▸x)))) else none) else none
   |_,_=>none
  |none=>none
 |_,_=>none
def Ga:Nat:=4294967296
def Lb (st:St) (dst:Nat) (t:TypeId) (x y:Operand):Option (AV×St):=
 match T.elem t with
 |none=>none
 |some te=>match T.ty te,settle st (st.ev y) with
  |some e,some (y',st')=>match Dz st' (.slice e) y' with
   |none=>none
   |some (l8,ys)=>
    let tr2:=e.flat||(Ph st (st.ev y)&&e.tree)
    match st'.ev x with
    | .at .Jf=>if ys.length<=Ga/\dst<Az then some (.at (.own dst 0 (0+ys.length)),(st'.new dst (.arr (T.nO||e.flat) T.uF e te [])).new dst (.arr ((T.nO||e.flat)&&(l8||e.flat)) (T.uF&&tr2) e te (((([]:List e.den).drop 0).take 0)++ys))) else none
    | .at (.own l off len)=>match st'.at l with
     |some (.arr fr tr e' tid xs)=>if h:e'=e/\tid=te then
       (if len+ys.length<=Ga/\l<Az then
        some (.at (.own l 0 (len+ys.length)),st'.new l (.arr (fr&&(l8||e.flat)) (tr&&tr2) e te ((((h.1▸xs:List e.den).drop off).take len)++ys))) else none)
      else none
     |_=>none
    |_=>none
  |_,_=>none
def Mr (st:St) (l i m:Nat) (e:Ty) (te tid:TypeId) (rows:List (List e.den)) (kp:Option (Nat×Nat)):St:=
 (st.He l (.Bc e te rows (some i) kp)).new m (.arr false false e tid (rows.getD i []))
def Nu (st:St) (dst:Nat) (t:TypeId) (x y:Operand):Option (AV×St):=
 match x with
 | .tmp tx=>match st.get tx with
  | .at (.sub l i _)=>match st.at l,T.elem t with
   |some (.Bc e te rows none kp),some tid=>if (Nat.blt l Az&&(Nat.blt dst Az&&!Nat.beq dst l))=true then Lb T ((Mr st l i dst e te tid rows kp).put (some tx) (.at (.own dst 0 (rows.getD i []).length))) dst t x y else none
   |_,_=>none
  |_=>Lb T st dst t x y
 |_=>Lb T st dst t x y
def gx:Ty->Bool
 | .int _| .bool| .str| .slice _| .oslice _=>true
 |_=>false
def bN:Ty->Bool
 | .unit=>true
 | .pair a r=>bN a&&bN r
 |e=>gx e
def Wt (st:St) (dst:Nat) (t:TypeId) (l c:AV):Option (AV×St):=
 match T.elem t,l,c with
 |some te, .at (.data _ (.int _) n), .at (.data _ (.int _) m)=>match T.ty te with
  |some e=>if JJ n (Ga+1)=true/\n=m/\bN e=true/\dst<Az then some (.at (.own dst 0 n.toNat),st.new dst (.arr (T.nO||e.flat) (T.uF&&e.tree) e te (List.replicate n.toNat e.zero))) else none
  |none=>none
 |_,_,_=>none
def Is (e:Ty):Nat->List (Nat×Operand)->St->Option (Bool×Bool×List e.den×St)
 |_,[],st=>some (true,true,[],st)
 |i,(j,x)::r,st=>
  if i=j then match settle st (st.ev x) with
   |some (v,st')=>match Dz st' e v with
    |some (fr,y)=>match Is e (i+1) r st' with
     |some (Rj,EG,ys,YD)=>some (fr&&Rj,Ph st (st.ev x)&&e.tree&&EG,y::ys,YD)
     |none=>none
    |none=>none
   |none=>none
  else none
def Jt (st:St) (dst:Nat) (t:TypeId) (len:Nat) (parts:Array (Nat×Operand)):Option (AV×St):=
 match T.elem t with
 |none=>none
 |some te=>match T.ty te with
  |none=>none
  |some e=>if parts.size=len/\len<=64/\e.size<=64/\dst<Az then (match Is e 0 parts.toList st with
   |some (fr,tr,ys,st')=>some (.at (.own dst 0 len),st'.new dst (.arr ((T.nO||e.flat)&&fr) (T.uF&&tr) e te ys))
   |none=>none) else none
def Ql (st:St) (dst:Nat) (t:TypeId):Option (AV×St):=
 match T.mapOf t with
 |some v=>if dst<Az then some (.at (.Hv dst),st.new dst (.Qy v λ_=>none)) else none
 |none=>none
def Sb {α:Type} (m:ByteArray->Option α) (k:ByteArray) (x:α):ByteArray->Option α:= λs=>if s=k then some x else m s
def Gl (st:St) (t:TypeId) (m k x:AV):Option St:=
 match T.mapOf t,m,k with
 |some v, .at (.Hv l), .at (.data _ .str s)=>match st.at l,Dz st v x with
  |some (.Qy v' f),some (_,y)=>if h:v'=v/\v.flat=true/\v.Ak=false then some (st.He l (.Qy v (Sb (h.1▸f:ByteArray->Option v.den) s y))) else none
  |_,_=>none
 |_,_,_=>none
def da (st:St) (t t':TypeId) (x y:AV):Option (AV×St):=
 match x,(T.elem t).bind T.ty with
 | .at (.own l off len),some e=>if T.elem t=T.elem t'/\e.flat=true/\e.size=1 then match st.at l,Dz st (.slice e) y with
  |some (.arr fr _ e' tid xs),some (_,ys)=>if h:e'=e/\T.elem t=some tid then
    some (.at (.data true (.int .i64) (min len ys.length:Nat)),st.He l (.arr fr false e tid (Dd (h.1▸xs:List e.den) off (ys.take len))))
   else none
  |_,_=>none
  else none
 |_,_=>none
def evalClear (st:St) (t:TypeId) (x:AV):Option St:=
 match x,(T.elem t).bind T.ty with
 | .at (.own l off len),some e=>if e.flat=true/\gx e=true then match st.at l with
  |some (.arr fr _ e' tid xs)=>if h:e'=e/\T.elem t=some tid then
    some (st.He l (.arr fr false e tid (Dd (h.1▸xs:List e.den) off (List.replicate len e.zero))))
   else none
  |_=>none
  else none
 |_,_=>none
def Jr (st:St) (t:TypeId):List (Nat×Operand)->List AC->Option (List AC)
 | [],cs=>some cs
 |(i,x)::r,cs=>
  match T.off t i with
  |some (o,u)=>match T.ty u with
   |some ρ=>match cellsOf ρ (st.ev x) with
    |some c=>if o+c.length<=cs.length then Jr st t r (Dd cs o c) else none
    |none=>none
   |none=>none
  |none=>none
def Sn (st:St) (t:TypeId) (parts:Array (Nat×Operand)):Option AV:=
 match T.ty t with
 |none=>none
 |some τ=>if τ.Ak then (Jr T st t parts.toList (zeroCells τ)).map .agg else none
def Cp (io:Bool) (k:Nat):Nat:=if io then 1000000000+k else 500000+k
def Hb (k:Nat):Nat:=600000+k
def CX (dst:Nat) (k:Nat):Nat:=1000000*(dst+1)+k
def Pb:List (Option Nat)->List AC->List AV
 |none::s,a::as=> .at a::Pb s as
 |some n::s,as=> .agg (as.take n)::Pb s (as.drop n)
 |_,_=> []
def Ie:List (Option Nat)->List Value->List Value
 |none::s,u::us=>u::Ie s us
 |some n::s,us=> .agg (us.take n).toArray::Ie s (us.drop n)
 |_,_=> []
def ungroup:List (Option Nat)->List AV->Option (List AC)
 | [],[]=>some []
 |none::s, .at a::as=>(ungroup s as).map λr=>a::r
 |some n::s, .agg cs::as=>if cs.length=n then (ungroup s as).map λr=>cs++r else none
 |some n::s, .at (.data fr τ x)::as=>if τ.Ak=true/\(Oi fr τ x).length=n then (ungroup s as).map λr=>Oi fr τ x++r else none
 |_,_=>none
def eF (l:Nat):(c:CK)->c.den->Option OB
 | .Ji _,_=>none
 | .row e te,xs=>some (.arr false false e te xs)
 | .Fl e te,xs=>some (.Ev e te xs)
 | .part e te,x=>some (.arr false false e te x.1)
 | .Bc e te kp,xs=>some (.Bc e te xs none (if kp then some (l,List.length xs) else none))
def UH (l:Nat):(c:CK)->c.den->AC
 | .Ji τ,x=> .data τ.flat τ x
 | .row _ _,xs=> .own l 0 (List.length xs)
 | .Fl _ _,xs=> .own l 0 (List.length xs)
 | .part _ _,x=> .own l x.2.1 x.2.2
 | .Bc _ _ _,xs=> .own l 0 (List.length xs)
def cU {α:Type} (l:Nat):Option α->List (Nat×α)->List (Nat×α)
 |none,r=>r
 |some b,r=>(l,b)::r
def Ug:(k:Nat)->(cs:List (Bool×CK))->Ins.den cs->List (Nat×OB)
 |_,[],_=> []
 |k,p::r,x=>cU (Cp p.1 k) (eF (Cp p.1 k) p.2 x.1) (Ug (k+1) r x.2)
def Xa:(k:Nat)->(cs:List (Bool×CK))->Ins.den cs->List AC
 |_,[],_=> []
 |k,p::r,x=>UH (Cp p.1 k) p.2 x.1::Xa (k+1) r x.2
inductive Loc where
 |row (l:Nat)
 |sub (l i c:Nat)
 |view (l:Nat)
 deriving DecidableEq
def Loc.Sa:Loc->Nat
 | .row l=>l
 | .sub l _ _=>l
 | .view l=>l
def Loc.reads:Loc->Bool
 | .view _=>true
 |_=>false
def Xn (st:St) (ls:List Nat):Bool:=ls.all λl=>match st.at l with|some (.var _ vs)=>vs.all (·.settled)|_=>false
def views (k:Nat) (ls:List Nat):List (Nat×Loc):=ls.map λl=>(Cp false k, .view l)
def Jm (st:St) (io:Bool) (k:Nat):(c:CK)->AC->Option (c.den×List (Nat×Loc))
 | .Ji τ, .own l off len=>(Cn st τ (.own l off len)).map λp=>(p.2,[(Cp false k, .view l)])
 | .Ji τ, .clo g Cx=>if Xn st (Cx.map (·.1))&&!τ.Ak then (Hc st τ (.clo g Cx)).map λp=>(p.2,views k (Cx.map (·.1))) else none
 | .Ji τ, .Ez l i=>if Xn st [l]&&!τ.Ak then (Hc st τ (.Ez l i)).map λp=>(p.2,views k [l]) else none
 | .Ji τ, .sub l i c=>(Cn st τ (.sub l i c)).map λp=>(p.2,[(Cp false k, .view l)])
 | .Ji τ,a=>if τ.flat||a.settled then (Cn st τ a).map λp=>(p.2,[]) else none
 | .row e te, .own l off len=>match st.at l with
  |some (.arr _ _ e' Nr xs)=>if h:e'=e/\Nr=te/\off=0/\len=xs.length then some ((h.1▸xs:List e.den),[(Cp io k, .row l)]) else none
  |_=>none
 | .row e _, .sub l i c=>match st.at l with
  |some (.Ev e' _ xs)=>if h:e'= .slice e/\e.flat=true/\io=true/\c=0 then xs[i]?.map λy=>((h.1▸y:(Ty.slice e).den),[(Cp io k, .sub l i c)]) else none
  |_=>none
 | .row _ _, .Jf=>some ([],[])
 | .Fl e te, .own l off len=>match st.at l with
  |some (.Ev e' Nr xs)=>if h:e'=e/\Nr=te/\off=0/\len=xs.length then some ((h.1▸xs:List e.den),[(Cp io k, .row l)]) else none
  |_=>none
 | .Fl e _, .sub l i c=>match st.at l with
  |some (.Ev e' _ xs)=>if h:e'= .slice e/\io=true/\c=0 then xs[i]?.map λy=>((h.1▸y:(Ty.slice e).den),[(Cp io k, .sub l i c)]) else none
  |_=>none
 | .Fl _ _, .Jf=>some ([],[])
 | .part e te, .own l off len=>match st.at l with
  |some (.arr _ _ e' Nr xs)=>if h:e'=e/\Nr=te/\e.flat=true/\io=true then some (((h.1▸xs:List e.den),off,len),[(Cp io k, .row l)]) else none
  |_=>none
 | .Bc e te _, .own l off len=>match st.at l with
  |some (.Bc e' Nr rows none _)=>if h:e'=e/\Nr=te/\off=0/\len=rows.length/\io=false then some ((h.1▸rows:List (List e.den)),[(Cp io k, .row l)]) else none
  |_=>none
 |_,_=>none
def bJ (st:St):(k:Nat)->(cs:List (Bool×CK))->List AC->Option (Ins.den cs×List (Nat×Loc))
 |_,[],[]=>some ((),[])
 |k,p::r,a::as=>match Jm st p.1 k p.2 a,bJ st (k+1) r as with
  |some (x,t1),some (y,t2)=>some ((x,y),t1++t2)
  |_,_=>none
 |_,_,_=>none
def Xv (st:St):(c:CK)->c.den->AC->Option St
 | .row e _,ys, .own l _ len=>match st.at l with
  |some (.arr fr tr e' te xs)=>if h:e=e'/\List.length ys=len/\xs.length=len then some (st.He l (.arr (fr&&e'.flat) (tr&&e'.flat) e' te (h.1▸ys))) else none
  |_=>none
 | .Fl e _,ys, .own l _ len=>match st.at l with
  |some (.Ev e' te xs)=>if h:e=e'/\List.length ys=len/\xs.length=len then some (st.He l (.Ev e' te (h.1▸ys))) else none
  |_=>none
 | .row e _,ys, .sub l i _=>match st.at l with
  |some (.Ev e' te xs)=>if h: .slice e=e' then (match xs[i]? with
   |some y=>if List.length ys=List.length (h▸y:(Ty.slice e).den) then some (st.He l (.Ev e' te (xs.set i (h▸(ys:(Ty.slice e).den))))) else none
   |none=>none) else none
  |_=>none
 | .Fl e _,ys, .sub l i _=>match st.at l with
  |some (.Ev e' te xs)=>if h: .slice e=e' then (match xs[i]? with
   |some y=>if List.length ys=List.length (h▸y:(Ty.slice e).den) then some (st.He l (.Ev e' te (xs.set i (h▸(ys:(Ty.slice e).den))))) else none
   |none=>none) else none
  |_=>none
 |_,_, .Jf=>some st
 |_,_,_=>none
def wy (st:St) (e:Ty) (ys:List e.den):AC->Option St
 | .own l _ _=>match st.at l with
  |some (.arr fr tr e' te xs)=>if h:e=e'/\List.length ys=xs.length then some (st.He l (.arr fr tr e' te (h.1▸ys))) else none
  |_=>none
 |_=>none
def Ft:(cs:List (Bool×CK))->IOs.den cs->List AC->St->Option St
 | [],_,_,st=>some st
 |(true, .Ji _)::r,x,_::as,st=>Ft r x as st
 |(true, .row e te)::r,x,a::as,st=>match Xv st (.row e te) x.1 a with
  |some st'=>Ft r x.2 as st'
  |none=>none
 |(true, .Fl e te)::r,x,a::as,st=>match Xv st (.Fl e te) x.1 a with
  |some st'=>Ft r x.2 as st'
  |none=>none
 |(true, .part e _)::r,x,a::as,st=>match wy st e x.1 a with
  |some st'=>Ft r x.2 as st'
  |none=>none
 |(true, .Bc _ _ _)::r,x,_::as,st=>Ft r x as st
 |(false,_)::r,x,_::as,st=>Ft r x as st
 |_,_,_,_=>none
def Bt (dead part:List Nat) (c:AC):AC:=if c.refs.any (λl=>dead.contains l) then .undef else match c with
 | .sub l i c=>if part.contains l then .undef else .sub l i c
 | .Hf l i c=>if part.contains l then .undef else .Hf l i c
 |c=>c
def Sl:List (Nat×OB)->List Nat->List (Nat×OB)
 | [],_=> []
 |(k,b)::r,dead=>if dead.contains k then Sl r dead else (k,b)::Sl r dead
def St.Yf (st:St) (dead part:List Nat):St:=let s:=st.Ih (Bt dead part); {s with heap:=Sl s.heap dead}
def Pn (st:St) (l j m:Nat) (e:Ty) (te:TypeId) (rows:List (List e.den)) (xs:List e.den) (kp:Option (Nat×Nat)):St:=
 (st.Yf [m] [l]).He l (.Bc e te (rows.set j xs) none kp)
def Xd (j:Nat):Option (Nat×Nat)->Option (Nat×Nat)
 |none=>none
 |some p=>some (p.1,min p.2 j)
def Wv (st:St) (t:TypeId) (p v:AV):Option St:=
 match T.ty t,p with
 |some τ, .at (.Hf l i j)=>match settle st v with
  |some (v',st')=>match st'.at l,Dz st' τ v' with
   |some (.Bc e te rows none kp),some (_,x)=>if h:τ=e then some (st'.He l (.Bc e te (rows.set i ((rows.getD i []).set j (h▸x))) none kp)) else none
   |_,_=>none
  |none=>none
 |some τ, .at (.Hj l j)=>match st.at l,v with
  |some (.Bc e te rows out kp), .at (.own m off len)=>match st.at m with
   |some (.arr _ _ e' _ xs)=>if h:e'=e/\(Nat.blt l Az&&(!Nat.beq m l&&!τ.Ak))=true/\off=0/\len=xs.length/\(out=none\/out=some j) then some (Pn st l j m e te rows (h.1▸xs) (Xd j kp)) else none
   |_=>none
  |_,_=>none
 |_,_=>none
def xu (st:St):AV->Bool
 | .at (.Hf _ _ _)=>true
 | .at (.Hj l _)=>match st.at l with
  |some (.Bc _ _ _ _ _)=>true
  |_=>false
 |_=>false
def Mh (st:St) (t:TypeId) (p v:AV):Option St:=match xu st p with
 |true=>Wv T st t p v
 |false=>Qm T st t p v
def Nn (st:St) (k m:Nat) (b:OB):St:=let s:=st.Yf [m,k] []; {s with heap:=Li s.heap k b}
def ag (t:TypeId):Option (TypeId×Ty):=(T.elem t).bind λte=>(T.xt te).map λe=>(te,e)
def Sr (st:St) (dst:Nat) (t:TypeId) (l c:AV):Option (AV×St):=
 match ag T t with
 |none=>Wt T st dst t l c
 |some (te,e)=>match l,c with
  | .at (.data _ (.int _) n), .at (.data _ (.int _) m)=>if JJ n (Ga+1)=true/\n=m/\dst<Az then some (.at (.own dst 0 n.toNat),Nn st dst dst (.Bc e te (List.replicate n.toNat []) none none)) else none
  |_,_=>none
def Gi (st:St) (dst:Nat) (t:TypeId) (len:Nat) (parts:Array (Nat×Operand)):Option (AV×St):=
 match ag T t with
 |none=>Jt T st dst t len parts
 |some (te,e)=>match parts.toList with
  | [(0,x)]=>match st.ev x with
   | .at (.own m off ln)=>match st.at m with
    |some (.arr _ _ e' _ xs)=>if h:e'=e/\(Nat.beq len 1&&(Nat.blt dst Az&&Nat.blt m Az))=true/\off=0/\ln=xs.length then some (.at (.own dst 0 1),Nn st dst m (.Bc e te [h.1▸xs] none none)) else none
    |_=>none
   |_=>none
  |_=>none
def Nv (st:St) (dst:Nat) (t:TypeId) (x y:Operand):Option (AV×St):=
 match ag T t with
 |none=>Nu T st dst t x y
 |some (te,e)=>match st.ev x,st.ev y with
  | .at (.own l off len), .at (.own m CZ qQ)=>match st.at l,st.at m with
   |some (.Bc e1 UA A none _),some (.Bc e2 oB B none _)=>
    if h:(e1=e/\e2=e)/\(decide (UA=te)&&decide (oB=te)&&(Nat.blt l Az&&(Nat.blt m Az&&!Nat.beq m l)))=true/\(off=0/\len=A.length)/\(CZ=0/\qQ=B.length)/\0<B.length/\A.length+B.length<=Ga then
     some (.at (.own l 0 (A.length+B.length)),Nn st l m (.Bc e te ((h.1.1▸A:List (List e.den))++(h.1.2▸B:List (List e.den))) none none))
    else none
   |_,_=>none
  |_,_=>none
def nY (fr:Bool):(c:CK)->c.den->Option OB
 | .Ji _,_=>none
 | .row e te,xs=>some (.arr (fr&&e.flat) false e te xs)
 | .Fl e te,xs=>some (.Ev e te xs)
 | .part e te,x=>some (.arr (fr&&e.flat) false e te x.1)
 | .Bc e te _,xs=>some (.Bc e te xs none none)
def tv (H:List (Nat×OB)) (l:Nat):Option OB->List (Nat×OB)
 |some b=>Li H l b
 |none=>H
def Sz (fr:Bool) (key:Nat->Nat):(k:Nat)->(cs:List CK)->CKs.den cs->List (Nat×OB)->List (Nat×OB)
 |_,[],_,H=>H
 |k,c::r,x,H=>Sz fr key (k+1) r x.2 (tv H (key k) (nY fr c x.1))
def Xe (key:Nat->Nat):(k:Nat)->(cs:List CK)->CKs.den cs->List AC
 |_,[],_=> []
 |k,c::r,x=>(match c,x.1 with
  | .Ji τ,y=> .data τ.flat τ y
  | .row _ _,xs=> .own (key k) 0 (List.length xs)
  | .Fl _ _,xs=> .own (key k) 0 (List.length xs)
  | .Bc _ _ _,xs=> .own (key k) 0 (List.length xs)
  | .part _ _,_=> .undef)::Xe key (k+1) r x.2
def Uw:List (Option Nat)->List AC->List (Bool×List AC)
 |none::s,a::as=>(false,[a])::Uw s as
 |some n::s,as=>(true,as.take n)::Uw s (as.drop n)
 |_,_=> []
def RP (Hy:Bool) (sh:List (Option Nat)) (as:List AC):Option AV:=
 if Hy then some (.Jy (Uw sh as)) else match Pb sh as with
  | [v]=>some v
  | []=>some .undef
  |_=>none
def gL (tks:List (Nat×Loc)):List Nat:=(tks.filter λt=>Nat.blt t.1 Az&&!t.2.reads).map λt=>t.2.Sa
def whole (tks:List (Nat×Loc)):List Nat:=tks.flatMap λt=>match t.2 with| .row l=> [l]|_=> []
def sf (tks:List (Nat×Loc)):List Nat:=(tks.filter λt=>t.2.reads).map λt=>t.2.Sa
def tH (ins:List (Bool×CK)) (te:TypeId) (used:List Nat):List (Nat×Loc)->Option Nat
 | []=>none
 |(k, .row l)::r=>if Nat.blt k Az&&(!used.contains l&&(match ins[k-500000]? with
   |some (false, .row _ Nr)=>decide (Nr=te)
   |some (false, .Fl _ Nr)=>decide (Nr=te)
   |some (false, .Bc _ Nr _)=>decide (Nr=te)
   |_=>false)) then some l else tH ins te used r
 |_::r=>tH ins te used r
def w3 (ins:List (Bool×CK)) (tks:List (Nat×Loc)) (d:Nat):(k:Nat)->(used:List Nat)->List CK->List Nat
 |_,_,[]=> []
 |k,used,c::r=>match (match c with
   | .row _ te=>tH ins te used tks
   | .Fl _ te=>tH ins te used tks
   | .Bc _ te _=>tH ins te used tks
   |_=>none) with
  |some l=>l::w3 ins tks d (k+1) (l::used) r
  |none=>CX d k::w3 ins tks d (k+1) used r
def gH (s:MSpec) (tks:List (Nat×Loc)) (d:Nat):List Nat:=w3 s.ins tks d 0 [] s.outs
def Cw (ks:List Nat) (j:Nat):Nat:=match ks[j]? with
 |some l=>l
 |none=>Az+j
def qN (ks:List Nat) (n:Nat):Bool:=Nat.beq ks.length n&&(Uv ks&&ks.all λl=>Nat.blt l Az)
def xp (st:St) (l:List Nat):Bool:=l.all λk=>match st.at k with|some (.arr fr _ _ _ _)=>fr|_=>false
def xU (st:St) (s:MSpec) (args:List AV):Option (List Nat×List AC×List AV):=
 match s.ptr with
 |none=>some ([],[],args)
 |some p=>match args with
  | .at (.Ez l i)::rest=>match st.at l with
   |some (.var tid vs)=>if tid=p.1/\vs.length=p.2/\i=0 then some ([l],vs,rest) else none
   |_=>none
  |_=>none
def Ro:List (Bool×CK)->List AC->Bool
 |(true, .row _ _)::r, .own _ _ _::as=>Ro r as
 |(true, .Fl _ _)::r, .own _ _ _::as=>Ro r as
 |(true,_)::_,_::_=>false
 |(false,_)::r,_::as=>Ro r as
 |_,as=>as.isEmpty
def cc {α:Type} :List (Bool×CK)->List α->List α->List α
 |(true,_)::r,v::vs,as=>v::cc r vs as
 |(false,_)::r,_::vs,a::as=>a::cc r vs as
 |_,vs,_=>vs
def mU:List (Bool×CK)->Nat->Nat
 |(true,_)::r,n+1=>mU r n
 |(false,_)::r,n+1=>mU r n+1
 |_,_=>0
def MSpec.Ui (s:MSpec):Nat:=match s.ptr with|none=>0|some p=>mU s.ins p.2
def kV (ins:List (Bool×CK)) (as:List AC) (pl:List Nat) (st:St):St:=
 match pl with
 | []=>st
 |l::_=>match st.at l with
  |some (.var tid vs)=>st.He l (.var tid (cc ins vs as))
  |_=>st
def Pj (d:Nat):Nat:=CX d 999
def gq (s:MSpec) (d:Nat):List Nat:=match s.rp with|none=> []|some _=> [Pj d]
def Oh (s:MSpec) (tks:List (Nat×Loc)) (d:Nat):List Nat:=gH s tks d++gq s d
def ij (H:List (Nat×OB)) (l:Nat):Bool:=match Ap H l with
 |some (.Bc _ _ _ _ _)=>true
 |_=>false
def Xc (H:List (Nat×OB)) (ks:List Nat) (tks:List (Nat×Loc)):List (Nat×Nat)->List Nat
 | []=> []
 |(k,j)::r=>match tks.find? (λt=>Nat.beq t.1 (Cp false k)),ks[j]? with
  |some (_, .row l),some l'=>if Nat.beq l' l&&ij H l then l::Xc H ks tks r else Xc H ks tks r
  |_,_=>Xc H ks tks r
def l9 (H:List (Nat×OB)) (l:Nat):Nat:=match Ap H l with
 |some (.Bc _ _ rows _ _)=>rows.length
 |_=>0
def Zl (H:List (Nat×OB)) (ls:List Nat) (n:Nat):List AV->Bool
 | []=>true
 | .at (.sub l i _)::r=>(!ls.contains l||(Nat.blt i n&&Nat.blt i (l9 H l)))&&Zl H ls n r
 |_::r=>Zl H ls n r
def Iy (ls:List Nat):List AV->List AV->List AV
 | .at (.sub l i c)::r,v::vs=>(if ls.contains l then .at (.sub l i c) else v)::Iy ls r vs
 |_::r,v::vs=>v::Iy ls r vs
 |_,vs=>vs
def LX:Option OB->Option (Nat×Nat)
 |some (.Bc _ _ _ _ kp)=>kp
 |_=>none
def OB.uk (b:OB) (kp:Option (Nat×Nat)):OB:=match b with
 | .Bc e te rows out _=> .Bc e te rows out kp
 |b=>b
def Ze (H0:List (Nat×OB)) (ls:List Nat) (n:Nat):List (Nat×OB)->List (Nat×OB)
 | []=> []
 |(l,b)::r=>(l,if ls.contains l then b.uk (Xd n (LX (Ap H0 l))) else b)::Ze H0 ls n r
def ga (Xq st:St) (ls:List Nat) (n:Nat):St:=match ls with
 | []=>st
 |_=> {tmps:=Iy ls Xq.tmps st.tmps,heap:=Ze Xq.heap ls n st.heap}
def HE (s:MSpec) (d:Nat) (as:List AC):Option AV:=match s.rp with
 |none=>RP s.Hy s.Ia as
 |some _=>some (.at (.Ez (Pj d) 0))
def fI (st st1:St) (d:Nat) (s:MSpec) (pl:List Nat) (tks:List (Nat×Loc)) (r:CKs.den s.outs):St:=
 let ks:=Oh s tks d
 let key:=Cw ks
 let RS:=kV s.ins (Xe key 0 s.outs r) pl (st1.Yf (gL tks++ks++(if s.flat then [] else sf tks)) (whole tks))
 {RS with heap:=Sz (xp st (gL tks)) key 0 s.outs r (tv RS.heap (Pj d) (s.rp.map λtid=> .var tid ((Xe key 0 s.outs r).drop s.Ui)))}
def Sp (st:St) (dst:Option Nat) (s:MSpec) (args:List AV):Option (AV×St):=
 match xU st s args with
 |none=>none
 |some (pl,vs,rest)=>match ungroup s.Jg rest with
 |none=>none
 |some iQ=>match bJ st 0 s.ins (vs++iQ) with
  |none=>none
  |some (x,tks)=>if Uv (tks.map λt=>t.2.Sa)&&qN (Oh s tks (dst.getD 0)) (s.outs.length+(gq s (dst.getD 0)).length)&&Nat.blt s.outs.length 1000&&Nat.blt s.ins.length 1000&&(Ro s.ins vs&&pl.all λl=>!((tks.map λt=>t.2.Sa)++Oh s tks (dst.getD 0)).contains l) then match s.fn x with
   |none=>none
   |some (r,o)=>match Ft s.ins o (vs++iQ) st with
    |none=>none
    |some st1=>match HE s (dst.getD 0) ((Xe (Cw (Oh s tks (dst.getD 0))) 0 s.outs r).drop s.Ui) with
     |none=>none
     |some v=>if Zl (fI st st1 (dst.getD 0) s pl tks r).heap (Xc st.heap (Oh s tks (dst.getD 0)) tks s.keeps) (s.Ep x) st.tmps=true then
       some (v,ga st (fI st st1 (dst.getD 0) s pl tks r) (Xc st.heap (Oh s tks (dst.getD 0)) tks s.keeps) (s.Ep x)) else none
   else none
def Km:List Operand->St->Option St
 | [],st=>some st
 |x::r,st=>match settle st (st.ev x) with
  |some (_,st')=>Km r st'
  |none=>none
def Ll (st:St) (p x:Operand):St:=match st.ev p with
 | .at (.Ez l _)=>match T.marks.contains (bD+l) with
  |true=>match Km [x] st with
   |some s0=>s0
   |none=>st
  |false=>st
 |_=>st
def bm (s:Spec) (args:List AV):Bool:=!(s.fresh||s.res.flat||args.all (·.settled))
def evalOp (Γ:Env) (st:St) (o:Oper):Option (AV×St):=
 match o.op with
 | .assign x=>match st.ev x,o.dst,(T.elem o.type).bind λte=>(T.ty te).map λe=>(te,e) with
  | .at .Jf,some d,some (te,e)=>if d<Az then some (.at (.own d 0 0),st.new d (.arr (T.nO||e.flat) T.uF e te [])) else none
  |v,_,_=>some (v,st)
 | .alloc t=>match o.dst,T.ty t with
  |some d,some τ=>match T.marks.contains (lS+d) with
   |true=>mC st d t (Mp τ)
   |false=>mkVar T st d t τ (zeroCells τ)
  |_,_=>none
 | .box t x=>match o.dst,T.ty t with
  |some d,some τ=>match cellsOf τ (st.ev x) with
   |some cs=>match T.marks.contains (lS+d) with
    |true=>if cs.all (·.settled)=true then (Dn st τ cs).map λp=>(.at (.data false (.optr τ) (some p.2)),st) else none
    |false=>mkVar T st d t τ cs
   |none=>none
  |_,_=>none
 | .store t p x=>(Mh T (Ll T st p x) t ((Ll T st p x).ev p) ((Ll T st p x).ev x)).map λs=>(.undef,s)
 | .makeSlice t l c=>match o.dst with
  |some d=>Sr T st d t (st.ev l) (st.ev c)
  |none=>none
 | .makeMap t none=>match o.dst with
  |some d=>Ql T st d t
  |none=>none
 | .mapUpdate t m k x=>(Gl T st t (st.ev m) (st.ev k) (st.ev x)).map λs=>(.undef,s)
 | .insert t m k x=>(Gl T st t (st.ev m) (st.ev k) (st.ev x)).map λs=>(.undef,s)
 | .buildSlice t len parts=>match o.dst with
  |some d=>Gi T st d t len parts
  |none=>none
 | .build t parts=>(Sn T st t parts).map λv=>(v,st)
 | .call {callee:= .builtin .append,args,argTypes} =>match o.dst,args.toList,argTypes.toList with
  |some d,[x,y],[t,t']=>if t=t' then Nv T st d t x y else none
  |_,_,_=>none
 | .call {callee:= .builtin .copy,args,argTypes} =>match args.toList,argTypes.toList with
  | [x,y],[t,t']=>da T st t t' (st.ev x) (st.ev y)
  |_,_=>none
 | .call {callee:= .builtin .clear,args,argTypes} =>match args.toList,argTypes.toList with
  | [x],[t]=>(evalClear T st t (st.ev x)).map λs=>(.undef,s)
  |_,_=>none
 | .call {callee:= .value (.func f),args, .. } =>match Γ f with
  |some (.m s)=>Sp st o.dst s (args.toList.map st.ev)
  |some (.q s)=>if bm s (args.toList.map st.ev) then (match Km args.toList st with
   |some st1=>(Dq T Γ st1 o).map λv=>(v,st1)
   |none=>none) else (Dq T Γ st o).map λv=>(v,st)
  |_=>(Dq T Γ st o).map λv=>(v,st)
 |_=>(Dq T Γ st o).map λv=>(v,st)
def bp (e:Ty):Nat->List (Nat×Operand)->St->Option (Bool×List e.den)
 |_,[],_=>some (true,[])
 |i,(j,x)::r,st=>
  if i=j/\(st.ev x).settled=true then match Dz st e (st.ev x),bp e (i+1) r st with
   |some (fr,y),some (Rj,ys)=>some (fr&&Rj,y::ys)
   |_,_=>none
  else none
def Ws (st:St) (t:TypeId) (len:Nat) (parts:Array (Nat×Operand)):Option AV:=
 match T.elem t with
 |none=>none
 |some te=>match T.ty te with
  |none=>none
  |some e=>if parts.size=len/\len<=64/\e.size<=64 then (bp e 0 parts.toList st).map λp=> .at (.data p.1 (.slice e) p.2) else none
def Se (Γ:Env) (st:St) (o:Oper):Option AV:=
 match o.op with
 | .buildSlice t len parts=>Ws T st t len parts
 | .build t parts=>Sn T st t parts
 |_=>Dq T Γ st o
def CO (q:Bool) (Γ:Env) (o:Oper):Bool:=
 match o.op with
 | .buildSlice _ _ _| .build _ _=>!q
 | .alloc _| .box _ _| .store _ _ _| .makeSlice _ _ _| .makeMap _ _| .mapUpdate _ _ _ _| .insert _ _ _ _=>true
 | .assign (.const _)=>true
 | .call {callee:= .builtin .append, .. } =>true
 | .call {callee:= .builtin .copy, .. } =>true
 | .call {callee:= .builtin .clear, .. } =>true
 | .call {callee:= .value (.func f), .. } =>match Γ f with
  |some (.m _)=>true
  |_=>false
 |_=>false
def Dl (Γ:Env) (ops:Array Oper) (st:St) (o:Oper):Option St:=
 match o.guard with
 |none=>(evalOp T Γ st o).map λr=>r.2.put o.dst r.1
 |some (j,want)=>match Si st ((ops[j]?).bind (·.dst)) with
  |some (some b)=>if b==want then (evalOp T Γ st o).map λr=>r.2.put o.dst r.1 else some (st.put o.dst (.at .skip))
  |some none=>some (st.put o.dst (.at .skip))
  |none=>none
def Vl (Γ:Env) (ops:Array Oper):List Oper->St->Option St
 | [],st=>some st
 |o::r,st=>match Dl T Γ ops st o with
  |some st'=>Vl Γ ops r st'
  |none=>none
def Gv (q:Bool) (Γ:Env) (ops:Array Oper):List Nat:=
 (List.range ops.size).foldl (init:= []) λacc i=>match ops[i]? with
  |some o=>if CO q Γ o||o.after.any (λe=>Region.binds .any e&&acc.contains e.on) then acc++ [i] else acc
  |none=>acc
def Yh (q:Bool) (Γ:Env) (ops:Array Oper):List Nat:=(List.range ops.size).filter λi=>!(Gv q Γ ops).contains i
def ig (ops:Array Oper) (hd tl:List Nat) (i:Nat):Bool:=
 match ops[i]? with
 |some o=>(match o.op,o.guard with
  | .move (.tmp _),none=>true
  |_,_=>false)&&!((tl.take 1++hd).any λj=>decide (i<j)&&Region.waitsFor .any ops j i)
 |none=>false
def Ri (q:Bool) (Γ:Env) (ops:Array Oper):List Nat:=(Yh q Γ ops).filter λi=>ig ops (Yh q Γ ops) (Gv q Γ ops) i
def Rl (q:Bool) (Γ:Env) (ops:Array Oper):List Nat:=(Yh q Γ ops).filter λi=>!ig ops (Yh q Γ ops) (Gv q Γ ops) i
def ei (q:Bool) (Γ:Env) (ops:Array Oper):List Nat:=Ri q Γ ops++Rl q Γ ops
def CF (ops:Array Oper) (i:Nat):Bool:=match ops[i]? with
 |some o=>(match o.op,o.guard with
  | .extract _ _,none=>true
  |_,_=>false)
 |none=>false
def iF (ops:Array Oper):List Nat->Array Bool->Bool
 | [],Ae=>(Region.ready .any ops Ae).isEmpty
 |k::r,Ae=>(decide (Region.ready .any ops Ae= [k])||(CF ops k&&((Region.ready .any ops Ae).contains k&&Region.free .any ops Ae k)))&&iF ops r (Ae.setIfInBounds k true)
def jc (ops:Array Oper) (tl:List Nat):List Nat->Array Bool->Bool
 | [],Ae=>iF ops tl Ae
 |k::r,Ae=>(Region.ready .any ops Ae).contains k&&Region.free .any ops Ae k&&jc ops tl r (Ae.setIfInBounds k true)
def nb (ops:Array Oper) (hd:List Nat):List Nat->Bool
 | []=>true
 |f::r=>(hd.all λi=>(f::hd).any λj=>decide (i<j)&&Region.waitsFor .any ops j i)&&r.all λt=>(f::r).any λk=>Region.waitsFor .any ops t k
def gY (ops:Array Oper) (tl hd:List Nat):List Nat->Array Bool->Bool
 | [],Ae=>jc ops tl hd Ae
 |k::r,Ae=>(Region.ready .any ops Ae).contains k&&Region.free .any ops Ae k&&gY ops tl hd r (Ae.setIfInBounds k true)
def Yo (q:Bool) (Γ:Env) (ops:Array Oper):Bool:=
 Region.noSelect ops&&((Ri q Γ ops).length+((Rl q Γ ops).length+(Gv q Γ ops).length)==ops.size)&&gY ops (Gv q Γ ops) (Rl q Γ ops) (Ri q Γ ops) (Array.replicate ops.size false)&&nb ops (Rl q Γ ops) (Gv q Γ ops)
def Sd (Γ:Env) (ops:Array Oper) (st:St) (o:Oper):Option AV:=
 match o.guard with
 |none=>Se T Γ st o
 |some (j,want)=>match Si st ((ops[j]?).bind (·.dst)) with
  |some (some b)=>if b==want then Se T Γ st o else some (.at .skip)
  |some none=>some (.at .skip)
  |none=>none
def Ef (Γ:Env) (ops:Array Oper):List Nat->St->Option St
 | [],st=>some st
 |i::r,st=>match ops[i]? with
  |none=>none
  |some o=>match Sd T Γ ops st o with
   |some v=>Ef Γ ops r (st.put o.dst v)
   |none=>none
def Kb (Γ:Env) (ops:Array Oper):List Nat->St->Option St
 | [],st=>some st
 |i::r,st=>match ops[i]? with
  |none=>none
  |some o=>match Dl T Γ ops st o with
   |some st'=>Kb Γ ops r st'
   |none=>none
def Nx (Γ:Env) (ops:Array Oper) (draw:Bool) (st:St):Option St:=
 if draw then (if Yo false Γ ops then (match Ef T Γ ops (ei false Γ ops) st with
  |some st'=>Kb T Γ ops (Gv false Γ ops) st'
  |none=>none) else if Yo true Γ ops then (match Ef T Γ ops (ei true Γ ops) st with
  |some st'=>Kb T Γ ops (Gv true Γ ops) st'
  |none=>none) else none)
 else Vl T Γ ops ops.toList st
def qH (ops:Array Oper) (i:Nat):Bool:=match ops[i]? with
 |some o=>(match o.op,o.guard with
  | .move (.tmp _),none=>true
  |_,_=>false)
 |none=>false
def en (ops:Array Oper) (i:Nat):Bool:=match ops[i]? with
 |some o=>(match o.op,o.guard with
  | .move (.tmp _),none=>true
  | .nilCheck _,none=>true
  | .fieldAddr _ _ _,none=>true
  |_,_=>false)
 |none=>false
def RW (q:Bool) (ops:Array Oper) (i:Nat):Bool:=match q with
 |true=>en ops i
 |false=>qH ops i
def Gs (q:Bool) (ops:Array Oper):List Nat->Array Bool->List Nat
 | [],_=> []
 |i::r,Ae=>if RW q ops i&&((Region.ready .any ops Ae).contains i&&Region.free .any ops Ae i) then i::Gs q ops r (Ae.setIfInBounds i true) else Gs q ops r Ae
def CV (q:Bool) (ops:Array Oper):List Nat:=Gs q ops (List.range ops.size) (Array.replicate ops.size false)
def eg (q:Bool) (ops:Array Oper):Bool:=Nat.ble (ops.size-(CV q ops).length) 8
def Hw (ops:Array Oper):List Nat:=CV (!eg false ops) ops
def Da:List Nat->Array Bool->Array Bool
 | [],Ae=>Ae
 |i::r,Ae=>Da r (Ae.setIfInBounds i true)
def anyS (Γ:Env) (ops:Array Oper) (K:St->Prop):Nat->Array Bool->St->Prop
 |0,Ae,st=>Region.ready .any ops Ae= []/\K st
 |f+1,Ae,st=>Region.ready .any ops Ae≠ []/\ ∀i∈Region.ready .any ops Ae,∃o st',ops[i]?=some o/\Dl T Γ ops st o=some st'/\anyS Γ ops K f (Ae.setIfInBounds i true) st'
def eo (ops:Array Oper) (i:Nat):Bool:=match ops[i]? with
 |some o=>(match o.op,o.guard with
  | .move _,none=>true
  | .load _ _,none=>true
  | .indexAddr _ _ _,none=>true
  | .fieldAddr _ _ _,none=>true
  |_,_=>false)
 |none=>false
def ey (ops:Array Oper):List Nat->Array Bool->List Nat
 | [],_=> []
 |i::r,Ae=>if eo ops i&&((Region.ready .any ops Ae).contains i&&Region.free .any ops Ae i) then i::ey ops r (Ae.setIfInBounds i true) else ey ops r Ae
def jF (ops:Array Oper) (i j:Nat) (p:Oper->Oper->Bool):Bool:=match ops[i]?,ops[j]? with
 |some x,some y=>p x y
 |_,_=>false
def iM (ops:Array Oper) (x y:Oper):Bool:=match x.dst with
 |some d=>!(y.looksAt ops).contains d
 |none=>true
def vE (x y:Oper):Bool:=match x.dst with
 |some d=>y.dst !=some d
 |none=>true
def dH (ops:Array Oper):List Nat->Array Bool->Bool
 | [],_=>true
 |r::E,Ae=>(Region.ready .any ops Ae).contains r&&dH ops E (Ae.setIfInBounds r true)
def rk (ops:Array Oper):List Nat->Bool
 | []=>true
 |r::E=>(jF ops r r (iM ops)&&E.all λq=>jF ops r q (λx y=>vE x y&&iM ops y x)&&(Region.waitsFor .any ops q r||jF ops r q (iM ops)))&&rk ops E
def FM (ops:Array Oper) (E:List Nat) (L0:Array Bool):Bool:=E.all λr=>(List.range ops.size).all λj=>E.contains j||L0.getD j false||Region.waitsFor .any ops j r||jF ops r j (λx y=>x.apart ops y)
def Yp (ops:Array Oper) (E:List Nat) (L0:Array Bool):Bool:=(E.all (eo ops)&&dH ops E L0)&&(rk ops E&&FM ops E L0)
def ll (ops:Array Oper) (E:List Nat) (Ae:Array Bool) (r:Nat):Bool:=(List.range ops.size).any λj=>!E.contains j&&(Ae.getD j false&&Region.waitsFor .any ops j r)
def DZ (Γ:Env) (ops:Array Oper) (E:List Nat) (Ae:Array Bool) (st:St):Prop:=
 ∀r∈E,ll ops E Ae r=true\/ ∃o v,ops[r]?=some o/\Sd T Γ ops st o=some v/\ ∀d,o.dst=some d->st.get d=v
def kJ (Γ:Env) (ops:Array Oper) (E:List Nat) (K:St->Prop):Nat->Array Bool->St->Prop
 |0,Ae,st=>DZ T Γ ops E Ae st/\Region.ready .any ops Ae= []/\K st
 |f+1,Ae,st=>DZ T Γ ops E Ae st/\Region.ready .any ops Ae≠ []/\ ∀i∈Region.ready .any ops Ae,∃o st',ops[i]?=some o/\Dl T Γ ops st o=some st'/\kJ Γ ops E K f (Ae.setIfInBounds i true) st'
def FL (Γ:Env) (ops:Array Oper) (K:St->Prop) (n:Nat) (L0:Array Bool) (Xq:St):Prop:=
 ∃E st1,Yp ops E L0=true/\E.length<=n/\Ef T Γ ops E Xq=some st1/\kJ T Γ ops E K (n-E.length) (Da E L0) st1
def rz (Γ:Env) (draw:Bool):Env:= λf=>match Γ f with
 |some (.b s m)=>some (if draw then .q s else .m m)
 |r=>r
inductive Iu where
 |normal
 |exit (id:Nat)
 |ret
def Fy (live:List Nat):Nat->List AV->List AV
 |_,[]=> []
 |i,v::r=>(if live.contains i then v else .undef)::Fy live (i+1) r
def AV.refs:AV->List Nat
 | .at a=>a.refs
 | .agg cs=>cs.flatMap AC.refs
 | .Wh _ _ _=> []
 | .Jy l=>l.flatMap λp=>p.2.flatMap AC.refs
def OB.refs:OB->List Nat
 | .var _ vs=>vs.flatMap AC.refs
 |_=> []
def Vz:List Nat->St->St
 | [],st=>st
 |l::r,st=>Vz r (st.forget l)
def js (l k m:Nat):Nat:=if m=l then k else m
def Qs (l k:Nat):AC->AC
 | .own m off len=> .own (js l k m) off len
 | .Ez m i=> .Ez (js l k m) i
 | .Hj m i=> .Hj (js l k m) i
 | .clo f Cx=> .clo f (Cx.map λp=>(js l k p.1,p.2))
 | .Hv m=> .Hv (js l k m)
 | .sub m i c=> .sub (js l k m) i c
 | .Hf m i c=> .Hf (js l k m) i c
 |a=>a
def St.rename (l k:Nat) (st:St):St:=
 match Ap st.heap k,Ap st.heap l with
 |none,some b=>if (Nat.blt l Az&&Nat.blt k Az)=true then
   (let s:=st.Ih (Qs l k); {s with heap:=Li (Vb s.heap l) k (b.map (Qs l k))}) else st
 |_,_=>st
def Jw:Nat->Nat->St->St
 |0,_,st=>st
 |n+1,t,st=>Jw n (t+1) (match st.get t with
  | .at (.own l _ _)=>match Ap st.heap l with
   |some (.arr _ _ _ _ _)=>if (st.tmps.take t).any (λv=>v.refs.contains l) then st else st.rename l (700000+t)
   |_=>st
  |_=>st)
def Ys:Nat:=1000000007
def AC.JS (flat:Bool):AC->AC
 | .data fr τ x=> .data (fr&&!(flat&&τ.flat)) τ x
 |c=>c
def OB.Gj (flat all one:Bool):OB->OB
 | .arr fr tr e tid xs=> .arr (fr&&!(all||(one||(flat&&e.flat)))) (tr&&!all) e tid xs
 | .var tid vs=> .var tid (vs.map (AC.JS flat))
 |b=>b
def Ur:Nat:=1000000009
def uO:Nat:=1100000000
def ER:Nat:=1200000000
def St.Gj (live:List Nat) (st:St):St:= {st with heap:=st.heap.map λp=>(p.1,p.2.Gj (live.contains Ur) (live.contains (uO+p.1)) (live.contains (ER+p.1)))}
def Xg:Nat:=900000000
def Xf (t:Nat) (st:St):St:=match st.get t with
 | .at (.own l off len)=>match Ap st.heap l with
  |some (.arr fr tr e tid xs)=>if Nat.blt l Az=true then (st.new l (.arr fr tr e tid ((xs.drop off).take len))).put (some t) (.at (.own l 0 ((xs.drop off).take len).length)) else st
  |_=>st
 |_=>st
def Lz:Nat:=1900000000
def AR:Nat:=950000000
def Mm (c:Nat) (st:St):St:=match Ap st.heap Lz with
 |some (.var _ vs)=>match vs[c]? with
  |some (.own l off len)=>match Ap st.heap l with
   |some (.arr fr tr e te xs)=>if Nat.blt l Az=true then match Ap (st.new l (.arr fr tr e te ((xs.drop off).take len))).heap Lz with
     |some (.var tid vs')=>(st.new l (.arr fr tr e te ((xs.drop off).take len))).He Lz (.var tid (vs'.set c (.own l 0 ((xs.drop off).take len).length)))
     |_=>st
    else st
   |_=>st
  |_=>st
 |_=>st
def Mg (live:List Nat):Nat->Nat->St->St
 |0,_,st=>st
 |n+1,c,st=>Mg live n (c+1) (if live.contains (AR+c) then Mm c st else st)
def Lx (live:List Nat):Nat->Nat->St->St
 |0,_,st=>Mg live 16 0 st
 |n+1,t,st=>Lx live n (t+1) (if live.contains (Xg+t) then Xf t st else st)
def St.clean (live:List Nat) (st:St):St:=
 let s:St:= {st with tmps:=Fy live 0 st.tmps}
 let r1:=s.tmps.flatMap AV.refs
 let r2:=r1++(s.heap.filter λp=>r1.contains p.1).flatMap λp=>p.2.refs
 let s2:=Vz ((s.heap.map (·.1)).filter λl=>!r2.contains l&&Nat.blt l Az) s
 let s2:=if live.any (λt=>Nat.ble Xg t&&Nat.blt t Ys) then Lx live s2.tmps.length 0 s2 else s2
 let s3:=if live.contains Ys then Jw s2.tmps.length 0 s2 else s2
 if live.any (λt=>Nat.ble Ur t) then s3.Gj live else s3
def Dm:Code->Nat
 | .region id _ _=>id
 | .seq a _=>Dm a
 | .cond _ a _=>Dm a
 | .block _ c=>Dm c
 | .loop c=>1000+Dm c
 |_=>0
def JX (a b:List Nat):List Nat:=a++b.filter λt=>!a.contains t
def qT:List Oper->List Nat->List Nat
 | [],out=>out
 |o::r,out=>JX (o.op.operands.toList.filterMap λ | .tmp t=>some t|_=>none) (match o.dst with|some d=>(qT r out).filter (·!=d)|none=>qT r out)
def vF:List (Nat×List Nat)->Nat->List Nat
 | [],_=> []
 |(k,l)::r,id=>if k=id then l else vF r id
def ke:Code->List (Nat×List Nat)->List Nat->List Nat->List Nat×List (Nat×List Nat)
 | .region _ ops _,_,_,out=>(qT ops.toList out,[])
 | .seq a b,env,ret,out=>let rb:=ke b env ret out;let ra:=ke a env ret rb.1;(ra.1,ra.2++rb.2)
 | .cond c a b,env,ret,out=>let ra:=ke a env ret out;let rb:=ke b env ret out
  (JX (match c with| .tmp t=> [t]|_=> []) (JX ra.1 rb.1),ra.2++rb.2)
 | .block id c,env,ret,out=>ke c ((id,out)::env) ret out
 | .exit id,env,_,_=>(vF env id,[])
 | .ret,_,ret,_=>(ret,[])
 | .loop c,env,ret,_=>let l:=(ke c env ret []).1;let r:=ke c env ret l;(l,(Dm c,l)::r.2)
 |_,_,_,out=>(out,[])
def qU:List ResultVar->List Nat
 | []=> []
 | .tmp t::r=>t::qU r
 | .cell p _::r=>p::qU r
def qS (marks:List Nat) (fn:Func) (c:Code):Nat->List Nat:=let ret:=qU fn.results.toList;let g:=vF (ke c [] ret ret).2;match marks with
 | []=>g
 |m=> λid=>g id++m
def St.Mw (dead:List Nat) (st:St):St:=
 let s:St:= {st with tmps:=Fy ((List.range st.tmps.length).filter λt=>!dead.contains t) 0 st.tmps}
 let r1:=s.tmps.flatMap AV.refs
 let r2:=r1++(s.heap.filter λp=>r1.contains p.1).flatMap λp=>p.2.refs
 Vz ((s.heap.map (·.1)).filter λl=>!r2.contains l&&Nat.blt l Az) s
def Tm (ops:Array Oper) (t:Nat):Bool:=ops.toList.any λo=>o.dst==some t
def eJ (Γ:Env) (ops:Array Oper) (draw:Bool) (st:St) (K:St->Prop):Prop:=
 (∃st',Nx T Γ ops draw st=some st'/\K st')\/
 (draw=true/\Region.noSelect ops=true/\ ∃Xq,Ef T Γ ops (Hw ops) st=some Xq/\
  (anyS T Γ ops K (ops.size-(Hw ops).length) (Da (Hw ops) (Array.replicate ops.size false)) Xq\/FL T Γ ops K (ops.size-(Hw ops).length) (Da (Hw ops) (Array.replicate ops.size false)) Xq))
def q6 (Γ:Env) (ops:Array Oper) (draw:Bool) (st:St) (K:St->Prop):Prop:=
 eJ T Γ ops draw st K\/ ∃dead:List Nat,(dead.all (Tm ops))=true/\eJ T Γ ops draw st λs=>K (s.Mw dead)
def wh (K:St->Prop) (Q:Iu->St->Prop):Iu->St->Prop
 | .normal,s=>K s
 |e,s=>Q e s
def pb (id:Nat) (Q:Iu->St->Prop):Iu->St->Prop
 | .exit yE,s=>if yE=id then Q .normal s else Q (.exit yE) s
 |e,s=>Q e s
def DO (ops:Array Oper) (t:Nat):Bool:=ops.toList.any λo=>match o.op with
 | .extract (.tmp s) _=>Nat.beq s t
 | .move (.tmp s)=>Nat.beq s t
 | .assign (.tmp s)=>Nat.beq s t
 |_=>false
def Lp (ops:Array Oper):Nat->List AV->List AV
 |_,[]=> []
 |i, .Jy l::r=>(if DO ops i=true then .Jy l else .undef)::Lp ops (i+1) r
 |i,v::r=>v::Lp ops (i+1) r
def St.gK (ops:Array Oper) (st:St):St:= {st with tmps:=Lp ops 0 st.tmps}
inductive Lh (Γ:Env) (live:Nat->List Nat):Code->St->(Iu->St->Prop)->Prop where
 |skip {st:St} {Q:Iu->St->Prop} :Q .normal st->Lh Γ live .skip st Q
 |label {l:Nat} {st:St} {Q:Iu->St->Prop} :Q .normal st->Lh Γ live (.label l) st Q
 |exit {id:Nat} {st:St} {Q:Iu->St->Prop} :Q (.exit id) st->Lh Γ live (.exit id) st Q
 |ret {st:St} {Q:Iu->St->Prop} :Q .ret st->Lh Γ live .ret st Q
 |region {id:Nat} {ops:Array Oper} {draw:Bool} {st:St} {Q:Iu->St->Prop} :q6 T (rz Γ draw) ops draw (st.gK ops) (Q .normal)->Lh Γ live (.region id ops draw) st Q
 |seq {x y:Code} {st:St} {Q:Iu->St->Prop} (Q1:Iu->St->Prop):Lh Γ live x st Q1->(∀s,Q1 .normal s->Lh Γ live y s Q)->(∀e s,e≠ .normal->Q1 e s->Q e s)->Lh Γ live (.seq x y) st Q
 |cond {c:Operand} {x y:Code} {st:St} {fr t:Bool} {Q:Iu->St->Prop} :st.ev c= .at (.data fr .bool t)->(t=true->Lh Γ live x st Q)->(t=false->Lh Γ live y st Q)->Lh Γ live (.cond c x y) st Q
 |block {id:Nat} {c:Code} {st:St} {Q:Iu->St->Prop} (Q1:Iu->St->Prop):Lh Γ live c st Q1->(∀e s,Q1 e s->pb id Q e s)->Lh Γ live (.block id c) st Q
 |loop {c:Code} {st:St} {Q:Iu->St->Prop} (Q1:Iu->St->Prop):Lh Γ live c (st.clean (live (Dm c))) Q1->(∀s,Q1 .normal s->Lh Γ live (.loop c) s Q)->(∀e s,e≠ .normal->Q1 e s->Q e s)->Lh Γ live (.loop c) st Q
def Zh (st:St):List ResultVar->Option (List AV)
 | []=>some []
 | .tmp t::r=>(Zh st r).map λl=>st.get t::l
 | .cell p t::r=>match Ms T st t (st.get p),Zh st r with
  |some v,some l=>some (v::l)
  |_,_=>none
def gV (s:Spec) (fn:Func) (st:St):Option (Bool×s.res.den):=
 match Zh T st fn.results.toList with
 |some [v]=>if s.Hy then none else Dz st s.res v
 |some [v,u]=>if s.Hy then Cs st s.res [v,u] else none
 |some [v,u,t]=>if s.Hy then Cs st s.res [v,u,t] else none
 |_=>none
def Oy:(τ:Ty)->τ.den->List AV
 | .pair a r,x=> .at (.data a.flat a x.1)::Oy r x.2
 |_,_=> []
def eI (st:St):(c:CK)->AC->Option (c.den×List Nat)
 | .Ji τ,a=>if τ.flat||a.settled then (Cn st τ a).map λp=>(p.2,[]) else none
 | .row e te, .own l off len=>match st.at l with
  |some (.arr _ _ e' Nr xs)=>if h:e'=e/\Nr=te then some ((((h.1▸xs:List e.den).drop off).take len),[l]) else none
  |_=>none
 | .row _ _, .Jf=>some ([],[])
 | .Fl e te, .own l off len=>match st.at l with
  |some (.arr _ tr e' Nr xs)=>if h:e'=e/\Nr=te/\(tr||e.flat)=true then some ((((h.1▸xs:List e.den).drop off).take len),[l]) else none
  |some (.Ev e' Nr xs)=>if h:e'=e/\Nr=te then some ((((h.1▸xs:List e.den).drop off).take len),[l]) else none
  |_=>none
 | .Fl _ _, .Jf=>some ([],[])
 | .Bc e te _, .own l off len=>match st.at l with
  |some (.Bc e' Nr rows none _)=>if h:e'=e/\Nr=te/\off=0/\len=rows.length then some ((h.1▸rows:List (List e.den)),[l]) else none
  |_=>none
 |_,_=>none
def Qq (st:St):(cs:List CK)->List AC->Option (CKs.den cs×List Nat)
 | [],[]=>some ((),[])
 |c::r,a::as=>match eI st c a,Qq st r as with
  |some (x,t1),some (y,t2)=>some ((x,y),t1++t2)
  |_,_=>none
 |_,_=>none
def jK (st:St) (l:Nat):(c:CK)->Option c.den
 | .Ji _=>none
 | .row e te=>match st.at l with
  |some (.arr _ _ e' Nr xs)=>if h:e'=e/\Nr=te then some (h.1▸xs) else none
  |_=>none
 | .Fl e te=>match st.at l with
  |some (.Ev e' Nr xs)=>if h:e'=e/\Nr=te then some (h.1▸xs) else none
  |_=>none
 | .part _ _=>none
 | .Bc _ _ _=>none
def Ln (st:St):(k:Nat)->(cs:List (Bool×CK))->Option (IOs.den cs)
 |_,[]=>some ()
 |k,(true, .Ji _)::r=>Ln st (k+1) r
 |k,(true, .Bc _ _ _)::r=>Ln st (k+1) r
 |k,(true, .row e te)::r=>match jK st (Cp true k) (.row e te),Ln st (k+1) r with
  |some x,some y=>some (x,y)
  |_,_=>none
 |k,(true, .Fl e te)::r=>match jK st (Cp true k) (.Fl e te),Ln st (k+1) r with
  |some x,some y=>some (x,y)
  |_,_=>none
 |k,(true, .part e te)::r=>match jK st (Cp true k) (.row e te),Ln st (k+1) r with
  |some x,some y=>some (x,y)
  |_,_=>none
 |k,(false,_)::r=>Ln st (k+1) r
def Mj:(k:Nat)->List (Bool×CK)->List Nat
 |_,[]=> []
 |k,(true, .Ji _)::r=>Mj (k+1) r
 |k,(true, .Bc _ _ _)::r=>Mj (k+1) r
 |k,(true,_)::r=>Cp true k::Mj (k+1) r
 |k,(false,_)::r=>Mj (k+1) r
def Gq:(k:Nat)->List (Bool×CK)->List AC->Option (List AC)
 |_,_,[]=>some []
 |k,(true, .row _ _)::r, .own l _ _::as=>if Nat.beq l (Cp true k) then Gq (k+1) r as else none
 |k,(true, .Fl _ _)::r, .own l _ _::as=>if Nat.beq l (Cp true k) then Gq (k+1) r as else none
 |k,(false,_)::r,a::as=>(Gq (k+1) r as).map λl=>a::l
 |_,_,_=>none
def dt (st:St):List AC->List (Bool×CK)->Prop
 | .own l off len::as,(true,_)::r=>(off=0/\match st.at l with
  |some (.arr _ _ _ _ xs)=>len=xs.length
  |some (.Ev _ _ xs)=>len=xs.length
  |_=>False)/\dt st as r
 |_::as,(false,_)::r=>dt st as r
 |_,_=>True
def wD (s:MSpec) (st:St) (l:List AV):Option (List AC×List Nat):=match s.rp with
 |none=>if s.Hy=Nat.blt 1 l.length then (ungroup s.Ia l).map λas=>(as,[]) else none
 |some tid=>match l with
  | [.at (.Ez m i)]=>match st.at m with
   |some (.var Qj vs)=>if Qj=tid/\i=0/\Nat.blt m Az=true then some (vs,[m]) else none
   |_=>none
  |_=>none
def ph (st:St) (n:Nat) (as:List AC):List (Nat×Nat)->Prop
 | []=>True
 |(k,j)::r=>(match as[j]? with
  |some (.own l _ _)=>match st.at l with
   |some (.Bc _ _ _ _ (some p))=>p.1=Cp false k/\n<=p.2/\Nat.blt k 1000=true
   |_=>False
  |_=>False)/\ph st n as r
def eA (s:MSpec) (fn:Func) (x:Ins.den s.ins) (st:St) (cs:List AC) (P:CKs.den s.outs×IOs.den s.ins->Prop):Prop:=
 match Zh T st fn.results.toList with
 |none=>False
 |some l=>match wD s st l with
  |none=>False
  |some (as,ml)=>match Qq st s.outs (cs++as),Ln st 0 s.ins with
   |some (r,ls),some o=>(Uv (ml++ls++Mj 0 s.ins)&&Nat.blt s.ins.length 1000&&Nat.blt s.outs.length 1000&&s.CS)=true/\ph st (s.Ep x) (cs++as) s.keeps/\P (r,o)
   |_,_=>False
def AF (s:MSpec) (fn:Func) (x:Ins.den s.ins) (st:St) (P:CKs.den s.outs×IOs.den s.ins->Prop):Prop:=
 match s.ptr with
 |none=>eA T s fn x st [] P
 |some p=> ∃vs cs,st.at Lz=some (.var p.1 vs)/\vs.length=p.2/\Gq 0 s.ins vs=some cs/\dt st vs s.ins/\eA T s fn x st cs P
def Vd (s:MSpec) (as:List AC):List AV:=match s.ptr with
 |none=>Pb s.Jg as
 |some p=> .at (.Ez Lz 0)::Pb s.Jg (as.drop p.2)
def ka (s:MSpec) (x:Ins.den s.ins):List (Nat×OB):=match s.ptr with
 |none=>Ug 0 s.ins x
 |some p=>Ug 0 s.ins x++ [(Lz, .var p.1 ((Xa 0 s.ins x).take p.2))]
def Uk:List (Bool×CK)->Bool
 | []=>true
 |(true, .Bc _ _ _)::_=>false
 |_::r=>Uk r
def rn (s:MSpec):Bool:=Uk s.ins&&match s.ptr with
 |none=>true
 |some p=>Nat.ble p.2 s.ins.length
def HP (Γ:Env) (s:MSpec) (fn:Func) (x:Ins.den s.ins) (P:CKs.den s.outs×IOs.den s.ins->Prop):Prop:=
 (Nat.blt s.ins.length 1000&&rn s)=true/\ ∃c,fn.body=some c/\Lh T Γ (qS T.marks fn c) c {tmps:=Vd s (Xa 0 s.ins x)++List.replicate (fn.ntmps-(Vd s (Xa 0 s.ins x)).length) .undef,heap:=ka s x}
  (λe st=>(∀id,e≠ .exit id)/\AF T s fn x st P)
def AG (Γ:Env) (s:Spec) (fn:Func) (x:s.arg.den) (P:s.res.den->Prop):Prop:=
 ∃c,fn.body=some c/\Lh T Γ (qS T.marks fn c) c {tmps:=Oy s.arg x++List.replicate (fn.ntmps-(Oy s.arg x).length) .undef,heap:= []}
  (λe st=>(∀id,e≠ .exit id)/\ ∃fr y,gV T s fn st=some (fr,y)/\(fr||!s.fresh)=true/\P y)
end Go.Proofs.Ytfgfigkbgecfnaa
