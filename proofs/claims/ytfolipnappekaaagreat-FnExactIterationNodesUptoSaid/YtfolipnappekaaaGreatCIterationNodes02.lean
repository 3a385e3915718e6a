/-
  Part 3 of the proof that the statement FnExactIterationNodes holds.
-/
import Derived.Test.YtfolipnappekaaaGreatCIterationNodes01
namespace Go.Proofs.YtfolipnappekaaaGreat
open Go.RowKit
def Ho:Nat->St->List AC->Option (List AC×St)
 |0,st,cs=>if cs.all (·.settled) then some (cs,st) else none
 |n+1,st,cs=>
  match cs.find? (λc=>!c.settled) with
  |none=>some (cs,st)
  |some (.own l _ _)=>match st.at l with
   |some (.arr fr _ e _ xs)=>Ho n (st.freeze l fr e xs) (cs.map (Da l fr e xs))
   |some (.Gu e _ xs)=>Ho n (st.freeze l false e xs) (cs.map (Da l false e xs))
   |_=>none
  |some (.Kh l)=>match st.at l with
   |some (.Vv v m)=>Ho n (st.Ir l v m) (cs.map (Hb l v m))
   |_=>none
  |some _=>none
def settle (st:St):AV->Option (AV×St)
 | .at (.own l off len)=>match st.at l with
  |some (.arr fr _ e _ xs)=>some (.at (.data fr (.slice e) ((xs.drop off).take len)),st.freeze l fr e xs)
  |some (.Gu e _ xs)=>some (.at (.data false (.slice e) ((xs.drop off).take len)),st.freeze l false e xs)
  |_=>none
 | .at (.Kh l)=>match st.at l with
  |some (.Vv v m)=>some (.at (.data false (.smap v) m),st.Ir l v m)
  |_=>none
 | .at a=>if a.settled then some (.at a,st) else none
 | .agg cs=>(Ho cs.length st cs).map λp=>(.agg p.1,p.2)
 | .bL fr τ x=>some (.bL fr τ x,st)
 | .Ms _=>none
def AC.refs:AC->List Nat
 | .own l _ _| .Hj l _| .Jz l _| .Kh l| .sub l _ _| .Jv l _ _=> [l]
 | .clo _ Ee=>Ee.map (·.1)
 |_=> []
def aC:List Nat->Bool
 | []=>true
 |a::r=>!r.contains a&&aC r
def Ty.tree:Ty->Bool
 | .int _| .bool| .str| .unit=>true
 | .slice e=>e.tree
 | .pair a r=>a.tree&&r.tree
 |_=>false
def Sd (st:St):AC->Bool
 | .data _ τ _=>τ.flat
 | .Lr=>true
 | .own l _ _=>match st.at l with
  |some (.arr _ tr e _ _)=>tr||e.flat
  |some (.Gu _ _ _)=>true
  |_=>false
 |_=>false
def Tn (st:St):AV->Bool
 | .at a=>Sd st a
 | .agg cs=>cs.all (Sd st)&&aC (cs.flatMap AC.refs)
 |_=>false
def Bn:Nat:=1000000000
variable (T:Tab)
def RW (t:TypeId) (τ:Ty) (i:Nat):Option TypeId:=
 if τ.Aq then (List.range 24).findSome? λf=>match T.off t f with
  |some (o,u)=>if o=i then some u else none
  |none=>none
 else some t
def Tab.SE (te:TypeId):Option Ty:=if T.ZY.contains te then (match T.ty te with
 |some (.slice e)=>some e
 |_=>none) else none
def dU (te:TypeId) (e:Ty):OB:=match T.SE te with
 |some e'=> .Bm e' te [] none none
 |none=> .arr (T.u9||e.flat) T.DK e te []
def Uw (b:OB) (key l i:Nat) (st:St):St:=
 match st.at l with
 |some (.var _ vs)=>match vs[i]? with
  |some .Lr=>
   let s1:=st.new key b
   match s1.at l with
   |some (.var tid vs')=>s1.Ju l (.var tid (Su vs' i (.own key 0 0)))
   |_=>s1
  |_=>st
 |_=>st
def fG (l:Nat) (t:TypeId) (τ:Ty):Nat->Nat->St->St
 |0,_,st=>st
 |n+1,i,st=>
  fG l t τ n (i+1) (match ((RW T t τ i).bind T.elem).bind λte=>(T.ty te).map λe=>(te,e) with
   |some (te,e)=>Uw (dU T te e) (100000+l*100+i) l i st
   |none=>st)
def eA (l off:Nat) (t:TypeId) (τ:Ty):Nat->Nat->St->St
 |0,_,st=>st
 |n+1,i,st=>
  eA l off t τ n (i+1) (match ((RW T t τ i).bind T.elem).bind λte=>(T.ty te).map λe=>(te,e) with
   |some (te,e)=>Uw (dU T te e) (100000+l*100+(off+i)) l (off+i) st
   |none=>st)
def zeroCells:(τ:Ty)->List AC
 | .unit=> []
 | .pair a r=>zeroCells a++zeroCells r
 | .slice _=> [.Lr]
 | .oslice _=> [.Lr]
 | .ptr _=> [.Vu]
 | .optr _=> [.Vu]
 | .clo _ _=> [.undef]
 |τ=> [.data true τ τ.zero]
def cellsOf (τ:Ty):AV->Option (List AC)
 | .agg cs=>if τ.Aq&&cs.length==τ.size then some cs else none
 | .at (.data fr Oh x)=>if Oh=τ then some (Sl fr Oh x) else none
 | .at .undef=>none
 | .at .skip=>none
 | .at a=>if τ.Aq then none else some [a]
 |_=>none
def mkVar (st:St) (l:Nat) (t:TypeId) (τ:Ty) (cs:List AC):Option (AV×St):=
 if Bn<=100000+l*100+cs.length then none else
 let s:=fG T l t τ cs.length 0 (st.new l (.var t (cs.map (Cr l))))
 match s.at l with
 |some (.var _ _)=>some (.at (.Hj l 0),s)
 |_=>none
def Qf:(τ:Ty)->List AC
 | .unit=> []
 | .pair a r=>Qf a++Qf r
 | .slice e=> [.data false (.slice e) []]
 | .oslice _=> [.Lr]
 | .ptr _=> [.Vu]
 | .optr _=> [.Vu]
 | .clo _ _=> [.undef]
 |τ=> [.data false τ τ.zero]
def Wb:Nat:=1300000000
def uM (st:St) (l:Nat) (t:TypeId) (cs:List AC):Option (AV×St):=
 if Bn<=100000+l*100+cs.length then none else some (.at (.Hj l 0),st.new l (.var t (cs.map (Cr l))))
def Dw {α:Type} (xs:List α) (i:Nat) (ys:List α):List α:=xs.take i++ys++xs.drop (i+ys.length)
def ZT (st:St) (τ:Ty) (l:Nat) (v:AV):AV:=match T.marks.contains (Wb+l)&&v.settled with
 |true=>match Fq st τ v with
  |some p=> .at (.data false τ p.2)
  |none=>v
 |false=>v
def Ve (st:St) (t:TypeId) (p v:AV):Option St:=
 match T.ty t,p with
 |some τ, .at (.Hj l i)=>match st.at l,cellsOf τ (ZT T st τ l v) with
  |some (.var tid vs),some cs=>if i+cs.length<=vs.length then some (if τ.Aq&&Nat.blt (100000+l*100+(i+cs.length)) Bn then eA T l i t τ cs.length 0 (st.Ju l (.var tid (Dw vs i cs))) else st.Ju l (.var tid (Dw vs i cs))) else none
  |_,_=>none
 |some τ, .at (.Jz l j)=>match settle st v with
  |some (v',st')=>match st'.at l,Fq st' τ v' with
   |some (.arr fr tr e tid xs),some (Wf,x)=>if h:τ=e then (if j<xs.length then some (st'.Ju l (.arr (fr&&Wf) (tr&&(Tn st v&&e.tree)) e tid (xs.set j (h▸x)))) else none) else none
   |_,_=>none
  |none=>none
 |_,_=>none
def Cq:Nat:=4294967296
def Nz (st:St) (dst:Nat) (t:TypeId) (x y:Operand):Option (AV×St):=
 match T.elem t with
 |none=>none
 |some te=>match T.ty te,settle st (st.ev y) with
  |some e,some (y',st')=>match Fq st' (.slice e) y' with
   |none=>none
   |some (sM,ys)=>
    let tr2:=e.flat||(Tn st (st.ev y)&&e.tree)
    match st'.ev x with
    | .at .Lr=>if ys.length<=Cq/\dst<Bn then some (.at (.own dst 0 (0+ys.length)),(st'.new dst (.arr (T.u9||e.flat) T.DK e te [])).new dst (.arr ((T.u9||e.flat)&&(sM||e.flat)) (T.DK&&tr2) e te (((([]:List e.den).drop 0).take 0)++ys))) else none
    | .at (.own l off len)=>match st'.at l with
     |some (.arr fr tr e' tid xs)=>if h:e'=e/\tid=te then
       (if len+ys.length<=Cq/\l<Bn then
        some (.at (.own l 0 (len+ys.length)),st'.new l (.arr (fr&&(sM||e.flat)) (tr&&tr2) e te ((((h.1▸xs:List e.den).drop off).take len)++ys))) else none)
      else none
     |_=>none
    |_=>none
  |_,_=>none
def Qg (st:St) (l i m:Nat) (e:Ty) (te tid:TypeId) (rows:List (List e.den)) (kp:Option (Nat×Nat)):St:=
 (st.Ju l (.Bm e te rows (some i) kp)).new m (.arr false false e tid (rows.getD i []))
def Rk (st:St) (dst:Nat) (t:TypeId) (x y:Operand):Option (AV×St):=
 match x with
 | .tmp tx=>match st.get tx with
  | .at (.sub l i _)=>match st.at l,T.elem t with
   |some (.Bm e te rows none kp),some tid=>if (Nat.blt l Bn&&(Nat.blt dst Bn&&!Nat.beq dst l))=true then Nz T ((Qg st l i dst e te tid rows kp).put (some tx) (.at (.own dst 0 (rows.getD i []).length))) dst t x y else none
   |_,_=>none
  |_=>Nz T st dst t x y
 |_=>Nz T st dst t x y
def mT:Ty->Bool
 | .int _| .bool| .str| .slice _| .oslice _=>true
 |_=>false
def gg:Ty->Bool
 | .unit=>true
 | .pair a r=>gg a&&gg r
 |e=>mT e
def bV (st:St) (dst:Nat) (t:TypeId) (l c:AV):Option (AV×St):=
 match T.elem t,l,c with
 |some te, .at (.data _ (.int _) n), .at (.data _ (.int _) m)=>match T.ty te with
  |some e=>if inb n (Cq+1)=true/\n=m/\gg e=true/\dst<Bn then some (.at (.own dst 0 n.toNat),st.new dst (.arr (T.u9||e.flat) (T.DK&&e.tree) e te (List.replicate n.toNat e.zero))) else none
  |none=>none
 |_,_,_=>none
def Lb (e:Ty):Nat->List (Nat×Operand)->St->Option (Bool×Bool×List e.den×St)
 |_,[],st=>some (true,true,[],st)
 |i,(j,x)::r,st=>
  if i=j then match settle st (st.ev x) with
   |some (v,st')=>match Fq st' e v with
    |some (fr,y)=>match Lb e (i+1) r st' with
     |some (Wf,tr',ys,Auy)=>some (fr&&Wf,Tn st (st.ev x)&&e.tree&&tr',y::ys,Auy)
     |none=>none
    |none=>none
   |none=>none
  else none
def Mi (st:St) (dst:Nat) (t:TypeId) (len:Nat) (parts:Array (Nat×Operand)):Option (AV×St):=
 match T.elem t with
 |none=>none
 |some te=>match T.ty te with
  |none=>none
  |some e=>if parts.size=len/\len<=64/\e.size<=64/\dst<Bn then (match Lb e 0 parts.toList st with
   |some (fr,tr,ys,st')=>some (.at (.own dst 0 len),st'.new dst (.arr ((T.u9||e.flat)&&fr) (T.DK&&tr) e te ys))
   |none=>none) else none
def Vd (st:St) (dst:Nat) (t:TypeId):Option (AV×St):=
 match T.mapOf t with
 |some v=>if dst<Bn then some (.at (.Kh dst),st.new dst (.Vv v λ_=>none)) else none
 |none=>none
def jL {α:Type} (m:ByteArray->Option α) (k:ByteArray) (x:α):ByteArray->Option α:= λs=>if s=k then some x else m s
def Jc (st:St) (t:TypeId) (m k x:AV):Option St:=
 match T.mapOf t,m,k with
 |some v, .at (.Kh l), .at (.data _ .str s)=>match st.at l,Fq st v x with
  |some (.Vv v' f),some (_,y)=>if h:v'=v/\v.flat=true/\v.Aq=false then some (st.Ju l (.Vv v (jL (h.1▸f:ByteArray->Option v.den) s y))) else none
  |_,_=>none
 |_,_,_=>none
def iG (st:St) (t t':TypeId) (x y:AV):Option (AV×St):=
 match x,(T.elem t).bind T.ty with
 | .at (.own l off len),some e=>if T.elem t=T.elem t'/\e.flat=true/\e.size=1 then match st.at l,Fq st (.slice e) y with
  |some (.arr fr _ e' tid xs),some (_,ys)=>if h:e'=e/\T.elem t=some tid then
    some (.at (.data true (.int .i64) (min len ys.length:Nat)),st.Ju l (.arr fr false e tid (Dw (h.1▸xs:List e.den) off (ys.take len))))
   else none
  |_,_=>none
  else none
 |_,_=>none
def evalClear (st:St) (t:TypeId) (x:AV):Option St:=
 match x,(T.elem t).bind T.ty with
 | .at (.own l off len),some e=>if e.flat=true/\mT e=true then match st.at l with
  |some (.arr fr _ e' tid xs)=>if h:e'=e/\T.elem t=some tid then
    some (st.Ju l (.arr fr false e tid (Dw (h.1▸xs:List e.den) off (List.replicate len e.zero))))
   else none
  |_=>none
  else none
 |_,_=>none
def Mh (st:St) (t:TypeId):List (Nat×Operand)->List AC->Option (List AC)
 | [],cs=>some cs
 |(i,x)::r,cs=>
  match T.off t i with
  |some (o,u)=>match T.ty u with
   |some ρ=>match cellsOf ρ (st.ev x) with
    |some c=>if o+c.length<=cs.length then Mh st t r (Dw cs o c) else none
    |none=>none
   |none=>none
  |none=>none
def Xy (st:St) (t:TypeId) (parts:Array (Nat×Operand)):Option AV:=
 match T.ty t with
 |none=>none
 |some τ=>if τ.Aq then (Mh T st t parts.toList (zeroCells τ)).map .agg else none
def Ds (io:Bool) (k:Nat):Nat:=if io then 1000000000+k else 500000+k
def Jp (k:Nat):Nat:=600000+k
def Abn (dst:Nat) (k:Nat):Nat:=1000000*(dst+1)+k
def Te:List (Option Nat)->List AC->List AV
 |none::s,a::as=> .at a::Te s as
 |some n::s,as=> .agg (as.take n)::Te s (as.drop n)
 |_,_=> []
def Kp:List (Option Nat)->List Value->List Value
 |none::s,u::us=>u::Kp s us
 |some n::s,us=> .agg (us.take n).toArray::Kp s (us.drop n)
 |_,_=> []
def ungroup:List (Option Nat)->List AV->Option (List AC)
 | [],[]=>some []
 |none::s, .at a::as=>(ungroup s as).map λr=>a::r
 |some n::s, .agg cs::as=>if cs.length=n then (ungroup s as).map λr=>cs++r else none
 |some n::s, .at (.data fr τ x)::as=>if τ.Aq=true/\(Sl fr τ x).length=n then (ungroup s as).map λr=>Sl fr τ x++r else none
 |_,_=>none
def kQ (l:Nat):(c:CK)->c.den->Option OB
 | .Fm _,_=>none
 | .row e te,xs=>some (.arr false false e te xs)
 | .Hk e te,xs=>some (.Gu e te xs)
 | .part e te,x=>some (.arr false false e te x.1)
 | .Bm e te kp,xs=>some (.Bm e te xs none (if kp then some (l,List.length xs) else none))
def Ars (l:Nat):(c:CK)->c.den->AC
 | .Fm τ,x=> .data τ.flat τ x
 | .row _ _,xs=> .own l 0 (List.length xs)
 | .Hk _ _,xs=> .own l 0 (List.length xs)
 | .part _ _,x=> .own l x.2.1 x.2.2
 | .Bm _ _ _,xs=> .own l 0 (List.length xs)
def iA {α:Type} (l:Nat):Option α->List (Nat×α)->List (Nat×α)
 |none,r=>r
 |some b,r=>(l,b)::r
def a7:(k:Nat)->(cs:List (Bool×CK))->Ins.den cs->List (Nat×OB)
 |_,[],_=> []
 |k,p::r,x=>iA (Ds p.1 k) (kQ (Ds p.1 k) p.2 x.1) (a7 (k+1) r x.2)
def c7:(k:Nat)->(cs:List (Bool×CK))->Ins.den cs->List AC
 |_,[],_=> []
 |k,p::r,x=>Ars (Ds p.1 k) p.2 x.1::c7 (k+1) r x.2
inductive Loc where
 |row (l:Nat)
 |sub (l i c:Nat)
 |view (l:Nat)
 deriving DecidableEq
def Loc.Xf:Loc->Nat
 | .row l=>l
 | .sub l _ _=>l
 | .view l=>l
def Loc.reads:Loc->Bool
 | .view _=>true
 |_=>false
def cw (st:St) (ls:List Nat):Bool:=ls.all λl=>match st.at l with|some (.var _ vs)=>vs.all (·.settled)|_=>false
def views (k:Nat) (ls:List Nat):List (Nat×Loc):=ls.map λl=>(Ds false k, .view l)
def Lx (st:St) (io:Bool) (k:Nat):(c:CK)->AC->Option (c.den×List (Nat×Loc))
 | .Fm τ, .own l off len=>(Du st τ (.own l off len)).map λp=>(p.2,[(Ds false k, .view l)])
 | .Fm τ, .clo g Ee=>if cw st (Ee.map (·.1))&&!τ.Aq then (Js st τ (.clo g Ee)).map λp=>(p.2,views k (Ee.map (·.1))) else none
 | .Fm τ, .Hj l i=>if cw st [l]&&!τ.Aq then (Js st τ (.Hj l i)).map λp=>(p.2,views k [l]) else none
 | .Fm τ, .sub l i c=>(Du st τ (.sub l i c)).map λp=>(p.2,[(Ds false k, .view l)])
 | .Fm τ,a=>if τ.flat||a.settled then (Du st τ a).map λp=>(p.2,[]) else none
 | .row e te, .own l off len=>match st.at l with
  |some (.arr _ _ e' Rf xs)=>if h:e'=e/\Rf=te/\off=0/\len=xs.length then some ((h.1▸xs:List e.den),[(Ds io k, .row l)]) else none
  |_=>none
 | .row e _, .sub l i c=>match st.at l with
  |some (.Gu e' _ xs)=>if h:e'= .slice e/\e.flat=true/\io=true/\c=0 then xs[i]?.map λy=>((h.1▸y:(Ty.slice e).den),[(Ds io k, .sub l i c)]) else none
  |_=>none
 | .row _ _, .Lr=>some ([],[])
 | .Hk e te, .own l off len=>match st.at l with
  |some (.Gu e' Rf xs)=>if h:e'=e/\Rf=te/\off=0/\len=xs.length then some ((h.1▸xs:List e.den),[(Ds io k, .row l)]) else none
  |_=>none
 | .Hk e _, .sub l i c=>match st.at l with
  |some (.Gu e' _ xs)=>if h:e'= .slice e/\io=true/\c=0 then xs[i]?.map λy=>((h.1▸y:(Ty.slice e).den),[(Ds io k, .sub l i c)]) else none
  |_=>none
 | .Hk _ _, .Lr=>some ([],[])
 | .part e te, .own l off len=>match st.at l with
  |some (.arr _ _ e' Rf xs)=>if h:e'=e/\Rf=te/\e.flat=true/\io=true then some (((h.1▸xs:List e.den),off,len),[(Ds io k, .row l)]) else none
  |_=>none
 | .Bm e te _, .own l off len=>match st.at l with
  |some (.Bm e' Rf rows none _)=>if h:e'=e/\Rf=te/\off=0/\len=rows.length/\io=false then some ((h.1▸rows:List (List e.den)),[(Ds io k, .row l)]) else none
  |_=>none
 |_,_=>none
def fY (st:St):(k:Nat)->(cs:List (Bool×CK))->List AC->Option (Ins.den cs×List (Nat×Loc))
 |_,[],[]=>some ((),[])
 |k,p::r,a::as=>match Lx st p.1 k p.2 a,fY st (k+1) r as with
  |some (x,t1),some (y,t2)=>some ((x,y),t1++t2)
  |_,_=>none
 |_,_,_=>none
def cF (st:St):(c:CK)->c.den->AC->Option St
 | .row e _,ys, .own l _ len=>match st.at l with
  |some (.arr fr tr e' te xs)=>if h:e=e'/\List.length ys=len/\xs.length=len then some (st.Ju l (.arr (fr&&e'.flat) (tr&&e'.flat) e' te (h.1▸ys))) else none
  |_=>none
 | .Hk e _,ys, .own l _ len=>match st.at l with
  |some (.Gu e' te xs)=>if h:e=e'/\List.length ys=len/\xs.length=len then some (st.Ju l (.Gu e' te (h.1▸ys))) else none
  |_=>none
 | .row e _,ys, .sub l i _=>match st.at l with
  |some (.Gu e' te xs)=>if h: .slice e=e' then (match xs[i]? with
   |some y=>if List.length ys=List.length (h▸y:(Ty.slice e).den) then some (st.Ju l (.Gu e' te (xs.set i (h▸(ys:(Ty.slice e).den))))) else none
   |none=>none) else none
  |_=>none
 | .Hk e _,ys, .sub l i _=>match st.at l with
  |some (.Gu e' te xs)=>if h: .slice e=e' then (match xs[i]? with
   |some y=>if List.length ys=List.length (h▸y:(Ty.slice e).den) then some (st.Ju l (.Gu e' te (xs.set i (h▸(ys:(Ty.slice e).den))))) else none
   |none=>none) else none
  |_=>none
 |_,_, .Lr=>some st
 |_,_,_=>none
def PE (st:St) (e:Ty) (ys:List e.den):AC->Option St
 | .own l _ _=>match st.at l with
  |some (.arr fr tr e' te xs)=>if h:e=e'/\List.length ys=xs.length then some (st.Ju l (.arr fr tr e' te (h.1▸ys))) else none
  |_=>none
 |_=>none
def Hz:(cs:List (Bool×CK))->IOs.den cs->List AC->St->Option St
 | [],_,_,st=>some st
 |(true, .Fm _)::r,x,_::as,st=>Hz r x as st
 |(true, .row e te)::r,x,a::as,st=>match cF st (.row e te) x.1 a with
  |some st'=>Hz r x.2 as st'
  |none=>none
 |(true, .Hk e te)::r,x,a::as,st=>match cF st (.Hk e te) x.1 a with
  |some st'=>Hz r x.2 as st'
  |none=>none
 |(true, .part e _)::r,x,a::as,st=>match PE st e x.1 a with
  |some st'=>Hz r x.2 as st'
  |none=>none
 |(true, .Bm _ _ _)::r,x,_::as,st=>Hz r x as st
 |(false,_)::r,x,_::as,st=>Hz r x as st
 |_,_,_,_=>none
def Cs (dead part:List Nat) (c:AC):AC:=if c.refs.any (λl=>dead.contains l) then .undef else match c with
 | .sub l i c=>if part.contains l then .undef else .sub l i c
 | .Jv l i c=>if part.contains l then .undef else .Jv l i c
 |c=>c
def Xw:List (Nat×OB)->List Nat->List (Nat×OB)
 | [],_=> []
 |(k,b)::r,dead=>if dead.contains k then Xw r dead else (k,b)::Xw r dead
def St.cQ (st:St) (dead part:List Nat):St:=let s:=st.Ks (Cs dead part); {s with heap:=Xw s.heap dead}
def Tw (st:St) (l j m:Nat) (e:Ty) (te:TypeId) (rows:List (List e.den)) (xs:List e.den) (kp:Option (Nat×Nat)):St:=
 (st.cQ [m] [l]).Ju l (.Bm e te (rows.set j xs) none kp)
def ca (j:Nat):Option (Nat×Nat)->Option (Nat×Nat)
 |none=>none
 |some p=>some (p.1,min p.2 j)
def bX (st:St) (t:TypeId) (p v:AV):Option St:=
 match T.ty t,p with
 |some τ, .at (.Jv l i j)=>match settle st v with
  |some (v',st')=>match st'.at l,Fq st' τ v' with
   |some (.Bm e te rows none kp),some (_,x)=>if h:τ=e then some (st'.Ju l (.Bm e te (rows.set i ((rows.getD i []).set j (h▸x))) none kp)) else none
   |_,_=>none
  |none=>none
 |some τ, .at (.Jz l j)=>match st.at l,v with
  |some (.Bm e te rows out kp), .at (.own m off len)=>match st.at m with
   |some (.arr _ _ e' _ xs)=>if h:e'=e/\(Nat.blt l Bn&&(!Nat.beq m l&&!τ.Aq))=true/\off=0/\len=xs.length/\(out=none\/out=some j) then some (Tw st l j m e te rows (h.1▸xs) (ca j kp)) else none
   |_=>none
  |_,_=>none
 |_,_=>none
def SF (st:St):AV->Bool
 | .at (.Jv _ _ _)=>true
 | .at (.Jz l _)=>match st.at l with
  |some (.Bm _ _ _ _ _)=>true
  |_=>false
 |_=>false
def Py (st:St) (t:TypeId) (p v:AV):Option St:=match SF st p with
 |true=>bX T st t p v
 |false=>Ve T st t p v
def Ra (st:St) (k m:Nat) (b:OB):St:=let s:=st.cQ [m,k] []; {s with heap:=Oj s.heap k b}
def ec (t:TypeId):Option (TypeId×Ty):=(T.elem t).bind λte=>(T.SE te).map λe=>(te,e)
def Yb (st:St) (dst:Nat) (t:TypeId) (l c:AV):Option (AV×St):=
 match ec T t with
 |none=>bV T st dst t l c
 |some (te,e)=>match l,c with
  | .at (.data _ (.int _) n), .at (.data _ (.int _) m)=>if inb n (Cq+1)=true/\n=m/\dst<Bn then some (.at (.own dst 0 n.toNat),Ra st dst dst (.Bm e te (List.replicate n.toNat []) none none)) else none
  |_,_=>none
def Iz (st:St) (dst:Nat) (t:TypeId) (len:Nat) (parts:Array (Nat×Operand)):Option (AV×St):=
 match ec T t with
 |none=>Mi T st dst t len parts
 |some (te,e)=>match parts.toList with
  | [(0,x)]=>match st.ev x with
   | .at (.own m off ln)=>match st.at m with
    |some (.arr _ _ e' _ xs)=>if h:e'=e/\(Nat.beq len 1&&(Nat.blt dst Bn&&Nat.blt m Bn))=true/\off=0/\ln=xs.length then some (.at (.own dst 0 1),Ra st dst m (.Bm e te [h.1▸xs] none none)) else none
    |_=>none
   |_=>none
  |_=>none
def Rl (st:St) (dst:Nat) (t:TypeId) (x y:Operand):Option (AV×St):=
 match ec T t with
 |none=>Rk T st dst t x y
 |some (te,e)=>match st.ev x,st.ev y with
  | .at (.own l off len), .at (.own m Abp uH)=>match st.at l,st.at m with
   |some (.Bm e1 te1 A none _),some (.Bm e2 xM B none _)=>
    if h:(e1=e/\e2=e)/\(decide (te1=te)&&decide (xM=te)&&(Nat.blt l Bn&&(Nat.blt m Bn&&!Nat.beq m l)))=true/\(off=0/\len=A.length)/\(Abp=0/\uH=B.length)/\0<B.length/\A.length+B.length<=Cq then
     some (.at (.own l 0 (A.length+B.length)),Ra st l m (.Bm e te ((h.1.1▸A:List (List e.den))++(h.1.2▸B:List (List e.den))) none none))
    else none
   |_,_=>none
  |_,_=>none
def x7 (fr:Bool):(c:CK)->c.den->Option OB
 | .Fm _,_=>none
 | .row e te,xs=>some (.arr (fr&&e.flat) false e te xs)
 | .Hk e te,xs=>some (.Gu e te xs)
 | .part e te,x=>some (.arr (fr&&e.flat) false e te x.1)
 | .Bm e te _,xs=>some (.Bm e te xs none none)
def GU (H:List (Nat×OB)) (l:Nat):Option OB->List (Nat×OB)
 |some b=>Oj H l b
 |none=>H
def Yj (fr:Bool) (key:Nat->Nat):(k:Nat)->(cs:List CK)->CKs.den cs->List (Nat×OB)->List (Nat×OB)
 |_,[],_,H=>H
 |k,c::r,x,H=>Yj fr key (k+1) r x.2 (GU H (key k) (x7 fr c x.1))
def cf (key:Nat->Nat):(k:Nat)->(cs:List CK)->CKs.den cs->List AC
 |_,[],_=> []
 |k,c::r,x=>(match c,x.1 with
  | .Fm τ,y=> .data τ.flat τ y
  | .row _ _,xs=> .own (key k) 0 (List.length xs)
  | .Hk _ _,xs=> .own (key k) 0 (List.length xs)
  | .Bm _ _ _,xs=> .own (key k) 0 (List.length xs)
  | .part _ _,_=> .undef)::cf key (k+1) r x.2
def aD:List (Option Nat)->List AC->List (Bool×List AC)
 |none::s,a::as=>(false,[a])::aD s as
 |some n::s,as=>(true,as.take n)::aD s (as.drop n)
 |_,_=> []
def Apm (He:Bool) (sh:List (Option Nat)) (as:List AC):Option AV:=
 if He then some (.Ms (aD sh as)) else match Te sh as with
  | [v]=>some v
  | []=>some .undef
  |_=>none
def np (tks:List (Nat×Loc)):List Nat:=(tks.filter λt=>Nat.blt t.1 Bn&&!t.2.reads).map λt=>t.2.Xf
def whole (tks:List (Nat×Loc)):List Nat:=tks.flatMap λt=>match t.2 with| .row l=> [l]|_=> []
def DQ (tks:List (Nat×Loc)):List Nat:=(tks.filter λt=>t.2.reads).map λt=>t.2.Xf
def HF (ins:List (Bool×CK)) (te:TypeId) (used:List Nat):List (Nat×Loc)->Option Nat
 | []=>none
 |(k, .row l)::r=>if Nat.blt k Bn&&(!used.contains l&&(match ins[k-500000]? with
   |some (false, .row _ Rf)=>decide (Rf=te)
   |some (false, .Hk _ Rf)=>decide (Rf=te)
   |some (false, .Bm _ Rf _)=>decide (Rf=te)
   |_=>false)) then some l else HF ins te used r
 |_::r=>HF ins te used r
def NU (ins:List (Bool×CK)) (tks:List (Nat×Loc)) (d:Nat):(k:Nat)->(used:List Nat)->List CK->List Nat
 |_,_,[]=> []
 |k,used,c::r=>match (match c with
   | .row _ te=>HF ins te used tks
   | .Hk _ te=>HF ins te used tks
   | .Bm _ te _=>HF ins te used tks
   |_=>none) with
  |some l=>l::NU ins tks d (k+1) (l::used) r
  |none=>Abn d k::NU ins tks d (k+1) used r
def nh (s:MSpec) (tks:List (Nat×Loc)) (d:Nat):List Nat:=NU s.ins tks d 0 [] s.outs
def Ec (ks:List Nat) (j:Nat):Nat:=match ks[j]? with
 |some l=>l
 |none=>Bn+j
def AT (ks:List Nat) (n:Nat):Bool:=Nat.beq ks.length n&&(aC ks&&ks.all λl=>Nat.blt l Bn)
def SA (st:St) (l:List Nat):Bool:=l.all λk=>match st.at k with|some (.arr fr _ _ _ _)=>fr|_=>false
def TI (st:St) (s:MSpec) (args:List AV):Option (List Nat×List AC×List AV):=
 match s.ptr with
 |none=>some ([],[],args)
 |some p=>match args with
  | .at (.Hj l i)::rest=>match st.at l with
   |some (.var tid vs)=>if tid=p.1/\vs.length=p.2/\i=0 then some ([l],vs,rest) else none
   |_=>none
  |_=>none
def Wi:List (Bool×CK)->List AC->Bool
 |(true, .row _ _)::r, .own _ _ _::as=>Wi r as
 |(true, .Hk _ _)::r, .own _ _ _::as=>Wi r as
 |(true,_)::_,_::_=>false
 |(false,_)::r,_::as=>Wi r as
 |_,as=>as.isEmpty
def gH {α:Type} :List (Bool×CK)->List α->List α->List α
 |(true,_)::r,v::vs,as=>v::gH r vs as
 |(false,_)::r,_::vs,a::as=>a::gH r vs as
 |_,vs,_=>vs
def vr:List (Bool×CK)->Nat->Nat
 |(true,_)::r,n+1=>vr r n
 |(false,_)::r,n+1=>vr r n+1
 |_,_=>0
def MSpec.aa (s:MSpec):Nat:=match s.ptr with|none=>0|some p=>vr s.ins p.2
def sn (ins:List (Bool×CK)) (as:List AC) (pl:List Nat) (st:St):St:=
 match pl with
 | []=>st
 |l::_=>match st.at l with
  |some (.var tid vs)=>st.Ju l (.var tid (gH ins vs as))
  |_=>st
def To (d:Nat):Nat:=Abn d 999
def mH (s:MSpec) (d:Nat):List Nat:=match s.rp with|none=> []|some _=> [To d]
def Sk (s:MSpec) (tks:List (Nat×Loc)) (d:Nat):List Nat:=nh s tks d++mH s d
def nQ (H:List (Nat×OB)) (l:Nat):Bool:=match Au H l with
 |some (.Bm _ _ _ _ _)=>true
 |_=>false
def c9 (H:List (Nat×OB)) (ks:List Nat) (tks:List (Nat×Loc)):List (Nat×Nat)->List Nat
 | []=> []
 |(k,j)::r=>match tks.find? (λt=>Nat.beq t.1 (Ds false k)),ks[j]? with
  |some (_, .row l),some l'=>if Nat.beq l' l&&nQ H l then l::c9 H ks tks r else c9 H ks tks r
  |_,_=>c9 H ks tks r
def sN (H:List (Nat×OB)) (l:Nat):Nat:=match Au H l with
 |some (.Bm _ _ rows _ _)=>rows.length
 |_=>0
def dH (H:List (Nat×OB)) (ls:List Nat) (n:Nat):List AV->Bool
 | []=>true
 | .at (.sub l i _)::r=>(!ls.contains l||(Nat.blt i n&&Nat.blt i (sN H l)))&&dH H ls n r
 |_::r=>dH H ls n r
def Ll (ls:List Nat):List AV->List AV->List AV
 | .at (.sub l i c)::r,v::vs=>(if ls.contains l then .at (.sub l i c) else v)::Ll ls r vs
 |_::r,v::vs=>v::Ll ls r vs
 |_,vs=>vs
def Ake:Option OB->Option (Nat×Nat)
 |some (.Bm _ _ _ _ kp)=>kp
 |_=>none
def OB.JG (b:OB) (kp:Option (Nat×Nat)):OB:=match b with
 | .Bm e te rows out _=> .Bm e te rows out kp
 |b=>b
def dy (H0:List (Nat×OB)) (ls:List Nat) (n:Nat):List (Nat×OB)->List (Nat×OB)
 | []=> []
 |(l,b)::r=>(l,if ls.contains l then b.JG (ca n (Ake (Au H0 l))) else b)::dy H0 ls n r
def mq (cA st:St) (ls:List Nat) (n:Nat):St:=match ls with
 | []=>st
 |_=> {tmps:=Ll ls cA.tmps st.tmps,heap:=dy cA.heap ls n st.heap}
def Afs (s:MSpec) (d:Nat) (as:List AC):Option AV:=match s.rp with
 |none=>Apm s.He s.Ih as
 |some _=>some (.at (.Hj (To d) 0))
def m4 (st st1:St) (d:Nat) (s:MSpec) (pl:List Nat) (tks:List (Nat×Loc)) (r:CKs.den s.outs):St:=
 let ks:=Sk s tks d
 let key:=Ec ks
 let st2:=sn s.ins (cf key 0 s.outs r) pl (st1.cQ (np tks++ks++(if s.flat then [] else DQ tks)) (whole tks))
 {st2 with heap:=Yj (SA st (np tks)) key 0 s.outs r (GU st2.heap (To d) (s.rp.map λtid=> .var tid ((cf key 0 s.outs r).drop s.aa)))}
def Xz (st:St) (dst:Option Nat) (s:MSpec) (args:List AV):Option (AV×St):=
 match TI st s args with
 |none=>none
 |some (pl,vs,rest)=>match ungroup s.Jj rest with
 |none=>none
 |some oW=>match fY st 0 s.ins (vs++oW) with
  |none=>none
  |some (x,tks)=>if aC (tks.map λt=>t.2.Xf)&&AT (Sk s tks (dst.getD 0)) (s.outs.length+(mH s (dst.getD 0)).length)&&Nat.blt s.outs.length 1000&&Nat.blt s.ins.length 1000&&(Wi s.ins vs&&pl.all λl=>!((tks.map λt=>t.2.Xf)++Sk s tks (dst.getD 0)).contains l) then match s.fn x with
   |none=>none
   |some (r,o)=>match Hz s.ins o (vs++oW) st with
    |none=>none
    |some st1=>match Afs s (dst.getD 0) ((cf (Ec (Sk s tks (dst.getD 0))) 0 s.outs r).drop s.aa) with
     |none=>none
     |some v=>if dH (m4 st st1 (dst.getD 0) s pl tks r).heap (c9 st.heap (Sk s tks (dst.getD 0)) tks s.keeps) (s.Ex x) st.tmps=true then
       some (v,mq st (m4 st st1 (dst.getD 0) s pl tks r) (c9 st.heap (Sk s tks (dst.getD 0)) tks s.keeps) (s.Ex x)) else none
   else none
def Pa:List Operand->St->Option St
 | [],st=>some st
 |x::r,st=>match settle st (st.ev x) with
  |some (_,st')=>Pa r st'
  |none=>none
def fz (s:Spec) (args:List AV):Bool:=!(s.fresh||s.res.flat||args.all (·.settled))
def evalOp (Γ:Env) (st:St) (o:Oper):Option (AV×St):=
 match o.op with
 | .assign x=>match st.ev x,o.dst,(T.elem o.type).bind λte=>(T.ty te).map λe=>(te,e) with
  | .at .Lr,some d,some (te,e)=>if d<Bn then some (.at (.own d 0 0),st.new d (.arr (T.u9||e.flat) T.DK e te [])) else none
  |v,_,_=>some (v,st)
 | .alloc t=>match o.dst,T.ty t with
  |some d,some τ=>match T.marks.contains (Wb+d) with
   |true=>uM st d t (Qf τ)
   |false=>mkVar T st d t τ (zeroCells τ)
  |_,_=>none
 | .box t x=>match o.dst,T.ty t with
  |some d,some τ=>match cellsOf τ (st.ev x) with
   |some cs=>match T.marks.contains (Wb+d) with
    |true=>if cs.all (·.settled)=true then (Ew st τ cs).map λp=>(.at (.data false (.optr τ) (some p.2)),st) else none
    |false=>mkVar T st d t τ cs
   |none=>none
  |_,_=>none
 | .store t p x=>(Py T st t (st.ev p) (st.ev x)).map λs=>(.undef,s)
 | .makeSlice t l c=>match o.dst with
  |some d=>Yb T st d t (st.ev l) (st.ev c)
  |none=>none
 | .makeMap t none=>match o.dst with
  |some d=>Vd T st d t
  |none=>none
 | .mapUpdate t m k x=>(Jc T st t (st.ev m) (st.ev k) (st.ev x)).map λs=>(.undef,s)
 | .insert t m k x=>(Jc T st t (st.ev m) (st.ev k) (st.ev x)).map λs=>(.undef,s)
 | .buildSlice t len parts=>match o.dst with
  |some d=>Iz T st d t len parts
  |none=>none
 | .build t parts=>(Xy T st t parts).map λv=>(v,st)
 | .call {callee:= .builtin .append,args,argTypes} =>match o.dst,args.toList,argTypes.toList with
  |some d,[x,y],[t,t']=>if t=t' then Rl T st d t x y else none
  |_,_,_=>none
 | .call {callee:= .builtin .copy,args,argTypes} =>match args.toList,argTypes.toList with
  | [x,y],[t,t']=>iG T st t t' (st.ev x) (st.ev y)
  |_,_=>none
 | .call {callee:= .builtin .clear,args,argTypes} =>match args.toList,argTypes.toList with
  | [x],[t]=>(evalClear T st t (st.ev x)).map λs=>(.undef,s)
  |_,_=>none
 | .call {callee:= .value (.func f),args, .. } =>match Γ f with
  |some (.m s)=>Xz st o.dst s (args.toList.map st.ev)
  |some (.q s)=>if fz s (args.toList.map st.ev) then (match Pa args.toList st with
   |some st1=>(Fa T Γ st1 o).map λv=>(v,st1)
   |none=>none) else (Fa T Γ st o).map λv=>(v,st)
  |_=>(Fa T Γ st o).map λv=>(v,st)
 |_=>(Fa T Γ st o).map λv=>(v,st)
def fE (e:Ty):Nat->List (Nat×Operand)->St->Option (Bool×List e.den)
 |_,[],_=>some (true,[])
 |i,(j,x)::r,st=>
  if i=j/\(st.ev x).settled=true then match Fq st e (st.ev x),fE e (i+1) r st with
   |some (fr,y),some (Wf,ys)=>some (fr&&Wf,y::ys)
   |_,_=>none
  else none
def bU (st:St) (t:TypeId) (len:Nat) (parts:Array (Nat×Operand)):Option AV:=
 match T.elem t with
 |none=>none
 |some te=>match T.ty te with
  |none=>none
  |some e=>if parts.size=len/\len<=64/\e.size<=64 then (fE e 0 parts.toList st).map λp=> .at (.data p.1 (.slice e) p.2) else none
def Xl (Γ:Env) (st:St) (o:Oper):Option AV:=
 match o.op with
 | .buildSlice t len parts=>bU T st t len parts
 | .build t parts=>Xy T st t parts
 |_=>Fa T Γ st o
def Abc (q:Bool) (Γ:Env) (o:Oper):Bool:=
 match o.op with
 | .buildSlice _ _ _| .build _ _=>!q
 | .alloc _| .box _ _| .store _ _ _| .makeSlice _ _ _| .makeMap _ _| .mapUpdate _ _ _ _| .insert _ _ _ _=>true
 | .assign (.const _)=>true
 | .call {callee:= .builtin .append, .. } =>true
 | .call {callee:= .builtin .copy, .. } =>true
 | .call {callee:= .builtin .clear, .. } =>true
 | .call {callee:= .value (.func f), .. } =>match Γ f with
  |some (.m _)=>true
  |_=>false
 |_=>false
def Er (Γ:Env) (ops:Array Oper) (st:St) (o:Oper):Option St:=
 match o.guard with
 |none=>(evalOp T Γ st o).map λr=>r.2.put o.dst r.1
 |some (j,want)=>match Xs st ((ops[j]?).bind (·.dst)) with
  |some (some b)=>if b==want then (evalOp T Γ st o).map λr=>r.2.put o.dst r.1 else some (st.put o.dst (.at .skip))
  |some none=>some (st.put o.dst (.at .skip))
  |none=>none
def aY (Γ:Env) (ops:Array Oper):List Oper->St->Option St
 | [],st=>some st
 |o::r,st=>match Er T Γ ops st o with
  |some st'=>aY Γ ops r st'
  |none=>none
def Jh (q:Bool) (Γ:Env) (ops:Array Oper):List Nat:=
 (List.range ops.size).foldl (init:= []) λacc i=>match ops[i]? with
  |some o=>if Abc q Γ o||o.after.any (λe=>Region.binds .any e&&acc.contains e.on) then acc++ [i] else acc
  |none=>acc
def cT (q:Bool) (Γ:Env) (ops:Array Oper):List Nat:=(List.range ops.size).filter λi=>!(Jh q Γ ops).contains i
def nP (ops:Array Oper) (hd tl:List Nat) (i:Nat):Bool:=
 match ops[i]? with
 |some o=>(match o.op,o.guard with
  | .move (.tmp _),none=>true
  |_,_=>false)&&!((tl.take 1++hd).any λj=>decide (i<j)&&Region.waitsFor .any ops j i)
 |none=>false
def We (q:Bool) (Γ:Env) (ops:Array Oper):List Nat:=(cT q Γ ops).filter λi=>nP ops (cT q Γ ops) (Jh q Γ ops) i
def Wg (q:Bool) (Γ:Env) (ops:Array Oper):List Nat:=(cT q Γ ops).filter λi=>!nP ops (cT q Γ ops) (Jh q Γ ops) i
def ke (q:Bool) (Γ:Env) (ops:Array Oper):List Nat:=We q Γ ops++Wg q Γ ops
def Ab3 (ops:Array Oper) (i:Nat):Bool:=match ops[i]? with
 |some o=>(match o.op,o.guard with
  | .extract _ _,none=>true
  |_,_=>false)
 |none=>false
def ou (ops:Array Oper):List Nat->Array Bool->Bool
 | [],Ah=>(Region.ready .any ops Ah).isEmpty
 |k::r,Ah=>(decide (Region.ready .any ops Ah= [k])||(Ab3 ops k&&((Region.ready .any ops Ah).contains k&&Region.free .any ops Ah k)))&&ou ops r (Ah.setIfInBounds k true)
def pB (ops:Array Oper) (tl:List Nat):List Nat->Array Bool->Bool
 | [],Ah=>ou ops tl Ah
 |k::r,Ah=>(Region.ready .any ops Ah).contains k&&Region.free .any ops Ah k&&pB ops tl r (Ah.setIfInBounds k true)
def vI (ops:Array Oper) (hd:List Nat):List Nat->Bool
 | []=>true
 |f::r=>(hd.all λi=>(f::hd).any λj=>decide (i<j)&&Region.waitsFor .any ops j i)&&r.all λt=>(f::r).any λk=>Region.waitsFor .any ops t k
def nD (ops:Array Oper) (tl hd:List Nat):List Nat->Array Bool->Bool
 | [],Ah=>pB ops tl hd Ah
 |k::r,Ah=>(Region.ready .any ops Ah).contains k&&Region.free .any ops Ah k&&nD ops tl hd r (Ah.setIfInBounds k true)
def kz (q:Bool) (Γ:Env) (ops:Array Oper):Bool:=
 Region.noSelect ops&&((We q Γ ops).length+((Wg q Γ ops).length+(Jh q Γ ops).length)==ops.size)&&nD ops (Jh q Γ ops) (Wg q Γ ops) (We q Γ ops) (Array.replicate ops.size false)&&vI ops (Wg q Γ ops) (Jh q Γ ops)
def Xi (Γ:Env) (ops:Array Oper) (st:St) (o:Oper):Option AV:=
 match o.guard with
 |none=>Xl T Γ st o
 |some (j,want)=>match Xs st ((ops[j]?).bind (·.dst)) with
  |some (some b)=>if b==want then Xl T Γ st o else some (.at .skip)
  |some none=>some (.at .skip)
  |none=>none
def Ga (Γ:Env) (ops:Array Oper):List Nat->St->Option St
 | [],st=>some st
 |i::r,st=>match ops[i]? with
  |none=>none
  |some o=>match Xi T Γ ops st o with
   |some v=>Ga Γ ops r (st.put o.dst v)
   |none=>none
def Mv (Γ:Env) (ops:Array Oper):List Nat->St->Option St
 | [],st=>some st
 |i::r,st=>match ops[i]? with
  |none=>none
  |some o=>match Er T Γ ops st o with
   |some st'=>Mv Γ ops r st'
   |none=>none
def Ro (Γ:Env) (ops:Array Oper) (draw:Bool) (st:St):Option St:=
 if draw then (if kz false Γ ops then (match Ga T Γ ops (ke false Γ ops) st with
  |some st'=>Mv T Γ ops (Jh false Γ ops) st'
  |none=>none) else if kz true Γ ops then (match Ga T Γ ops (ke true Γ ops) st with
  |some st'=>Mv T Γ ops (Jh true Γ ops) st'
  |none=>none) else none)
 else aY T Γ ops ops.toList st
def AM (ops:Array Oper) (i:Nat):Bool:=match ops[i]? with
 |some o=>(match o.op,o.guard with
  | .move (.tmp _),none=>true
  |_,_=>false)
 |none=>false
def ko (ops:Array Oper) (i:Nat):Bool:=match ops[i]? with
 |some o=>(match o.op,o.guard with
  | .move (.tmp _),none=>true
  | .nilCheck _,none=>true
  | .fieldAddr _ _ _,none=>true
  |_,_=>false)
 |none=>false
def Apv (q:Bool) (ops:Array Oper) (i:Nat):Bool:=match q with
 |true=>ko ops i
 |false=>AM ops i
def Jf (q:Bool) (ops:Array Oper):List Nat->Array Bool->List Nat
 | [],_=> []
 |i::r,Ah=>if Apv q ops i&&((Region.ready .any ops Ah).contains i&&Region.free .any ops Ah i) then i::Jf q ops r (Ah.setIfInBounds i true) else Jf q ops r Ah
def Abj (q:Bool) (ops:Array Oper):List Nat:=Jf q ops (List.range ops.size) (Array.replicate ops.size false)
def k8 (q:Bool) (ops:Array Oper):Bool:=Nat.ble (ops.size-(Abj q ops).length) 8
def Nf (ops:Array Oper):List Nat:=Abj (!k8 false ops) ops
def Fo:List Nat->Array Bool->Array Bool
 | [],Ah=>Ah
 |i::r,Ah=>Fo r (Ah.setIfInBounds i true)
def anyS (Γ:Env) (ops:Array Oper) (K:St->Prop):Nat->Array Bool->St->Prop
 |0,Ah,st=>Region.ready .any ops Ah= []/\K st
 |f+1,Ah,st=>Region.ready .any ops Ah≠ []/\ ∀i∈Region.ready .any ops Ah,∃o st',ops[i]?=some o/\Er T Γ ops st o=some st'/\anyS Γ ops K f (Ah.setIfInBounds i true) st'
def kq (ops:Array Oper) (i:Nat):Bool:=match ops[i]? with
 |some o=>(match o.op,o.guard with
  | .move _,none=>true
  | .load _ _,none=>true
  | .indexAddr _ _ _,none=>true
  | .fieldAddr _ _ _,none=>true
  |_,_=>false)
 |none=>false
def pR (ops:Array Oper):List Nat->Array Bool->List Nat
 | [],_=> []
 |i::r,Ah=>if kq ops i&&((Region.ready .any ops Ah).contains i&&Region.free .any ops Ah i) then i::pR ops r (Ah.setIfInBounds i true) else pR ops r Ah
def qx (ops:Array Oper) (i j:Nat) (p:Oper->Oper->Bool):Bool:=match ops[i]?,ops[j]? with
 |some x,some y=>p x y
 |_,_=>false
def oT (ops:Array Oper) (x y:Oper):Bool:=match x.dst with
 |some d=>!(y.looksAt ops).contains d
 |none=>true
def MO (x y:Oper):Bool:=match x.dst with
 |some d=>y.dst !=some d
 |none=>true
def jn (ops:Array Oper):List Nat->Array Bool->Bool
 | [],_=>true
 |r::E,Ah=>(Region.ready .any ops Ah).contains r&&jn ops E (Ah.setIfInBounds r true)
def BT (ops:Array Oper):List Nat->Bool
 | []=>true
 |r::E=>(qx ops r r (oT ops)&&E.all λq=>qx ops r q (λx y=>MO x y&&oT ops y x)&&(Region.waitsFor .any ops q r||qx ops r q (oT ops)))&&BT ops E
def Ae7 (ops:Array Oper) (E:List Nat) (L0:Array Bool):Bool:=E.all λr=>(List.range ops.size).all λj=>E.contains j||L0.getD j false||Region.waitsFor .any ops j r||qx ops r j (λx y=>x.apart ops y)
def kB (ops:Array Oper) (E:List Nat) (L0:Array Bool):Bool:=(E.all (kq ops)&&jn ops E L0)&&(BT ops E&&Ae7 ops E L0)
def tf (ops:Array Oper) (E:List Nat) (Ah:Array Bool) (r:Nat):Bool:=(List.range ops.size).any λj=>!E.contains j&&(Ah.getD j false&&Region.waitsFor .any ops j r)
def Acf (Γ:Env) (ops:Array Oper) (E:List Nat) (Ah:Array Bool) (st:St):Prop:=
 ∀r∈E,tf ops E Ah r=true\/ ∃o v,ops[r]?=some o/\Xi T Γ ops st o=some v/\ ∀d,o.dst=some d->st.get d=v
def wH (Γ:Env) (ops:Array Oper) (E:List Nat) (K:St->Prop):Nat->Array Bool->St->Prop
 |0,Ah,st=>Acf T Γ ops E Ah st/\Region.ready .any ops Ah= []/\K st
 |f+1,Ah,st=>Acf T Γ ops E Ah st/\Region.ready .any ops Ah≠ []/\ ∀i∈Region.ready .any ops Ah,∃o st',ops[i]?=some o/\Er T Γ ops st o=some st'/\wH Γ ops E K f (Ah.setIfInBounds i true) st'
def Aik (Γ:Env) (ops:Array Oper) (K:St->Prop) (n:Nat) (L0:Array Bool) (cA:St):Prop:=
 ∃E st1,kB ops E L0=true/\E.length<=n/\Ga T Γ ops E cA=some st1/\wH T Γ ops E K (n-E.length) (Fo E L0) st1
def zA (Γ:Env) (ops:Array Oper) (draw:Bool) (st:St) (K:St->Prop):Prop:=
 (∃st',Ro T Γ ops draw st=some st'/\K st')\/
 (draw=true/\Region.noSelect ops=true/\ ∃cA,Ga T Γ ops (Nf ops) st=some cA/\
  (anyS T Γ ops K (ops.size-(Nf ops).length) (Fo (Nf ops) (Array.replicate ops.size false)) cA\/Aik T Γ ops K (ops.size-(Nf ops).length) (Fo (Nf ops) (Array.replicate ops.size false)) cA))
def CB (Γ:Env) (draw:Bool):Env:= λf=>match Γ f with
 |some (.b s m)=>some (if draw then .q s else .m m)
 |r=>r
inductive Lh where
 |normal
 |exit (id:Nat)
 |ret
def Kd (live:List Nat):Nat->List AV->List AV
 |_,[]=> []
 |i,v::r=>(if live.contains i then v else .undef)::Kd live (i+1) r
def AV.refs:AV->List Nat
 | .at a=>a.refs
 | .agg cs=>cs.flatMap AC.refs
 | .bL _ _ _=> []
 | .Ms l=>l.flatMap λp=>p.2.flatMap AC.refs
def OB.refs:OB->List Nat
 | .var _ vs=>vs.flatMap AC.refs
 |_=> []
def e8:List Nat->St->St
 | [],st=>st
 |l::r,st=>e8 r (st.forget l)
def pT (l k m:Nat):Nat:=if m=l then k else m
def Vm (l k:Nat):AC->AC
 | .own m off len=> .own (pT l k m) off len
 | .Hj m i=> .Hj (pT l k m) i
 | .Jz m i=> .Jz (pT l k m) i
 | .clo f Ee=> .clo f (Ee.map λp=>(pT l k p.1,p.2))
 | .Kh m=> .Kh (pT l k m)
 | .sub m i c=> .sub (pT l k m) i c
 | .Jv m i c=> .Jv (pT l k m) i c
 |a=>a
def St.rename (l k:Nat) (st:St):St:=
 match Au st.heap k,Au st.heap l with
 |none,some b=>if (Nat.blt l Bn&&Nat.blt k Bn)=true then
   (let s:=st.Ks (Vm l k); {s with heap:=Oj (aN s.heap l) k (b.map (Vm l k))}) else st
 |_,_=>st
def Mo:Nat->Nat->St->St
 |0,_,st=>st
 |n+1,t,st=>Mo n (t+1) (match st.get t with
  | .at (.own l _ _)=>match Au st.heap l with
   |some (.arr _ _ _ _ _)=>if (st.tmps.take t).any (λv=>v.refs.contains l) then st else st.rename l (700000+t)
   |_=>st
  |_=>st)
def da:Nat:=1000000007
def AC.Aib (flat:Bool):AC->AC
 | .data fr τ x=> .data (fr&&!(flat&&τ.flat)) τ x
 |c=>c
def OB.Im (flat all one:Bool):OB->OB
 | .arr fr tr e tid xs=> .arr (fr&&!(all||(one||(flat&&e.flat)))) (tr&&!all) e tid xs
 | .var tid vs=> .var tid (vs.map (AC.Aib flat))
 |b=>b
def Ud:Nat:=1000000009
def au:Nat:=1100000000
def jV:Nat:=1200000000
def St.Im (live:List Nat) (st:St):St:= {st with heap:=st.heap.map λp=>(p.1,p.2.Im (live.contains Ud) (live.contains (au+p.1)) (live.contains (jV+p.1)))}
def Rz:Nat:=900000000
def cg (t:Nat) (st:St):St:=match st.get t with
 | .at (.own l off len)=>match Au st.heap l with
  |some (.arr fr tr e tid xs)=>if Nat.blt l Bn=true then (st.new l (.arr fr tr e tid ((xs.drop off).take len))).put (some t) (.at (.own l 0 ((xs.drop off).take len).length)) else st
  |_=>st
 |_=>st
def Pc:Nat:=1900000000
def ni:Nat:=950000000
def Qd (c:Nat) (st:St):St:=match Au st.heap Pc with
 |some (.var _ vs)=>match vs[c]? with
  |some (.own l off len)=>match Au st.heap l with
   |some (.arr fr tr e te xs)=>if Nat.blt l Bn=true then match Au (st.new l (.arr fr tr e te ((xs.drop off).take len))).heap Pc with
     |some (.var tid vs')=>(st.new l (.arr fr tr e te ((xs.drop off).take len))).Ju Pc (.var tid (vs'.set c (.own l 0 ((xs.drop off).take len).length)))
     |_=>st
    else st
   |_=>st
  |_=>st
 |_=>st
def Pu (live:List Nat):Nat->Nat->St->St
 |0,_,st=>st
 |n+1,c,st=>Pu live n (c+1) (if live.contains (ni+c) then Qd c st else st)
def Oz (live:List Nat):Nat->Nat->St->St
 |0,_,st=>Pu live 16 0 st
 |n+1,t,st=>Oz live n (t+1) (if live.contains (Rz+t) then cg t st else st)
def St.clean (live:List Nat) (st:St):St:=
 let s:St:= {st with tmps:=Kd live 0 st.tmps}
 let r1:=s.tmps.flatMap AV.refs
 let r2:=r1++(s.heap.filter λp=>r1.contains p.1).flatMap λp=>p.2.refs
 let s2:=e8 ((s.heap.map (·.1)).filter λl=>!r2.contains l&&Nat.blt l Bn) s
 let s2:=if live.any (λt=>Nat.ble Rz t&&Nat.blt t da) then Oz live s2.tmps.length 0 s2 else s2
 let s3:=if live.contains da then Mo s2.tmps.length 0 s2 else s2
 if live.any (λt=>Nat.ble Ud t) then s3.Im live else s3
def Es:Code->Nat
 | .region id _ _=>id
 | .seq a _=>Es a
 | .cond _ a _=>Es a
 | .block _ c=>Es c
 | .loop c=>1000+Es c
 |_=>0
def Aii (a b:List Nat):List Nat:=a++b.filter λt=>!a.contains t
def AZ:List Oper->List Nat->List Nat
 | [],out=>out
 |o::r,out=>Aii (o.op.operands.toList.filterMap λ | .tmp t=>some t|_=>none) (match o.dst with|some d=>(AZ r out).filter (·!=d)|none=>AZ r out)
def MP:List (Nat×List Nat)->Nat->List Nat
 | [],_=> []
 |(k,l)::r,id=>if k=id then l else MP r id
def r7:Code->List (Nat×List Nat)->List Nat->List Nat->List Nat×List (Nat×List Nat)
 | .region _ ops _,_,_,out=>(AZ ops.toList out,[])
 | .seq a b,env,ret,out=>let rb:=r7 b env ret out;let ra:=r7 a env ret rb.1;(ra.1,ra.2++rb.2)
 | .cond c a b,env,ret,out=>let ra:=r7 a env ret out;let rb:=r7 b env ret out
  (Aii (match c with| .tmp t=> [t]|_=> []) (Aii ra.1 rb.1),ra.2++rb.2)
 | .block id c,env,ret,out=>r7 c ((id,out)::env) ret out
 | .exit id,env,_,_=>(MP env id,[])
 | .ret,_,ret,_=>(ret,[])
 | .loop c,env,ret,_=>let l:=(r7 c env ret []).1;let r:=r7 c env ret l;(l,(Es c,l)::r.2)
 |_,_,_,out=>(out,[])
def BA:List ResultVar->List Nat
 | []=> []
 | .tmp t::r=>t::BA r
 | .cell p _::r=>p::BA r
def AY (marks:List Nat) (fn:Func) (c:Code):Nat->List Nat:=let ret:=BA fn.results.toList;let g:=MP (r7 c [] ret ret).2;match marks with
 | []=>g
 |m=> λid=>g id++m
def OL (K:St->Prop) (Q:Lh->St->Prop):Lh->St->Prop
 | .normal,s=>K s
 |e,s=>Q e s
def yH (id:Nat) (Q:Lh->St->Prop):Lh->St->Prop
 | .exit VD,s=>if VD=id then Q .normal s else Q (.exit VD) s
 |e,s=>Q e s
def Ac5 (ops:Array Oper) (t:Nat):Bool:=ops.toList.any λo=>match o.op with
 | .extract (.tmp s) _=>Nat.beq s t
 | .move (.tmp s)=>Nat.beq s t
 | .assign (.tmp s)=>Nat.beq s t
 |_=>false
def Ov (ops:Array Oper):Nat->List AV->List AV
 |_,[]=> []
 |i, .Ms l::r=>(if Ac5 ops i=true then .Ms l else .undef)::Ov ops (i+1) r
 |i,v::r=>v::Ov ops (i+1) r
def St.nm (ops:Array Oper) (st:St):St:= {st with tmps:=Ov ops 0 st.tmps}
inductive Oi (Γ:Env) (live:Nat->List Nat):Code->St->(Lh->St->Prop)->Prop where
 |skip {st:St} {Q:Lh->St->Prop} :Q .normal st->Oi Γ live .skip st Q
 |label {l:Nat} {st:St} {Q:Lh->St->Prop} :Q .normal st->Oi Γ live (.label l) st Q
 |exit {id:Nat} {st:St} {Q:Lh->St->Prop} :Q (.exit id) st->Oi Γ live (.exit id) st Q
 |ret {st:St} {Q:Lh->St->Prop} :Q .ret st->Oi Γ live .ret st Q
 |region {id:Nat} {ops:Array Oper} {draw:Bool} {st:St} {Q:Lh->St->Prop} :zA T (CB Γ draw) ops draw (st.nm ops) (Q .normal)->Oi Γ live (.region id ops draw) st Q
 |seq {x y:Code} {st:St} {Q:Lh->St->Prop} (Q1:Lh->St->Prop):Oi Γ live x st Q1->(∀s,Q1 .normal s->Oi Γ live y s Q)->(∀e s,e≠ .normal->Q1 e s->Q e s)->Oi Γ live (.seq x y) st Q
 |cond {c:Operand} {x y:Code} {st:St} {fr t:Bool} {Q:Lh->St->Prop} :st.ev c= .at (.data fr .bool t)->(t=true->Oi Γ live x st Q)->(t=false->Oi Γ live y st Q)->Oi Γ live (.cond c x y) st Q
 |block {id:Nat} {c:Code} {st:St} {Q:Lh->St->Prop} (Q1:Lh->St->Prop):Oi Γ live c st Q1->(∀e s,Q1 e s->yH id Q e s)->Oi Γ live (.block id c) st Q
 |loop {c:Code} {st:St} {Q:Lh->St->Prop} (Q1:Lh->St->Prop):Oi Γ live c (st.clean (live (Es c))) Q1->(∀s,Q1 .normal s->Oi Γ live (.loop c) s Q)->(∀e s,e≠ .normal->Q1 e s->Q e s)->Oi Γ live (.loop c) st Q
def dE (st:St):List ResultVar->Option (List AV)
 | []=>some []
 | .tmp t::r=>(dE st r).map λl=>st.get t::l
 | .cell p t::r=>match Qh T st t (st.get p),dE st r with
  |some v,some l=>some (v::l)
  |_,_=>none
def nB (s:Spec) (fn:Func) (st:St):Option (Bool×s.res.den):=
 match dE T st fn.results.toList with
 |some [v]=>if s.He then none else Fq st s.res v
 |some [v,u]=>if s.He then Dx st s.res [v,u] else none
 |some [v,u,t]=>if s.He then Dx st s.res [v,u,t] else none
 |_=>none
def Tb:(τ:Ty)->τ.den->List AV
 | .pair a r,x=> .at (.data a.flat a x.1)::Tb r x.2
 |_,_=> []
def kV (st:St):(c:CK)->AC->Option (c.den×List Nat)
 | .Fm τ,a=>if τ.flat||a.settled then (Du st τ a).map λp=>(p.2,[]) else none
 | .row e te, .own l off len=>match st.at l with
  |some (.arr _ _ e' Rf xs)=>if h:e'=e/\Rf=te then some ((((h.1▸xs:List e.den).drop off).take len),[l]) else none
  |_=>none
 | .row _ _, .Lr=>some ([],[])
 | .Hk e te, .own l off len=>match st.at l with
  |some (.arr _ tr e' Rf xs)=>if h:e'=e/\Rf=te/\(tr||e.flat)=true then some ((((h.1▸xs:List e.den).drop off).take len),[l]) else none
  |some (.Gu e' Rf xs)=>if h:e'=e/\Rf=te then some ((((h.1▸xs:List e.den).drop off).take len),[l]) else none
  |_=>none
 | .Hk _ _, .Lr=>some ([],[])
 | .Bm e te _, .own l off len=>match st.at l with
  |some (.Bm e' Rf rows none _)=>if h:e'=e/\Rf=te/\off=0/\len=rows.length then some ((h.1▸rows:List (List e.den)),[l]) else none
  |_=>none
 |_,_=>none
def Vl (st:St):(cs:List CK)->List AC->Option (CKs.den cs×List Nat)
 | [],[]=>some ((),[])
 |c::r,a::as=>match kV st c a,Vl st r as with
  |some (x,t1),some (y,t2)=>some ((x,y),t1++t2)
  |_,_=>none
 |_,_=>none
def qD (st:St) (l:Nat):(c:CK)->Option c.den
 | .Fm _=>none
 | .row e te=>match st.at l with
  |some (.arr _ _ e' Rf xs)=>if h:e'=e/\Rf=te then some (h.1▸xs) else none
  |_=>none
 | .Hk e te=>match st.at l with
  |some (.Gu e' Rf xs)=>if h:e'=e/\Rf=te then some (h.1▸xs) else none
  |_=>none
 | .part _ _=>none
 | .Bm _ _ _=>none
def Ot (st:St):(k:Nat)->(cs:List (Bool×CK))->Option (IOs.den cs)
 |_,[]=>some ()
 |k,(true, .Fm _)::r=>Ot st (k+1) r
 |k,(true, .Bm _ _ _)::r=>Ot st (k+1) r
 |k,(true, .row e te)::r=>match qD st (Ds true k) (.row e te),Ot st (k+1) r with
  |some x,some y=>some (x,y)
  |_,_=>none
 |k,(true, .Hk e te)::r=>match qD st (Ds true k) (.Hk e te),Ot st (k+1) r with
  |some x,some y=>some (x,y)
  |_,_=>none
 |k,(true, .part e te)::r=>match qD st (Ds true k) (.row e te),Ot st (k+1) r with
  |some x,some y=>some (x,y)
  |_,_=>none
 |k,(false,_)::r=>Ot st (k+1) r
def Qb:(k:Nat)->List (Bool×CK)->List Nat
 |_,[]=> []
 |k,(true, .Fm _)::r=>Qb (k+1) r
 |k,(true, .Bm _ _ _)::r=>Qb (k+1) r
 |k,(true,_)::r=>Ds true k::Qb (k+1) r
 |k,(false,_)::r=>Qb (k+1) r
def Je:(k:Nat)->List (Bool×CK)->List AC->Option (List AC)
 |_,_,[]=>some []
 |k,(true, .row _ _)::r, .own l _ _::as=>if Nat.beq l (Ds true k) then Je (k+1) r as else none
 |k,(true, .Hk _ _)::r, .own l _ _::as=>if Nat.beq l (Ds true k) then Je (k+1) r as else none
 |k,(false,_)::r,a::as=>(Je (k+1) r as).map λl=>a::l
 |_,_,_=>none
def j6 (st:St):List AC->List (Bool×CK)->Prop
 | .own l off len::as,(true,_)::r=>(off=0/\match st.at l with
  |some (.arr _ _ _ _ xs)=>len=xs.length
  |some (.Gu _ _ xs)=>len=xs.length
  |_=>False)/\j6 st as r
 |_::as,(false,_)::r=>j6 st as r
 |_,_=>True
def PQ (s:MSpec) (st:St) (l:List AV):Option (List AC×List Nat):=match s.rp with
 |none=>if s.He=Nat.blt 1 l.length then (ungroup s.Ih l).map λas=>(as,[]) else none
 |some tid=>match l with
  | [.at (.Hj m i)]=>match st.at m with
   |some (.var Vb vs)=>if Vb=tid/\i=0/\Nat.blt m Bn=true then some (vs,[m]) else none
   |_=>none
  |_=>none
def yM (st:St) (n:Nat) (as:List AC):List (Nat×Nat)->Prop
 | []=>True
 |(k,j)::r=>(match as[j]? with
  |some (.own l _ _)=>match st.at l with
   |some (.Bm _ _ _ _ (some p))=>p.1=Ds false k/\n<=p.2/\Nat.blt k 1000=true
   |_=>False
  |_=>False)/\yM st n as r
def kD (s:MSpec) (fn:Func) (x:Ins.den s.ins) (st:St) (cs:List AC) (P:CKs.den s.outs×IOs.den s.ins->Prop):Prop:=
 match dE T st fn.results.toList with
 |none=>False
 |some l=>match PQ s st l with
  |none=>False
  |some (as,ml)=>match Vl st s.outs (cs++as),Ot st 0 s.ins with
   |some (r,ls),some o=>(aC (ml++ls++Qb 0 s.ins)&&Nat.blt s.ins.length 1000&&Nat.blt s.outs.length 1000&&s.Abi)=true/\yM st (s.Ex x) (cs++as) s.keeps/\P (r,o)
   |_,_=>False
def ZA (s:MSpec) (fn:Func) (x:Ins.den s.ins) (st:St) (P:CKs.den s.outs×IOs.den s.ins->Prop):Prop:=
 match s.ptr with
 |none=>kD T s fn x st [] P
 |some p=> ∃vs cs,st.at Pc=some (.var p.1 vs)/\vs.length=p.2/\Je 0 s.ins vs=some cs/\j6 st vs s.ins/\kD T s fn x st cs P
def aP (s:MSpec) (as:List AC):List AV:=match s.ptr with
 |none=>Te s.Jj as
 |some p=> .at (.Hj Pc 0)::Te s.Jj (as.drop p.2)
def qX (s:MSpec) (x:Ins.den s.ins):List (Nat×OB):=match s.ptr with
 |none=>a7 0 s.ins x
 |some p=>a7 0 s.ins x++ [(Pc, .var p.1 ((c7 0 s.ins x).take p.2))]
def ah:List (Bool×CK)->Bool
 | []=>true
 |(true, .Bm _ _ _)::_=>false
 |_::r=>ah r
def BW (s:MSpec):Bool:=ah s.ins&&match s.ptr with
 |none=>true
 |some p=>Nat.ble p.2 s.ins.length
def Agl (Γ:Env) (s:MSpec) (fn:Func) (x:Ins.den s.ins) (P:CKs.den s.outs×IOs.den s.ins->Prop):Prop:=
 (Nat.blt s.ins.length 1000&&BW s)=true/\ ∃c,fn.body=some c/\Oi T Γ (AY T.marks fn c) c {tmps:=aP s (c7 0 s.ins x)++List.replicate (fn.ntmps-(aP s (c7 0 s.ins x)).length) .undef,heap:=qX s x}
  (λe st=>(∀id,e≠ .exit id)/\ZA T s fn x st P)
def ZB (Γ:Env) (s:Spec) (fn:Func) (x:s.arg.den) (P:s.res.den->Prop):Prop:=
 ∃c,fn.body=some c/\Oi T Γ (AY T.marks fn c) c {tmps:=Tb s.arg x++List.replicate (fn.ntmps-(Tb s.arg x).length) .undef,heap:= []}
  (λe st=>(∀id,e≠ .exit id)/\ ∃fr y,nB T s fn st=some (fr,y)/\(fr||!s.fresh)=true/\P y)
end Go.Proofs.YtfolipnappekaaaGreat
