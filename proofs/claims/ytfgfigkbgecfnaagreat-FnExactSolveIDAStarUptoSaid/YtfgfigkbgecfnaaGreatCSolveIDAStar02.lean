/-
  Part 3 of the proof that the statement FnExactSolveIDAStar holds.
-/
import Derived.Test.YtfgfigkbgecfnaaGreatCSolveIDAStar01
namespace Go.Proofs.YtfgfigkbgecfnaaGreat
open Go.RowKit
def Ht:Nat->St->List AC->Option (List AC×St)
 |0,st,cs=>if cs.all (·.settled) then some (cs,st) else none
 |n+1,st,cs=>
  match cs.find? (λc=>!c.settled) with
  |none=>some (cs,st)
  |some (.own l _ _)=>match st.at l with
   |some (.arr fr _ e _ xs)=>Ht n (st.freeze l fr e xs) (cs.map (Dc l fr e xs))
   |some (.Gz e _ xs)=>Ht n (st.freeze l false e xs) (cs.map (Dc l false e xs))
   |_=>none
  |some (.Kr l)=>match st.at l with
   |some (.Wo v m)=>Ht n (st.Ix l v m) (cs.map (Hi l v m))
   |_=>none
  |some _=>none
def settle (st:St):AV->Option (AV×St)
 | .at (.own l off len)=>match st.at l with
  |some (.arr fr _ e _ xs)=>some (.at (.data fr (.slice e) ((xs.drop off).take len)),st.freeze l fr e xs)
  |some (.Gz e _ xs)=>some (.at (.data false (.slice e) ((xs.drop off).take len)),st.freeze l false e xs)
  |_=>none
 | .at (.Kr l)=>match st.at l with
  |some (.Wo v m)=>some (.at (.data false (.smap v) m),st.Ix l v m)
  |_=>none
 | .at a=>if a.settled then some (.at a,st) else none
 | .agg cs=>(Ht cs.length st cs).map λp=>(.agg p.1,p.2)
 | .cf fr τ x=>some (.cf fr τ x,st)
 | .Mn _=>none
def AC.refs:AC->List Nat
 | .own l _ _| .Gy l _| .Kh l _| .Kr l| .sub l _ _| .Kd l _ _=> [l]
 | .clo _ Eg=>Eg.map (·.1)
 |_=> []
def aW:List Nat->Bool
 | []=>true
 |a::r=>!r.contains a&&aW r
def Ty.tree:Ty->Bool
 | .int _| .bool| .str| .unit=>true
 | .slice e=>e.tree
 | .pair a r=>a.tree&&r.tree
 |_=>false
def Sw (st:St):AC->Bool
 | .data _ τ _=>τ.flat
 | .Lm=>true
 | .own l _ _=>match st.at l with
  |some (.arr _ tr e _ _)=>tr||e.flat
  |some (.Gz _ _ _)=>true
  |_=>false
 |_=>false
def Ug (st:St):AV->Bool
 | .at a=>Sw st a
 | .agg cs=>cs.all (Sw st)&&aW (cs.flatMap AC.refs)
 |_=>false
def Bn:Nat:=1000000000
variable (T:Tab)
def UP (t:TypeId) (τ:Ty) (i:Nat):Option TypeId:=
 if τ.Aq then (List.range 24).findSome? λf=>match T.off t f with
  |some (o,u)=>if o=i then some u else none
  |none=>none
 else some t
def Tab.UY (te:TypeId):Option Ty:=if T.Ac7.contains te then (match T.ty te with
 |some (.slice e)=>some e
 |_=>none) else none
def eM (te:TypeId) (e:Ty):OB:=match T.UY te with
 |some e'=> .Bp e' te [] none none
 |none=> .arr (T.vg||e.flat) T.FN e te []
def Vp (b:OB) (key l i:Nat) (st:St):St:=
 match st.at l with
 |some (.var _ vs)=>match vs[i]? with
  |some .Lm=>
   let s1:=st.new key b
   match s1.at l with
   |some (.var tid vs')=>s1.Kc l (.var tid (Tj vs' i (.own key 0 0)))
   |_=>s1
  |_=>st
 |_=>st
def gz (l:Nat) (t:TypeId) (τ:Ty):Nat->Nat->St->St
 |0,_,st=>st
 |n+1,i,st=>
  gz l t τ n (i+1) (match ((UP T t τ i).bind T.elem).bind λte=>(T.ty te).map λe=>(te,e) with
   |some (te,e)=>Vp (eM T te e) (100000+l*100+i) l i st
   |none=>st)
def fk (l off:Nat) (t:TypeId) (τ:Ty):Nat->Nat->St->St
 |0,_,st=>st
 |n+1,i,st=>
  fk l off t τ n (i+1) (match ((UP T t τ i).bind T.elem).bind λte=>(T.ty te).map λe=>(te,e) with
   |some (te,e)=>Vp (eM T te e) (100000+l*100+(off+i)) l (off+i) st
   |none=>st)
def zeroCells:(τ:Ty)->List AC
 | .unit=> []
 | .pair a r=>zeroCells a++zeroCells r
 | .slice _=> [.Lm]
 | .oslice _=> [.Lm]
 | .ptr _=> [.Vo]
 | .optr _=> [.Vo]
 | .clo _ _=> [.undef]
 |τ=> [.data true τ τ.zero]
def cellsOf (τ:Ty):AV->Option (List AC)
 | .agg cs=>if τ.Aq&&cs.length==τ.size then some cs else none
 | .at (.data fr Oq x)=>if Oq=τ then some (Tc fr Oq x) else none
 | .at .undef=>none
 | .at .skip=>none
 | .at a=>if τ.Aq then none else some [a]
 |_=>none
def mkVar (st:St) (l:Nat) (t:TypeId) (τ:Ty) (cs:List AC):Option (AV×St):=
 if Bn<=100000+l*100+cs.length then none else
 let s:=gz T l t τ cs.length 0 (st.new l (.var t (cs.map (Cs l))))
 match s.at l with
 |some (.var _ _)=>some (.at (.Gy l 0),s)
 |_=>none
def Qq:(τ:Ty)->List AC
 | .unit=> []
 | .pair a r=>Qq a++Qq r
 | .slice e=> [.data false (.slice e) []]
 | .oslice _=> [.Lm]
 | .ptr _=> [.Vo]
 | .optr _=> [.Vo]
 | .clo _ _=> [.undef]
 |τ=> [.data false τ τ.zero]
def eL:Nat:=1300000000
def Ty.Ado:Ty->List Ty
 | .unit=> []
 | .pair a r=>a.Ado++r.Ado
 |τ=> [τ]
def ug:Ty->AC->AC
 | .slice e, .Lm=>if e.flat then .Lm else .data false (.slice e) []
 | .optr a, .Vo=> .data false (.optr a) none
 |_,c=>c
def aQ:List Ty->List AC->List AC
 |t::ts,c::cs=>ug t c::aQ ts cs
 |_,cs=>cs
def oW:Nat:=1500000000
def SN:Nat:=1400000000
def w6 (st:St) (l:Nat) (t:TypeId) (cs:List AC):Option (AV×St):=
 if Bn<=100000+l*100+cs.length then none else some (.at (.Gy l 0),st.new l (.var t (cs.map (Cs l))))
def Ea {α:Type} (xs:List α) (i:Nat) (ys:List α):List α:=xs.take i++ys++xs.drop (i+ys.length)
def Ac1 (st:St) (τ:Ty) (l:Nat) (v:AV):AV:=match T.marks.contains (eL+l)&&v.settled with
 |true=>match Gc st τ v with
  |some p=> .at (.data false τ p.2)
  |none=>v
 |false=>v
def Vv (st:St) (t:TypeId) (p v:AV):Option St:=
 match T.ty t,p with
 |some τ, .at (.Gy l i)=>match st.at l,cellsOf τ (Ac1 T st τ l v) with
  |some (.var tid vs),some cs=>if i+cs.length<=vs.length then some (if τ.Aq&&Nat.blt (100000+l*100+(i+cs.length)) Bn then fk T l i t τ cs.length 0 (st.Kc l (.var tid (Ea vs i cs))) else st.Kc l (.var tid (Ea vs i cs))) else none
  |_,_=>none
 |some τ, .at (.Kh l j)=>match settle st v with
  |some (v',st')=>match st'.at l,Gc st' τ v' with
   |some (.arr fr tr e tid xs),some (Ww,x)=>if h:τ=e then (if j<xs.length then some (st'.Kc l (.arr (fr&&Ww) (tr&&(Ug st v&&e.tree)) e tid (xs.set j (h▸x)))) else none) else none
   |_,_=>none
  |none=>none
 |_,_=>none
def Cr:Nat:=4294967296
def Og (st:St) (dst:Nat) (t:TypeId) (x y:Operand):Option (AV×St):=
 match T.elem t with
 |none=>none
 |some te=>match T.ty te,settle st (st.ev y) with
  |some e,some (y',st')=>match Gc st' (.slice e) y' with
   |none=>none
   |some (tR,ys)=>
    let tr2:=e.flat||(Ug st (st.ev y)&&e.tree)
    match st'.ev x with
    | .at .Lm=>if ys.length<=Cr/\dst<Bn then some (.at (.own dst 0 (0+ys.length)),(st'.new dst (.arr (T.vg||e.flat) T.FN e te [])).new dst (.arr ((T.vg||e.flat)&&(tR||e.flat)) (T.FN&&tr2) e te (((([]:List e.den).drop 0).take 0)++ys))) else none
    | .at (.own l off len)=>match st'.at l with
     |some (.arr fr tr e' tid xs)=>if h:e'=e/\tid=te then
       (if len+ys.length<=Cr/\l<Bn then
        some (.at (.own l 0 (len+ys.length)),st'.new l (.arr (fr&&(tR||e.flat)) (tr&&tr2) e te ((((h.1▸xs:List e.den).drop off).take len)++ys))) else none)
      else none
     |_=>none
    |_=>none
  |_,_=>none
def Qt (st:St) (l i m:Nat) (e:Ty) (te tid:TypeId) (rows:List (List e.den)) (kp:Option (Nat×Nat)):St:=
 (st.Kc l (.Bp e te rows (some i) kp)).new m (.arr false false e tid (rows.getD i []))
def Sb (st:St) (dst:Nat) (t:TypeId) (x y:Operand):Option (AV×St):=
 match x with
 | .tmp tx=>match st.get tx with
  | .at (.sub l i _)=>match st.at l,T.elem t with
   |some (.Bp e te rows none kp),some tid=>if (Nat.blt l Bn&&(Nat.blt dst Bn&&!Nat.beq dst l))=true then Og T ((Qt st l i dst e te tid rows kp).put (some tx) (.at (.own dst 0 (rows.getD i []).length))) dst t x y else none
   |_,_=>none
  |_=>Og T st dst t x y
 |_=>Og T st dst t x y
def nO:Ty->Bool
 | .int _| .bool| .str| .slice _| .oslice _=>true
 |_=>false
def hJ:Ty->Bool
 | .unit=>true
 | .pair a r=>hJ a&&hJ r
 |e=>nO e
def cw (st:St) (dst:Nat) (t:TypeId) (l c:AV):Option (AV×St):=
 match T.elem t,l,c with
 |some te, .at (.data _ (.int _) n), .at (.data _ (.int _) m)=>match T.ty te with
  |some e=>if inb n (Cr+1)=true/\n=m/\hJ e=true/\dst<Bn then some (.at (.own dst 0 n.toNat),st.new dst (.arr (T.vg||e.flat) (T.FN&&e.tree) e te (List.replicate n.toNat e.zero))) else none
  |none=>none
 |_,_,_=>none
def Ll (e:Ty):Nat->List (Nat×Operand)->St->Option (Bool×Bool×List e.den×St)
 |_,[],st=>some (true,true,[],st)
 |i,(j,x)::r,st=>
  if i=j then match settle st (st.ev x) with
   |some (v,st')=>match Gc st' e v with
    |some (fr,y)=>match Ll e (i+1) r st' with
     |some (Ww,tr',ys,Axo)=>some (fr&&Ww,Ug st (st.ev x)&&e.tree&&tr',y::ys,Axo)
     |none=>none
    |none=>none
   |none=>none
  else none
def Mq (st:St) (dst:Nat) (t:TypeId) (len:Nat) (parts:Array (Nat×Operand)):Option (AV×St):=
 match T.elem t with
 |none=>none
 |some te=>match T.ty te with
  |none=>none
  |some e=>if parts.size=len/\len<=64/\e.size<=64/\dst<Bn then (match Ll e 0 parts.toList st with
   |some (fr,tr,ys,st')=>some (.at (.own dst 0 len),st'.new dst (.arr ((T.vg||e.flat)&&fr) (T.FN&&tr) e te ys))
   |none=>none) else none
def Vu (st:St) (dst:Nat) (t:TypeId):Option (AV×St):=
 match T.mapOf t with
 |some v=>if dst<Bn then some (.at (.Kr dst),st.new dst (.Wo v λ_=>none)) else none
 |none=>none
def kH {α:Type} (m:ByteArray->Option α) (k:ByteArray) (x:α):ByteArray->Option α:= λs=>if s=k then some x else m s
def Jk (st:St) (t:TypeId) (m k x:AV):Option St:=
 match T.mapOf t,m,k with
 |some v, .at (.Kr l), .at (.data _ .str s)=>match st.at l,Gc st v x with
  |some (.Wo v' f),some (_,y)=>if h:v'=v/\v.flat=true/\v.Aq=false then some (st.Kc l (.Wo v (kH (h.1▸f:ByteArray->Option v.den) s y))) else none
  |_,_=>none
 |_,_,_=>none
def jq (st:St) (t t':TypeId) (x y:AV):Option (AV×St):=
 match x,(T.elem t).bind T.ty with
 | .at (.own l off len),some e=>if T.elem t=T.elem t'/\e.flat=true/\e.size=1 then match st.at l,Gc st (.slice e) y with
  |some (.arr fr _ e' tid xs),some (_,ys)=>if h:e'=e/\T.elem t=some tid then
    some (.at (.data true (.int .i64) (min len ys.length:Nat)),st.Kc l (.arr fr false e tid (Ea (h.1▸xs:List e.den) off (ys.take len))))
   else none
  |_,_=>none
  else none
 |_,_=>none
def evalClear (st:St) (t:TypeId) (x:AV):Option St:=
 match x,(T.elem t).bind T.ty with
 | .at (.own l off len),some e=>if e.flat=true/\nO e=true then match st.at l with
  |some (.arr fr _ e' tid xs)=>if h:e'=e/\T.elem t=some tid then
    some (st.Kc l (.arr fr false e tid (Ea (h.1▸xs:List e.den) off (List.replicate len e.zero))))
   else none
  |_=>none
  else none
 |_,_=>none
def Mp (st:St) (t:TypeId):List (Nat×Operand)->List AC->Option (List AC)
 | [],cs=>some cs
 |(i,x)::r,cs=>
  match T.off t i with
  |some (o,u)=>match T.ty u with
   |some ρ=>match cellsOf ρ (st.ev x) with
    |some c=>if o+c.length<=cs.length then Mp st t r (Ea cs o c) else none
    |none=>none
   |none=>none
  |none=>none
def Yr (st:St) (t:TypeId) (parts:Array (Nat×Operand)):Option AV:=
 match T.ty t with
 |none=>none
 |some τ=>if τ.Aq then (Mp T st t parts.toList (zeroCells τ)).map .agg else none
def Dt (io:Bool) (k:Nat):Nat:=if io then 1000000000+k else 500000+k
def Jw (k:Nat):Nat:=600000+k
def Ae2 (dst:Nat) (k:Nat):Nat:=1000000*(dst+1)+k
def Tw:List (Option Nat)->List AC->List AV
 |none::s,a::as=> .at a::Tw s as
 |some n::s,as=> .agg (as.take n)::Tw s (as.drop n)
 |_,_=> []
def Ki:List (Option Nat)->List Value->List Value
 |none::s,u::us=>u::Ki s us
 |some n::s,us=> .agg (us.take n).toArray::Ki s (us.drop n)
 |_,_=> []
def ungroup:List (Option Nat)->List AV->Option (List AC)
 | [],[]=>some []
 |none::s, .at a::as=>(ungroup s as).map λr=>a::r
 |some n::s, .agg cs::as=>if cs.length=n then (ungroup s as).map λr=>cs++r else none
 |some n::s, .at (.data fr τ x)::as=>if τ.Aq=true/\(Tc fr τ x).length=n then (ungroup s as).map λr=>Tc fr τ x++r else none
 |_,_=>none
def lE (l:Nat):(c:CK)->c.den->Option OB
 | .Em _,_=>none
 | .row e te,xs=>some (.arr false false e te xs)
 | .Hp e te,xs=>some (.Gz e te xs)
 | .part e te,x=>some (.arr false false e te x.1)
 | .Bp e te kp,xs=>some (.Bp e te xs none (if kp then some (l,List.length xs) else none))
def Aui (l:Nat):(c:CK)->c.den->AC
 | .Em τ,x=> .data τ.flat τ x
 | .row _ _,xs=> .own l 0 (List.length xs)
 | .Hp _ _,xs=> .own l 0 (List.length xs)
 | .part _ _,x=> .own l x.2.1 x.2.2
 | .Bp _ _ _,xs=> .own l 0 (List.length xs)
def jh {α:Type} (l:Nat):Option α->List (Nat×α)->List (Nat×α)
 |none,r=>r
 |some b,r=>(l,b)::r
def aE:(k:Nat)->(cs:List (Bool×CK))->Ins.den cs->List (Nat×OB)
 |_,[],_=> []
 |k,p::r,x=>jh (Dt p.1 k) (lE (Dt p.1 k) p.2 x.1) (aE (k+1) r x.2)
def cF:(k:Nat)->(cs:List (Bool×CK))->Ins.den cs->List AC
 |_,[],_=> []
 |k,p::r,x=>Aui (Dt p.1 k) p.2 x.1::cF (k+1) r x.2
inductive Loc where
 |row (l:Nat)
 |sub (l i c:Nat)
 |view (l:Nat)
 deriving DecidableEq
def Loc.Xy:Loc->Nat
 | .row l=>l
 | .sub l _ _=>l
 | .view l=>l
def Loc.reads:Loc->Bool
 | .view _=>true
 |_=>false
def cW (st:St) (ls:List Nat):Bool:=ls.all λl=>match st.at l with|some (.var _ vs)=>vs.all (·.settled)|_=>false
def views (k:Nat) (ls:List Nat):List (Nat×Loc):=ls.map λl=>(Dt false k, .view l)
def Mi (st:St) (io:Bool) (k:Nat):(c:CK)->AC->Option (c.den×List (Nat×Loc))
 | .Em τ, .own l off len=>(Dv st τ (.own l off len)).map λp=>(p.2,[(Dt false k, .view l)])
 | .Em τ, .clo g Eg=>if cW st (Eg.map (·.1))&&!τ.Aq then (Jz st τ (.clo g Eg)).map λp=>(p.2,views k (Eg.map (·.1))) else none
 | .Em τ, .Gy l i=>if cW st [l]&&!τ.Aq then (Jz st τ (.Gy l i)).map λp=>(p.2,views k [l]) else none
 | .Em τ, .sub l i c=>(Dv st τ (.sub l i c)).map λp=>(p.2,[(Dt false k, .view l)])
 | .Em τ,a=>if τ.flat||a.settled then (Dv st τ a).map λp=>(p.2,[]) else none
 | .row e te, .own l off len=>match st.at l with
  |some (.arr _ _ e' Rv xs)=>if h:e'=e/\Rv=te/\off=0/\len=xs.length then some ((h.1▸xs:List e.den),[(Dt io k, .row l)]) else none
  |_=>none
 | .row e _, .sub l i c=>match st.at l with
  |some (.Gz e' _ xs)=>if h:e'= .slice e/\e.flat=true/\io=true/\c=0 then xs[i]?.map λy=>((h.1▸y:(Ty.slice e).den),[(Dt io k, .sub l i c)]) else none
  |_=>none
 | .row _ _, .Lm=>some ([],[])
 | .Hp e te, .own l off len=>match st.at l with
  |some (.Gz e' Rv xs)=>if h:e'=e/\Rv=te/\off=0/\len=xs.length then some ((h.1▸xs:List e.den),[(Dt io k, .row l)]) else none
  |_=>none
 | .Hp e _, .sub l i c=>match st.at l with
  |some (.Gz e' _ xs)=>if h:e'= .slice e/\io=true/\c=0 then xs[i]?.map λy=>((h.1▸y:(Ty.slice e).den),[(Dt io k, .sub l i c)]) else none
  |_=>none
 | .Hp _ _, .Lm=>some ([],[])
 | .part e te, .own l off len=>match st.at l with
  |some (.arr _ _ e' Rv xs)=>if h:e'=e/\Rv=te/\e.flat=true/\io=true then some (((h.1▸xs:List e.den),off,len),[(Dt io k, .row l)]) else none
  |_=>none
 | .Bp e te _, .own l off len=>match st.at l with
  |some (.Bp e' Rv rows none _)=>if h:e'=e/\Rv=te/\off=0/\len=rows.length/\io=false then some ((h.1▸rows:List (List e.den)),[(Dt io k, .row l)]) else none
  |_=>none
 |_,_=>none
def gU (st:St):(k:Nat)->(cs:List (Bool×CK))->List AC->Option (Ins.den cs×List (Nat×Loc))
 |_,[],[]=>some ((),[])
 |k,p::r,a::as=>match Mi st p.1 k p.2 a,gU st (k+1) r as with
  |some (x,t1),some (y,t2)=>some ((x,y),t1++t2)
  |_,_=>none
 |_,_,_=>none
def df (st:St):(c:CK)->c.den->AC->Option St
 | .row e _,ys, .own l _ len=>match st.at l with
  |some (.arr fr tr e' te xs)=>if h:e=e'/\List.length ys=len/\xs.length=len then some (st.Kc l (.arr (fr&&e'.flat) (tr&&e'.flat) e' te (h.1▸ys))) else none
  |_=>none
 | .Hp e _,ys, .own l _ len=>match st.at l with
  |some (.Gz e' te xs)=>if h:e=e'/\List.length ys=len/\xs.length=len then some (st.Kc l (.Gz e' te (h.1▸ys))) else none
  |_=>none
 | .row e _,ys, .sub l i _=>match st.at l with
  |some (.Gz e' te xs)=>if h: .slice e=e' then (match xs[i]? with
   |some y=>if List.length ys=List.length (h▸y:(Ty.slice e).den) then some (st.Kc l (.Gz e' te (xs.set i (h▸(ys:(Ty.slice e).den))))) else none
   |none=>none) else none
  |_=>none
 | .Hp e _,ys, .sub l i _=>match st.at l with
  |some (.Gz e' te xs)=>if h: .slice e=e' then (match xs[i]? with
   |some y=>if List.length ys=List.length (h▸y:(Ty.slice e).den) then some (st.Kc l (.Gz e' te (xs.set i (h▸(ys:(Ty.slice e).den))))) else none
   |none=>none) else none
  |_=>none
 |_,_, .Lm=>some st
 |_,_,_=>none
def SB (st:St) (e:Ty) (ys:List e.den):AC->Option St
 | .own l _ _=>match st.at l with
  |some (.arr fr tr e' te xs)=>if h:e=e'/\List.length ys=xs.length then some (st.Kc l (.arr fr tr e' te (h.1▸ys))) else none
  |_=>none
 |_=>none
def Ii:(cs:List (Bool×CK))->IOs.den cs->List AC->St->Option St
 | [],_,_,st=>some st
 |(true, .Em _)::r,x,_::as,st=>Ii r x as st
 |(true, .row e te)::r,x,a::as,st=>match df st (.row e te) x.1 a with
  |some st'=>Ii r x.2 as st'
  |none=>none
 |(true, .Hp e te)::r,x,a::as,st=>match df st (.Hp e te) x.1 a with
  |some st'=>Ii r x.2 as st'
  |none=>none
 |(true, .part e _)::r,x,a::as,st=>match SB st e x.1 a with
  |some st'=>Ii r x.2 as st'
  |none=>none
 |(true, .Bp _ _ _)::r,x,_::as,st=>Ii r x as st
 |(false,_)::r,x,_::as,st=>Ii r x as st
 |_,_,_,_=>none
def Ct (dead part:List Nat) (c:AC):AC:=if c.refs.any (λl=>dead.contains l) then .undef else match c with
 | .sub l i c=>if part.contains l then .undef else .sub l i c
 | .Kd l i c=>if part.contains l then .undef else .Kd l i c
 |c=>c
def Yp:List (Nat×OB)->List Nat->List (Nat×OB)
 | [],_=> []
 |(k,b)::r,dead=>if dead.contains k then Yp r dead else (k,b)::Yp r dead
def St.dw (st:St) (dead part:List Nat):St:=let s:=st.Lb (Ct dead part); {s with heap:=Yp s.heap dead}
def Uo (st:St) (l j m:Nat) (e:Ty) (te:TypeId) (rows:List (List e.den)) (xs:List e.den) (kp:Option (Nat×Nat)):St:=
 (st.dw [m] [l]).Kc l (.Bp e te (rows.set j xs) none kp)
def cI (j:Nat):Option (Nat×Nat)->Option (Nat×Nat)
 |none=>none
 |some p=>some (p.1,min p.2 j)
def cz (st:St) (t:TypeId) (p v:AV):Option St:=
 match T.ty t,p with
 |some τ, .at (.Kd l i j)=>match settle st v with
  |some (v',st')=>match st'.at l,Gc st' τ v' with
   |some (.Bp e te rows none kp),some (_,x)=>if h:τ=e then some (st'.Kc l (.Bp e te (rows.set i ((rows.getD i []).set j (h▸x))) none kp)) else none
   |_,_=>none
  |none=>none
 |some τ, .at (.Kh l j)=>match st.at l,v with
  |some (.Bp e te rows out kp), .at (.own m off len)=>match st.at m with
   |some (.arr _ _ e' _ xs)=>if h:e'=e/\(Nat.blt l Bn&&(!Nat.beq m l&&!τ.Aq))=true/\off=0/\len=xs.length/\(out=none\/out=some j) then some (Uo st l j m e te rows (h.1▸xs) (cI j kp)) else none
   |_=>none
  |_,_=>none
 |_,_=>none
def UZ (st:St):AV->Bool
 | .at (.Kd _ _ _)=>true
 | .at (.Kh l _)=>match st.at l with
  |some (.Bp _ _ _ _ _)=>true
  |_=>false
 |_=>false
def Qf (st:St) (t:TypeId) (p v:AV):Option St:=match UZ st p with
 |true=>cz T st t p v
 |false=>Vv T st t p v
def Ro (st:St) (k m:Nat) (b:OB):St:=let s:=st.dw [m,k] []; {s with heap:=Ou s.heap k b}
def eU (t:TypeId):Option (TypeId×Ty):=(T.elem t).bind λte=>(T.UY te).map λe=>(te,e)
def Yu (st:St) (dst:Nat) (t:TypeId) (l c:AV):Option (AV×St):=
 match eU T t with
 |none=>cw T st dst t l c
 |some (te,e)=>match l,c with
  | .at (.data _ (.int _) n), .at (.data _ (.int _) m)=>if inb n (Cr+1)=true/\n=m/\dst<Bn then some (.at (.own dst 0 n.toNat),Ro st dst dst (.Bp e te (List.replicate n.toNat []) none none)) else none
  |_,_=>none
def Jg (st:St) (dst:Nat) (t:TypeId) (len:Nat) (parts:Array (Nat×Operand)):Option (AV×St):=
 match eU T t with
 |none=>Mq T st dst t len parts
 |some (te,e)=>match parts.toList with
  | [(0,x)]=>match st.ev x with
   | .at (.own m off ln)=>match st.at m with
    |some (.arr _ _ e' _ xs)=>if h:e'=e/\(Nat.beq len 1&&(Nat.blt dst Bn&&Nat.blt m Bn))=true/\off=0/\ln=xs.length then some (.at (.own dst 0 1),Ro st dst m (.Bp e te [h.1▸xs] none none)) else none
    |_=>none
   |_=>none
  |_=>none
def Sd (st:St) (dst:Nat) (t:TypeId) (x y:Operand):Option (AV×St):=
 match eU T t with
 |none=>Sb T st dst t x y
 |some (te,e)=>match st.ev x,st.ev y with
  | .at (.own l off len), .at (.own m Ae4 vV)=>match st.at l,st.at m with
   |some (.Bp e1 te1 A none _),some (.Bp e2 yP B none _)=>
    if h:(e1=e/\e2=e)/\(decide (te1=te)&&decide (yP=te)&&(Nat.blt l Bn&&(Nat.blt m Bn&&!Nat.beq m l)))=true/\(off=0/\len=A.length)/\(Ae4=0/\vV=B.length)/\0<B.length/\A.length+B.length<=Cr then
     some (.at (.own l 0 (A.length+B.length)),Ro st l m (.Bp e te ((h.1.1▸A:List (List e.den))++(h.1.2▸B:List (List e.den))) none none))
    else none
   |_,_=>none
  |_,_=>none
def yb (fr:Bool):(c:CK)->c.den->Option OB
 | .Em _,_=>none
 | .row e te,xs=>some (.arr (fr&&e.flat) false e te xs)
 | .Hp e te,xs=>some (.Gz e te xs)
 | .part e te,x=>some (.arr (fr&&e.flat) false e te x.1)
 | .Bp e te _,xs=>some (.Bp e te xs none none)
def JC (H:List (Nat×OB)) (l:Nat):Option OB->List (Nat×OB)
 |some b=>Ou H l b
 |none=>H
def Zb (fr:Bool) (key:Nat->Nat):(k:Nat)->(cs:List CK)->CKs.den cs->List (Nat×OB)->List (Nat×OB)
 |_,[],_,H=>H
 |k,c::r,x,H=>Zb fr key (k+1) r x.2 (JC H (key k) (yb fr c x.1))
def Yh (key:Nat->Nat):(k:Nat)->(cs:List CK)->CKs.den cs->List AC
 |_,[],_=> []
 |k,c::r,x=>(match c,x.1 with
  | .Em τ,y=> .data τ.flat τ y
  | .row _ _,xs=> .own (key k) 0 (List.length xs)
  | .Hp _ _,xs=> .own (key k) 0 (List.length xs)
  | .Bp _ _ _,xs=> .own (key k) 0 (List.length xs)
  | .part _ _,_=> .undef)::Yh key (k+1) r x.2
def Xi:List (Option Nat)->List AC->List (Bool×List AC)
 |none::s,a::as=>(false,[a])::Xi s as
 |some n::s,as=>(true,as.take n)::Xi s (as.drop n)
 |_,_=> []
def As6 (Hb:Bool) (sh:List (Option Nat)) (as:List AC):Option AV:=
 if Hb then some (.Mn (Xi sh as)) else match Tw sh as with
  | [v]=>some v
  | []=>some .undef
  |_=>none
def o7 (tks:List (Nat×Loc)):List Nat:=(tks.filter λt=>Nat.blt t.1 Bn&&!t.2.reads).map λt=>t.2.Xy
def whole (tks:List (Nat×Loc)):List Nat:=tks.flatMap λt=>match t.2 with| .row l=> [l]|_=> []
def FU (tks:List (Nat×Loc)):List Nat:=(tks.filter λt=>t.2.reads).map λt=>t.2.Xy
def JM (ins:List (Bool×CK)) (te:TypeId) (used:List Nat):List (Nat×Loc)->Option Nat
 | []=>none
 |(k, .row l)::r=>if Nat.blt k Bn&&(!used.contains l&&(match ins[k-500000]? with
   |some (false, .row _ Rv)=>decide (Rv=te)
   |some (false, .Hp _ Rv)=>decide (Rv=te)
   |some (false, .Bp _ Rv _)=>decide (Rv=te)
   |_=>false)) then some l else JM ins te used r
 |_::r=>JM ins te used r
def QS (ins:List (Bool×CK)) (tks:List (Nat×Loc)) (d:Nat):(k:Nat)->(used:List Nat)->List CK->List Nat
 |_,_,[]=> []
 |k,used,c::r=>match (match c with
   | .row _ te=>JM ins te used tks
   | .Hp _ te=>JM ins te used tks
   | .Bp _ te _=>JM ins te used tks
   |_=>none) with
  |some l=>l::QS ins tks d (k+1) (l::used) r
  |none=>Ae2 d k::QS ins tks d (k+1) used r
def nZ (s:MSpec) (tks:List (Nat×Loc)) (d:Nat):List Nat:=QS s.ins tks d 0 [] s.outs
def Dx (ks:List Nat) (j:Nat):Nat:=match ks[j]? with
 |some l=>l
 |none=>Bn+j
def CW (ks:List Nat) (n:Nat):Bool:=Nat.beq ks.length n&&(aW ks&&ks.all λl=>Nat.blt l Bn)
def UT (st:St) (l:List Nat):Bool:=l.all λk=>match st.at k with|some (.arr fr _ _ _ _)=>fr|_=>false
def WA (st:St) (s:MSpec) (args:List AV):Option (List Nat×List AC×List AV):=
 match s.ptr with
 |none=>some ([],[],args)
 |some p=>match args with
  | .at (.Gy l i)::rest=>match st.at l with
   |some (.var tid vs)=>if tid=p.1/\vs.length=p.2/\i=0 then some ([l],vs,rest) else none
   |_=>none
  |_=>none
def Xa:List (Bool×CK)->List AC->Bool
 |(true, .row _ _)::r, .own _ _ _::as=>Xa r as
 |(true, .Hp _ _)::r, .own _ _ _::as=>Xa r as
 |(true,_)::_,_::_=>false
 |(false,_)::r,_::as=>Xa r as
 |_,as=>as.isEmpty
def iC {α:Type} :List (Bool×CK)->List α->List α->List α
 |(true,_)::r,v::vs,as=>v::iC r vs as
 |(false,_)::r,_::vs,a::as=>a::iC r vs as
 |_,vs,_=>vs
def wC:List (Bool×CK)->Nat->Nat
 |(true,_)::r,n+1=>wC r n
 |(false,_)::r,n+1=>wC r n+1
 |_,_=>0
def MSpec.Rt (s:MSpec):Nat:=match s.ptr with|none=>0|some p=>wC s.ins p.2
def tm (ins:List (Bool×CK)) (as:List AC) (pl:List Nat) (st:St):St:=
 match pl with
 | []=>st
 |l::_=>match st.at l with
  |some (.var tid vs)=>st.Kc l (.var tid (iC ins vs as))
  |_=>st
def Qp (d:Nat):Nat:=Ae2 d 999
def nC (s:MSpec) (d:Nat):List Nat:=match s.rp with|none=> []|some _=> [Qp d]
def Tb (s:MSpec) (tks:List (Nat×Loc)) (d:Nat):List Nat:=nZ s tks d++nC s d
def oK (H:List (Nat×OB)) (l:Nat):Bool:=match Au H l with
 |some (.Bp _ _ _ _ _)=>true
 |_=>false
def cH (H:List (Nat×OB)) (ks:List Nat) (tks:List (Nat×Loc)):List (Nat×Nat)->List Nat
 | []=> []
 |(k,j)::r=>match tks.find? (λt=>Nat.beq t.1 (Dt false k)),ks[j]? with
  |some (_, .row l),some l'=>if Nat.beq l' l&&oK H l then l::cH H ks tks r else cH H ks tks r
  |_,_=>cH H ks tks r
def tS (H:List (Nat×OB)) (l:Nat):Nat:=match Au H l with
 |some (.Bp _ _ rows _ _)=>rows.length
 |_=>0
def ey (H:List (Nat×OB)) (ls:List Nat) (n:Nat):List AV->Bool
 | []=>true
 | .at (.sub l i _)::r=>(!ls.contains l||(Nat.blt i n&&Nat.blt i (tS H l)))&&ey H ls n r
 |_::r=>ey H ls n r
def Lx (ls:List Nat):List AV->List AV->List AV
 | .at (.sub l i c)::r,v::vs=>(if ls.contains l then .at (.sub l i c) else v)::Lx ls r vs
 |_::r,v::vs=>v::Lx ls r vs
 |_,vs=>vs
def An0:Option OB->Option (Nat×Nat)
 |some (.Bp _ _ _ _ kp)=>kp
 |_=>none
def OB.LU (b:OB) (kp:Option (Nat×Nat)):OB:=match b with
 | .Bp e te rows out _=> .Bp e te rows out kp
 |b=>b
def ef (H0:List (Nat×OB)) (ls:List Nat) (n:Nat):List (Nat×OB)->List (Nat×OB)
 | []=> []
 |(l,b)::r=>(l,if ls.contains l then b.LU (cI n (An0 (Au H0 l))) else b)::ef H0 ls n r
def nh (cZ st:St) (ls:List Nat) (n:Nat):St:=match ls with
 | []=>st
 |_=> {tmps:=Lx ls cZ.tmps st.tmps,heap:=ef cZ.heap ls n st.heap}
def Aid (s:MSpec) (d:Nat) (as:List AC):Option AV:=match s.rp with
 |none=>As6 s.Hb s.Fu as
 |some _=>match s.rx with
  |none=>some (.at (.Gy (Qp d) 0))
  |some _=>some (.Mn ((false,[.Gy (Qp d) 0])::Xi s.Fu (s.tl as)))
def j9 (st st1:St) (d:Nat) (s:MSpec) (pl:List Nat) (tks:List (Nat×Loc)) (r:CKs.den s.outs):St:=
 let ks:=Tb s tks d
 let key:=Dx ks
 let st2:=tm s.ins (Yh key 0 s.outs r) pl (st1.dw (o7 tks++ks++(if s.flat then [] else FU tks)) (whole tks))
 {st2 with heap:=Zb (UT st (o7 tks)) key 0 s.outs r (JC st2.heap (Qp d) (s.rp.map λtid=> .var tid (s.hd ((Yh key 0 s.outs r).drop s.Rt))))}
def Ys (st:St) (dst:Option Nat) (s:MSpec) (args:List AV):Option (AV×St):=
 match WA st s args with
 |none=>none
 |some (pl,vs,rest)=>match ungroup s.Ja rest with
 |none=>none
 |some pU=>match gU st 0 s.ins (vs++pU) with
  |none=>none
  |some (x,tks)=>if aW (tks.map λt=>t.2.Xy)&&CW (Tb s tks (dst.getD 0)) (s.outs.length+(nC s (dst.getD 0)).length)&&Nat.blt s.outs.length 1000&&Nat.blt s.ins.length 1000&&(Xa s.ins vs&&pl.all λl=>!((tks.map λt=>t.2.Xy)++Tb s tks (dst.getD 0)).contains l) then match s.fn x with
   |none=>none
   |some (r,o)=>match Ii s.ins o (vs++pU) st with
    |none=>none
    |some st1=>match Aid s (dst.getD 0) ((Yh (Dx (Tb s tks (dst.getD 0))) 0 s.outs r).drop s.Rt) with
     |none=>none
     |some v=>if ey (j9 st st1 (dst.getD 0) s pl tks r).heap (cH st.heap (Tb s tks (dst.getD 0)) tks s.keeps) (s.Fg x) st.tmps=true then
       some (v,nh st (j9 st st1 (dst.getD 0) s pl tks r) (cH st.heap (Tb s tks (dst.getD 0)) tks s.keeps) (s.Fg x)) else none
   else none
def Ns:List Operand->St->Option St
 | [],st=>some st
 |x::r,st=>match settle st (st.ev x) with
  |some (_,st')=>Ns r st'
  |none=>none
def Oz (st:St) (p x:Operand):St:=match st.ev p with
 | .at (.Gy l _)=>match T.marks.contains (SN+l) with
  |true=>match Ns [x] st with
   |some s0=>s0
   |none=>st
  |false=>st
 |_=>st
def gu (s:Spec) (args:List AV):Bool:=!(s.fresh||s.res.flat||args.all (·.settled))
def evalOp (Γ:Env) (st:St) (o:Oper):Option (AV×St):=
 match o.op with
 | .assign x=>match st.ev x,o.dst,(T.elem o.type).bind λte=>(T.ty te).map λe=>(te,e) with
  | .at .Lm,some d,some (te,e)=>if d<Bn then some (.at (.own d 0 0),st.new d (.arr (T.vg||e.flat) T.FN e te [])) else none
  |v,_,_=>some (v,st)
 | .alloc t=>match o.dst,T.ty t with
  |some d,some τ=>match T.marks.contains (eL+d) with
   |true=>w6 st d t (Qq τ)
   |false=>mkVar T st d t τ (zeroCells τ)
  |_,_=>none
 | .box t x=>match o.dst,T.ty t with
  |some d,some τ=>match cellsOf τ (st.ev x) with
   |some cs=>match T.marks.contains (eL+d) with
    |true=>if cs.all (·.settled)=true then (Ff st τ cs).map λp=>(.at (.data false (.optr τ) (some p.2)),st) else none
    |false=>match T.marks.contains (oW+d) with
     |true=>mkVar T st d t τ (aQ τ.Ado cs)
     |false=>mkVar T st d t τ cs
   |none=>none
  |_,_=>none
 | .store t p x=>(Qf T (Oz T st p x) t ((Oz T st p x).ev p) ((Oz T st p x).ev x)).map λs=>(.undef,s)
 | .makeSlice t l c=>match o.dst with
  |some d=>Yu T st d t (st.ev l) (st.ev c)
  |none=>none
 | .makeMap t none=>match o.dst with
  |some d=>Vu T st d t
  |none=>none
 | .mapUpdate t m k x=>(Jk T st t (st.ev m) (st.ev k) (st.ev x)).map λs=>(.undef,s)
 | .insert t m k x=>(Jk T st t (st.ev m) (st.ev k) (st.ev x)).map λs=>(.undef,s)
 | .buildSlice t len parts=>match o.dst with
  |some d=>Jg T st d t len parts
  |none=>none
 | .build t parts=>(Yr T st t parts).map λv=>(v,st)
 | .call {callee:= .builtin .append,args,argTypes} =>match o.dst,args.toList,argTypes.toList with
  |some d,[x,y],[t,t']=>if t=t' then Sd T st d t x y else none
  |_,_,_=>none
 | .call {callee:= .builtin .copy,args,argTypes} =>match args.toList,argTypes.toList with
  | [x,y],[t,t']=>jq T st t t' (st.ev x) (st.ev y)
  |_,_=>none
 | .call {callee:= .builtin .clear,args,argTypes} =>match args.toList,argTypes.toList with
  | [x],[t]=>(evalClear T st t (st.ev x)).map λs=>(.undef,s)
  |_,_=>none
 | .call {callee:= .value (.func f),args, .. } =>match Γ f with
  |some (.m s)=>Ys st o.dst s (args.toList.map st.ev)
  |some (.q s)=>if gu s (args.toList.map st.ev) then (match Ns args.toList st with
   |some st1=>(Fl T Γ st1 o).map λv=>(v,st1)
   |none=>none) else (Fl T Γ st o).map λv=>(v,st)
  |_=>(Fl T Γ st o).map λv=>(v,st)
 |_=>(Fl T Γ st o).map λv=>(v,st)
def gy (e:Ty):Nat->List (Nat×Operand)->St->Option (Bool×List e.den)
 |_,[],_=>some (true,[])
 |i,(j,x)::r,st=>
  if i=j/\(st.ev x).settled=true then match Gc st e (st.ev x),gy e (i+1) r st with
   |some (fr,y),some (Ww,ys)=>some (fr&&Ww,y::ys)
   |_,_=>none
  else none
def cv (st:St) (t:TypeId) (len:Nat) (parts:Array (Nat×Operand)):Option AV:=
 match T.elem t with
 |none=>none
 |some te=>match T.ty te with
  |none=>none
  |some e=>if parts.size=len/\len<=64/\e.size<=64 then (gy e 0 parts.toList st).map λp=> .at (.data p.1 (.slice e) p.2) else none
def Ye (Γ:Env) (st:St) (o:Oper):Option AV:=
 match o.op with
 | .buildSlice t len parts=>cv T st t len parts
 | .build t parts=>Yr T st t parts
 |_=>Fl T Γ st o
def Ads (q:Bool) (Γ:Env) (o:Oper):Bool:=
 match o.op with
 | .buildSlice _ _ _| .build _ _=>!q
 | .alloc _| .box _ _| .store _ _ _| .makeSlice _ _ _| .makeMap _ _| .mapUpdate _ _ _ _| .insert _ _ _ _=>true
 | .assign (.const _)=>true
 | .call {callee:= .builtin .append, .. } =>true
 | .call {callee:= .builtin .copy, .. } =>true
 | .call {callee:= .builtin .clear, .. } =>true
 | .call {callee:= .value (.func f), .. } =>match Γ f with
  |some (.m _)=>true
  |_=>false
 |_=>false
def Ez (Γ:Env) (ops:Array Oper) (st:St) (o:Oper):Option St:=
 match o.guard with
 |none=>(evalOp T Γ st o).map λr=>r.2.put o.dst r.1
 |some (j,want)=>match Yl st ((ops[j]?).bind (·.dst)) with
  |some (some b)=>if b==want then (evalOp T Γ st o).map λr=>r.2.put o.dst r.1 else some (st.put o.dst (.at .skip))
  |some none=>some (st.put o.dst (.at .skip))
  |none=>none
def bz (Γ:Env) (ops:Array Oper):List Oper->St->Option St
 | [],st=>some st
 |o::r,st=>match Ez T Γ ops st o with
  |some st'=>bz Γ ops r st'
  |none=>none
def Jp (q:Bool) (Γ:Env) (ops:Array Oper):List Nat:=
 (List.range ops.size).foldl (init:= []) λacc i=>match ops[i]? with
  |some o=>if Ads q Γ o||o.after.any (λe=>Region.binds .any e&&acc.contains e.on) then acc++ [i] else acc
  |none=>acc
def dz (q:Bool) (Γ:Env) (ops:Array Oper):List Nat:=(List.range ops.size).filter λi=>!(Jp q Γ ops).contains i
def oJ (ops:Array Oper) (hd tl:List Nat) (i:Nat):Bool:=
 match ops[i]? with
 |some o=>(match o.op,o.guard with
  | .move (.tmp _),none=>true
  |_,_=>false)&&!((tl.take 1++hd).any λj=>decide (i<j)&&Region.waitsFor .any ops j i)
 |none=>false
def Wv (q:Bool) (Γ:Env) (ops:Array Oper):List Nat:=(dz q Γ ops).filter λi=>oJ ops (dz q Γ ops) (Jp q Γ ops) i
def Wx (q:Bool) (Γ:Env) (ops:Array Oper):List Nat:=(dz q Γ ops).filter λi=>!oJ ops (dz q Γ ops) (Jp q Γ ops) i
def kY (q:Bool) (Γ:Env) (ops:Array Oper):List Nat:=Wv q Γ ops++Wx q Γ ops
def Adi (ops:Array Oper) (i:Nat):Bool:=match ops[i]? with
 |some o=>(match o.op,o.guard with
  | .extract _ _,none=>true
  |_,_=>false)
 |none=>false
def po (ops:Array Oper):List Nat->Array Bool->Bool
 | [],Ah=>(Region.ready .any ops Ah).isEmpty
 |k::r,Ah=>(decide (Region.ready .any ops Ah= [k])||(Adi ops k&&((Region.ready .any ops Ah).contains k&&Region.free .any ops Ah k)))&&po ops r (Ah.setIfInBounds k true)
def qw (ops:Array Oper) (tl:List Nat):List Nat->Array Bool->Bool
 | [],Ah=>po ops tl Ah
 |k::r,Ah=>(Region.ready .any ops Ah).contains k&&Region.free .any ops Ah k&&qw ops tl r (Ah.setIfInBounds k true)
def wN (ops:Array Oper) (hd:List Nat):List Nat->Bool
 | []=>true
 |f::r=>(hd.all λi=>(f::hd).any λj=>decide (i<j)&&Region.waitsFor .any ops j i)&&r.all λt=>(f::r).any λk=>Region.waitsFor .any ops t k
def ou (ops:Array Oper) (tl hd:List Nat):List Nat->Array Bool->Bool
 | [],Ah=>qw ops tl hd Ah
 |k::r,Ah=>(Region.ready .any ops Ah).contains k&&Region.free .any ops Ah k&&ou ops tl hd r (Ah.setIfInBounds k true)
def dE (q:Bool) (Γ:Env) (ops:Array Oper):Bool:=
 Region.noSelect ops&&((Wv q Γ ops).length+((Wx q Γ ops).length+(Jp q Γ ops).length)==ops.size)&&ou ops (Jp q Γ ops) (Wx q Γ ops) (Wv q Γ ops) (Array.replicate ops.size false)&&wN ops (Wx q Γ ops) (Jp q Γ ops)
def Yb (Γ:Env) (ops:Array Oper) (st:St) (o:Oper):Option AV:=
 match o.guard with
 |none=>Ye T Γ st o
 |some (j,want)=>match Yl st ((ops[j]?).bind (·.dst)) with
  |some (some b)=>if b==want then Ye T Γ st o else some (.at .skip)
  |some none=>some (.at .skip)
  |none=>none
def Gh (Γ:Env) (ops:Array Oper):List Nat->St->Option St
 | [],st=>some st
 |i::r,st=>match ops[i]? with
  |none=>none
  |some o=>match Yb T Γ ops st o with
   |some v=>Gh Γ ops r (st.put o.dst v)
   |none=>none
def Nc (Γ:Env) (ops:Array Oper):List Nat->St->Option St
 | [],st=>some st
 |i::r,st=>match ops[i]? with
  |none=>none
  |some o=>match Ez T Γ ops st o with
   |some st'=>Nc Γ ops r st'
   |none=>none
def Sf (Γ:Env) (ops:Array Oper) (draw:Bool) (st:St):Option St:=
 if draw then (if dE false Γ ops then (match Gh T Γ ops (kY false Γ ops) st with
  |some st'=>Nc T Γ ops (Jp false Γ ops) st'
  |none=>none) else if dE true Γ ops then (match Gh T Γ ops (kY true Γ ops) st with
  |some st'=>Nc T Γ ops (Jp true Γ ops) st'
  |none=>none) else none)
 else bz T Γ ops ops.toList st
def CQ (ops:Array Oper) (i:Nat):Bool:=match ops[i]? with
 |some o=>(match o.op,o.guard with
  | .move (.tmp _),none=>true
  |_,_=>false)
 |none=>false
def l8 (ops:Array Oper) (i:Nat):Bool:=match ops[i]? with
 |some o=>(match o.op,o.guard with
  | .move (.tmp _),none=>true
  | .nilCheck _,none=>true
  | .fieldAddr _ _ _,none=>true
  |_,_=>false)
 |none=>false
def Asf (q:Bool) (ops:Array Oper) (i:Nat):Bool:=match q with
 |true=>l8 ops i
 |false=>CQ ops i
def Jn (q:Bool) (ops:Array Oper):List Nat->Array Bool->List Nat
 | [],_=> []
 |i::r,Ah=>if Asf q ops i&&((Region.ready .any ops Ah).contains i&&Region.free .any ops Ah i) then i::Jn q ops r (Ah.setIfInBounds i true) else Jn q ops r Ah
def Ady (q:Bool) (ops:Array Oper):List Nat:=Jn q ops (List.range ops.size) (Array.replicate ops.size false)
def kV (q:Bool) (ops:Array Oper):Bool:=Nat.ble (ops.size-(Ady q ops).length) 8
def Ks (ops:Array Oper):List Nat:=Ady (!kV false ops) ops
def Ej:List Nat->Array Bool->Array Bool
 | [],Ah=>Ah
 |i::r,Ah=>Ej r (Ah.setIfInBounds i true)
def anyS (Γ:Env) (ops:Array Oper) (K:St->Prop):Nat->Array Bool->St->Prop
 |0,Ah,st=>Region.ready .any ops Ah= []/\K st
 |f+1,Ah,st=>Region.ready .any ops Ah≠ []/\ ∀i∈Region.ready .any ops Ah,∃o st',ops[i]?=some o/\Ez T Γ ops st o=some st'/\anyS Γ ops K f (Ah.setIfInBounds i true) st'
def l9 (ops:Array Oper) (i:Nat):Bool:=match ops[i]? with
 |some o=>(match o.op,o.guard with
  | .move _,none=>true
  | .load _ _,none=>true
  | .indexAddr _ _ _,none=>true
  | .fieldAddr _ _ _,none=>true
  |_,_=>false)
 |none=>false
def lk (ops:Array Oper):List Nat->Array Bool->List Nat
 | [],_=> []
 |i::r,Ah=>if l9 ops i&&((Region.ready .any ops Ah).contains i&&Region.free .any ops Ah i) then i::lk ops r (Ah.setIfInBounds i true) else lk ops r Ah
def rC (ops:Array Oper) (i j:Nat) (p:Oper->Oper->Bool):Bool:=match ops[i]?,ops[j]? with
 |some x,some y=>p x y
 |_,_=>false
def pR (ops:Array Oper) (x y:Oper):Bool:=match x.dst with
 |some d=>!(y.looksAt ops).contains d
 |none=>true
def PI (x y:Oper):Bool:=match x.dst with
 |some d=>y.dst !=some d
 |none=>true
def kc (ops:Array Oper):List Nat->Array Bool->Bool
 | [],_=>true
 |r::E,Ah=>(Region.ready .any ops Ah).contains r&&kc ops E (Ah.setIfInBounds r true)
def DX (ops:Array Oper):List Nat->Bool
 | []=>true
 |r::E=>(rC ops r r (pR ops)&&E.all λq=>rC ops r q (λx y=>PI x y&&pR ops y x)&&(Region.waitsFor .any ops q r||rC ops r q (pR ops)))&&DX ops E
def Ago (ops:Array Oper) (E:List Nat) (L0:Array Bool):Bool:=E.all λr=>(List.range ops.size).all λj=>E.contains j||L0.getD j false||Region.waitsFor .any ops j r||rC ops r j (λx y=>x.apart ops y)
def dF (ops:Array Oper) (E:List Nat) (L0:Array Bool):Bool:=(E.all (l9 ops)&&kc ops E L0)&&(DX ops E&&Ago ops E L0)
def uh (ops:Array Oper) (E:List Nat) (Ah:Array Bool) (r:Nat):Bool:=(List.range ops.size).any λj=>!E.contains j&&(Ah.getD j false&&Region.waitsFor .any ops j r)
def Aeu (Γ:Env) (ops:Array Oper) (E:List Nat) (Ah:Array Bool) (st:St):Prop:=
 ∀r∈E,uh ops E Ah r=true\/ ∃o v,ops[r]?=some o/\Yb T Γ ops st o=some v/\ ∀d,o.dst=some d->st.get d=v
def sQ (Γ:Env) (ops:Array Oper) (E:List Nat) (K:St->Prop):Nat->Array Bool->St->Prop
 |0,Ah,st=>Aeu T Γ ops E Ah st/\Region.ready .any ops Ah= []/\K st
 |f+1,Ah,st=>Aeu T Γ ops E Ah st/\Region.ready .any ops Ah≠ []/\ ∀i∈Region.ready .any ops Ah,∃o st',ops[i]?=some o/\Ez T Γ ops st o=some st'/\sQ Γ ops E K f (Ah.setIfInBounds i true) st'
def Agn (Γ:Env) (ops:Array Oper) (K:St->Prop) (n:Nat) (L0:Array Bool) (cZ:St):Prop:=
 ∃E st1,dF ops E L0=true/\E.length<=n/\Gh T Γ ops E cZ=some st1/\sQ T Γ ops E K (n-E.length) (Ej E L0) st1
def EF (Γ:Env) (draw:Bool):Env:= λf=>match Γ f with
 |some (.b s m)=>some (if draw then .q s else .m m)
 |r=>r
inductive Ls where
 |normal
 |exit (id:Nat)
 |ret
def Iq (live:List Nat):Nat->List AV->List AV
 |_,[]=> []
 |i,v::r=>(if live.contains i then v else .undef)::Iq live (i+1) r
def AV.refs:AV->List Nat
 | .at a=>a.refs
 | .agg cs=>cs.flatMap AC.refs
 | .cf _ _ _=> []
 | .Mn l=>l.flatMap λp=>p.2.flatMap AC.refs
def OB.refs:OB->List Nat
 | .var _ vs=>vs.flatMap AC.refs
 |_=> []
def bT:List Nat->St->St
 | [],st=>st
 |l::r,st=>bT r (st.forget l)
def qP (l k m:Nat):Nat:=if m=l then k else m
def We (l k:Nat):AC->AC
 | .own m off len=> .own (qP l k m) off len
 | .Gy m i=> .Gy (qP l k m) i
 | .Kh m i=> .Kh (qP l k m) i
 | .clo f Eg=> .clo f (Eg.map λp=>(qP l k p.1,p.2))
 | .Kr m=> .Kr (qP l k m)
 | .sub m i c=> .sub (qP l k m) i c
 | .Kd m i c=> .Kd (qP l k m) i c
 |a=>a
def St.rename (l k:Nat) (st:St):St:=
 match Au st.heap k,Au st.heap l with
 |none,some b=>if (Nat.blt l Bn&&Nat.blt k Bn)=true then
   (let s:=st.Lb (We l k); {s with heap:=Ou (bl s.heap l) k (b.map (We l k))}) else st
 |_,_=>st
def Mw:Nat->Nat->St->St
 |0,_,st=>st
 |n+1,t,st=>Mw n (t+1) (match st.get t with
  | .at (.own l _ _)=>match Au st.heap l with
   |some (.arr _ _ _ _ _)=>if (st.tmps.take t).any (λv=>v.refs.contains l) then st else st.rename l (700000+t)
   |_=>st
  |_=>st)
def dJ:Nat:=1000000007
def Wf (t:Nat):Nat->List AC->St->St
 |_,[],st=>st
 |c, .own m _ _::r,st=>Wf t (c+1) r (st.rename m (740000+100*t+c))
 |c,_::r,st=>Wf t (c+1) r st
def renameVars:Nat->Nat->St->St
 |0,_,st=>st
 |n+1,t,st=>renameVars n (t+1) (match st.get t with
  | .at (.Gy l _)=>match Au st.heap l with
   |some (.var _ vs)=>if ((st.tmps.take t).any (λv=>v.refs.contains l)||!Nat.blt l Bn)=true then st else Wf t 0 vs (st.rename l (720000+t))
   |_=>st
  |_=>st)
def gW:Nat:=1000000008
def AC.Akv (flat:Bool):AC->AC
 | .data fr τ x=> .data (fr&&!(flat&&τ.flat)) τ x
 |c=>c
def OB.Iv (flat all one:Bool):OB->OB
 | .arr fr tr e tid xs=> .arr (fr&&!(all||(one||(flat&&e.flat)))) (tr&&!all) e tid xs
 | .var tid vs=> .var tid (vs.map (AC.Akv flat))
 |b=>b
def Uv:Nat:=1000000009
def Sx:Nat:=1100000000
def kR:Nat:=1200000000
def St.Iv (live:List Nat) (st:St):St:= {st with heap:=st.heap.map λp=>(p.1,p.2.Iv (live.contains Uv) (live.contains (Sx+p.1)) (live.contains (kR+p.1)))}
def Sr:Nat:=900000000
def cL (t:Nat) (st:St):St:=match st.get t with
 | .at (.own l off len)=>match Au st.heap l with
  |some (.arr fr tr e tid xs)=>if Nat.blt l Bn=true then (st.new l (.arr fr tr e tid ((xs.drop off).take len))).put (some t) (.at (.own l 0 ((xs.drop off).take len).length)) else st
  |_=>st
 |_=>st
def Pn:Nat:=1900000000
def o1:Nat:=950000000
def Qn (c:Nat) (st:St):St:=match Au st.heap Pn with
 |some (.var _ vs)=>match vs[c]? with
  |some (.own l off len)=>match Au st.heap l with
   |some (.arr fr tr e te xs)=>if Nat.blt l Bn=true then match Au (st.new l (.arr fr tr e te ((xs.drop off).take len))).heap Pn with
     |some (.var tid vs')=>(st.new l (.arr fr tr e te ((xs.drop off).take len))).Kc Pn (.var tid (vs'.set c (.own l 0 ((xs.drop off).take len).length)))
     |_=>st
    else st
   |_=>st
  |_=>st
 |_=>st
def Qa (live:List Nat):Nat->Nat->St->St
 |0,_,st=>st
 |n+1,c,st=>Qa live n (c+1) (if live.contains (o1+c) then Qn c st else st)
def Pk (live:List Nat):Nat->Nat->St->St
 |0,_,st=>Qa live 16 0 st
 |n+1,t,st=>Pk live n (t+1) (if live.contains (Sr+t) then cL t st else st)
def St.clean (live:List Nat) (st:St):St:=
 let s:St:= {st with tmps:=Iq live 0 st.tmps}
 let r1:=s.tmps.flatMap AV.refs
 let r2:=r1++(s.heap.filter λp=>r1.contains p.1).flatMap λp=>p.2.refs
 let s2:=bT ((s.heap.map (·.1)).filter λl=>!r2.contains l&&Nat.blt l Bn) s
 let s2:=if live.any (λt=>Nat.ble Sr t&&Nat.blt t dJ) then Pk live s2.tmps.length 0 s2 else s2
 let s3:=if live.contains dJ then Mw s2.tmps.length 0 s2 else s2
 let s3:=if live.contains gW then renameVars s3.tmps.length 0 s3 else s3
 if live.any (λt=>Nat.ble Uv t) then s3.Iv live else s3
def Fa:Code->Nat
 | .region id _ _=>id
 | .seq a _=>Fa a
 | .cond _ a _=>Fa a
 | .block _ c=>Fa c
 | .loop c=>1000+Fa c
 |_=>0
def Al2 (a b:List Nat):List Nat:=a++b.filter λt=>!a.contains t
def DB:List Oper->List Nat->List Nat
 | [],out=>out
 |o::r,out=>Al2 (o.op.operands.toList.filterMap λ | .tmp t=>some t|_=>none) (match o.dst with|some d=>(DB r out).filter (·!=d)|none=>DB r out)
def PJ:List (Nat×List Nat)->Nat->List Nat
 | [],_=> []
 |(k,l)::r,id=>if k=id then l else PJ r id
def sd:Code->List (Nat×List Nat)->List Nat->List Nat->List Nat×List (Nat×List Nat)
 | .region _ ops _,_,_,out=>(DB ops.toList out,[])
 | .seq a b,env,ret,out=>let rb:=sd b env ret out;let ra:=sd a env ret rb.1;(ra.1,ra.2++rb.2)
 | .cond c a b,env,ret,out=>let ra:=sd a env ret out;let rb:=sd b env ret out
  (Al2 (match c with| .tmp t=> [t]|_=> []) (Al2 ra.1 rb.1),ra.2++rb.2)
 | .block id c,env,ret,out=>sd c ((id,out)::env) ret out
 | .exit id,env,_,_=>(PJ env id,[])
 | .ret,_,ret,_=>(ret,[])
 | .loop c,env,ret,_=>let l:=(sd c env ret []).1;let r:=sd c env ret l;(l,(Fa c,l)::r.2)
 |_,_,_,out=>(out,[])
def DC:List ResultVar->List Nat
 | []=> []
 | .tmp t::r=>t::DC r
 | .cell p _::r=>p::DC r
def DA (marks:List Nat) (fn:Func) (c:Code):Nat->List Nat:=let ret:=DC fn.results.toList;let g:=PJ (sd c [] ret ret).2;match marks with
 | []=>g
 |m=> λid=>g id++m
def St.Qz (dead:List Nat) (st:St):St:=
 let s:St:= {st with tmps:=Iq ((List.range st.tmps.length).filter λt=>!dead.contains t) 0 st.tmps}
 let r1:=s.tmps.flatMap AV.refs
 let r2:=r1++(s.heap.filter λp=>r1.contains p.1).flatMap λp=>p.2.refs
 bT ((s.heap.map (·.1)).filter λl=>!r2.contains l&&Nat.blt l Bn) s
def Zx (ops:Array Oper) (t:Nat):Bool:=ops.toList.any λo=>o.dst==some t
def lP (Γ:Env) (ops:Array Oper) (draw:Bool) (st:St) (K:St->Prop):Prop:=
 (∃st',Sf T Γ ops draw st=some st'/\K st')\/
 (draw=true/\Region.noSelect ops=true/\ ∃cZ,Gh T Γ ops (Ks ops) st=some cZ/\
  (anyS T Γ ops K (ops.size-(Ks ops).length) (Ej (Ks ops) (Array.replicate ops.size false)) cZ\/Agn T Γ ops K (ops.size-(Ks ops).length) (Ej (Ks ops) (Array.replicate ops.size false)) cZ))
def BE (Γ:Env) (ops:Array Oper) (draw:Bool) (st:St) (K:St->Prop):Prop:=
 lP T Γ ops draw st K\/ ∃dead:List Nat,(dead.all (Zx ops))=true/\lP T Γ ops draw st λs=>K (s.Qz dead)
def RJ (K:St->Prop) (Q:Ls->St->Prop):Ls->St->Prop
 | .normal,s=>K s
 |e,s=>Q e s
def zC (id:Nat) (Q:Ls->St->Prop):Ls->St->Prop
 | .exit YA,s=>if YA=id then Q .normal s else Q (.exit YA) s
 |e,s=>Q e s
def Ael (ops:Array Oper) (t:Nat):Bool:=ops.toList.any λo=>match o.op with
 | .extract (.tmp s) _=>Nat.beq s t
 | .move (.tmp s)=>Nat.beq s t
 | .assign (.tmp s)=>Nat.beq s t
 |_=>false
def Pe (ops:Array Oper):Nat->List AV->List AV
 |_,[]=> []
 |i, .Mn l::r=>(if Ael ops i=true then .Mn l else .undef)::Pe ops (i+1) r
 |i,v::r=>v::Pe ops (i+1) r
def St.o6 (ops:Array Oper) (st:St):St:= {st with tmps:=Pe ops 0 st.tmps}
inductive Ot (Γ:Env) (live:Nat->List Nat):Code->St->(Ls->St->Prop)->Prop where
 |skip {st:St} {Q:Ls->St->Prop} :Q .normal st->Ot Γ live .skip st Q
 |label {l:Nat} {st:St} {Q:Ls->St->Prop} :Q .normal st->Ot Γ live (.label l) st Q
 |exit {id:Nat} {st:St} {Q:Ls->St->Prop} :Q (.exit id) st->Ot Γ live (.exit id) st Q
 |ret {st:St} {Q:Ls->St->Prop} :Q .ret st->Ot Γ live .ret st Q
 |region {id:Nat} {ops:Array Oper} {draw:Bool} {st:St} {Q:Ls->St->Prop} :BE T (EF Γ draw) ops draw (st.o6 ops) (Q .normal)->Ot Γ live (.region id ops draw) st Q
 |seq {x y:Code} {st:St} {Q:Ls->St->Prop} (Q1:Ls->St->Prop):Ot Γ live x st Q1->(∀s,Q1 .normal s->Ot Γ live y s Q)->(∀e s,e≠ .normal->Q1 e s->Q e s)->Ot Γ live (.seq x y) st Q
 |cond {c:Operand} {x y:Code} {st:St} {fr t:Bool} {Q:Ls->St->Prop} :st.ev c= .at (.data fr .bool t)->(t=true->Ot Γ live x st Q)->(t=false->Ot Γ live y st Q)->Ot Γ live (.cond c x y) st Q
 |block {id:Nat} {c:Code} {st:St} {Q:Ls->St->Prop} (Q1:Ls->St->Prop):Ot Γ live c st Q1->(∀e s,Q1 e s->zC id Q e s)->Ot Γ live (.block id c) st Q
 |loop {c:Code} {st:St} {Q:Ls->St->Prop} (Q1:Ls->St->Prop):Ot Γ live c (st.clean (live (Fa c))) Q1->(∀s,Q1 .normal s->Ot Γ live (.loop c) s Q)->(∀e s,e≠ .normal->Q1 e s->Q e s)->Ot Γ live (.loop c) st Q
def eo (st:St):List ResultVar->Option (List AV)
 | []=>some []
 | .tmp t::r=>(eo st r).map λl=>st.get t::l
 | .cell p t::r=>match Qu T st t (st.get p),eo st r with
  |some v,some l=>some (v::l)
  |_,_=>none
def om (s:Spec) (fn:Func) (st:St):Option (Bool×s.res.den):=
 match eo T st fn.results.toList with
 |some [v]=>if s.Hb then none else Gc st s.res v
 |some [v,u]=>if s.Hb then Eb st s.res [v,u] else none
 |some [v,u,t]=>if s.Hb then Eb st s.res [v,u,t] else none
 |_=>none
def Tt:(τ:Ty)->τ.den->List AV
 | .pair a r,x=> .at (.data a.flat a x.1)::Tt r x.2
 |_,_=> []
def lK (st:St):(c:CK)->AC->Option (c.den×List Nat)
 | .Em τ,a=>if τ.flat||a.settled then (Dv st τ a).map λp=>(p.2,[]) else none
 | .row e te, .own l off len=>match st.at l with
  |some (.arr _ _ e' Rv xs)=>if h:e'=e/\Rv=te then some ((((h.1▸xs:List e.den).drop off).take len),[l]) else none
  |_=>none
 | .row _ _, .Lm=>some ([],[])
 | .Hp e te, .own l off len=>match st.at l with
  |some (.arr _ tr e' Rv xs)=>if h:e'=e/\Rv=te/\(tr||e.flat)=true then some ((((h.1▸xs:List e.den).drop off).take len),[l]) else none
  |some (.Gz e' Rv xs)=>if h:e'=e/\Rv=te then some ((((h.1▸xs:List e.den).drop off).take len),[l]) else none
  |_=>none
 | .Hp _ _, .Lm=>some ([],[])
 | .Bp e te _, .own l off len=>match st.at l with
  |some (.Bp e' Rv rows none _)=>if h:e'=e/\Rv=te/\off=0/\len=rows.length then some ((h.1▸rows:List (List e.den)),[l]) else none
  |_=>none
 |_,_=>none
def Wc (st:St):(cs:List CK)->List AC->Option (CKs.den cs×List Nat)
 | [],[]=>some ((),[])
 |c::r,a::as=>match lK st c a,Wc st r as with
  |some (x,t1),some (y,t2)=>some ((x,y),t1++t2)
  |_,_=>none
 |_,_=>none
def rH (st:St) (l:Nat):(c:CK)->Option c.den
 | .Em _=>none
 | .row e te=>match st.at l with
  |some (.arr _ _ e' Rv xs)=>if h:e'=e/\Rv=te then some (h.1▸xs) else none
  |_=>none
 | .Hp e te=>match st.at l with
  |some (.Gz e' Rv xs)=>if h:e'=e/\Rv=te then some (h.1▸xs) else none
  |_=>none
 | .part _ _=>none
 | .Bp _ _ _=>none
def Pc (st:St):(k:Nat)->(cs:List (Bool×CK))->Option (IOs.den cs)
 |_,[]=>some ()
 |k,(true, .Em _)::r=>Pc st (k+1) r
 |k,(true, .Bp _ _ _)::r=>Pc st (k+1) r
 |k,(true, .row e te)::r=>match rH st (Dt true k) (.row e te),Pc st (k+1) r with
  |some x,some y=>some (x,y)
  |_,_=>none
 |k,(true, .Hp e te)::r=>match rH st (Dt true k) (.Hp e te),Pc st (k+1) r with
  |some x,some y=>some (x,y)
  |_,_=>none
 |k,(true, .part e te)::r=>match rH st (Dt true k) (.row e te),Pc st (k+1) r with
  |some x,some y=>some (x,y)
  |_,_=>none
 |k,(false,_)::r=>Pc st (k+1) r
def Qi:(k:Nat)->List (Bool×CK)->List Nat
 |_,[]=> []
 |k,(true, .Em _)::r=>Qi (k+1) r
 |k,(true, .Bp _ _ _)::r=>Qi (k+1) r
 |k,(true,_)::r=>Dt true k::Qi (k+1) r
 |k,(false,_)::r=>Qi (k+1) r
def Jm:(k:Nat)->List (Bool×CK)->List AC->Option (List AC)
 |_,_,[]=>some []
 |k,(true, .row _ _)::r, .own l _ _::as=>if Nat.beq l (Dt true k) then Jm (k+1) r as else none
 |k,(true, .Hp _ _)::r, .own l _ _::as=>if Nat.beq l (Dt true k) then Jm (k+1) r as else none
 |k,(false,_)::r,a::as=>(Jm (k+1) r as).map λl=>a::l
 |_,_,_=>none
def jL (st:St):List AC->List (Bool×CK)->Prop
 | .own l off len::as,(true,_)::r=>(off=0/\match st.at l with
  |some (.arr _ _ _ _ xs)=>len=xs.length
  |some (.Gz _ _ xs)=>len=xs.length
  |_=>False)/\jL st as r
 |_::as,(false,_)::r=>jL st as r
 |_,_=>True
def SI (s:MSpec) (st:St) (l:List AV):Option (List AC×List Nat):=match s.rp with
 |none=>if s.Hb=Nat.blt 1 l.length then (ungroup s.Fu l).map λas=>(as,[]) else none
 |some tid=>match s.rx with
  |none=>match l with
   | [.at (.Gy m i)]=>match st.at m with
    |some (.var Tm vs)=>if Tm=tid/\i=0/\Nat.blt m Bn=true then some (vs,[m]) else none
    |_=>none
   |_=>none
  |some n=>match l with
   | .at (.Gy m i)::x::r=>match st.at m with
    |some (.var Tm vs)=>if Tm=tid/\i=0/\Nat.blt m Bn=true/\vs.length=n then (ungroup s.Fu (x::r)).map λas=>(vs++as,[m]) else none
    |_=>none
   |_=>none
def zH (st:St) (n:Nat) (as:List AC):List (Nat×Nat)->Prop
 | []=>True
 |(k,j)::r=>(match as[j]? with
  |some (.own l _ _)=>match st.at l with
   |some (.Bp _ _ _ _ (some p))=>p.1=Dt false k/\n<=p.2/\Nat.blt k 1000=true
   |_=>False
  |_=>False)/\zH st n as r
def lp (s:MSpec) (fn:Func) (x:Ins.den s.ins) (st:St) (cs:List AC) (P:CKs.den s.outs×IOs.den s.ins->Prop):Prop:=
 match eo T st fn.results.toList with
 |none=>False
 |some l=>match SI s st l with
  |none=>False
  |some (as,ml)=>match Wc st s.outs (cs++as),Pc st 0 s.ins with
   |some (r,ls),some o=>(aW (ml++ls++Qi 0 s.ins)&&Nat.blt s.ins.length 1000&&Nat.blt s.outs.length 1000&&s.Adx)=true/\zH st (s.Fg x) (cs++as) s.keeps/\P (r,o)
   |_,_=>False
def Abg (s:MSpec) (fn:Func) (x:Ins.den s.ins) (st:St) (P:CKs.den s.outs×IOs.den s.ins->Prop):Prop:=
 match s.ptr with
 |none=>lp T s fn x st [] P
 |some p=> ∃vs cs,st.at Pn=some (.var p.1 vs)/\vs.length=p.2/\Jm 0 s.ins vs=some cs/\jL st vs s.ins/\lp T s fn x st cs P
def bn (s:MSpec) (as:List AC):List AV:=match s.ptr with
 |none=>Tw s.Ja as
 |some p=> .at (.Gy Pn 0)::Tw s.Ja (as.drop p.2)
def s8 (s:MSpec) (x:Ins.den s.ins):List (Nat×OB):=match s.ptr with
 |none=>aE 0 s.ins x
 |some p=>aE 0 s.ins x++ [(Pn, .var p.1 ((cF 0 s.ins x).take p.2))]
def aJ:List (Bool×CK)->Bool
 | []=>true
 |(true, .Bp _ _ _)::_=>false
 |_::r=>aJ r
def EA (s:MSpec):Bool:=aJ s.ins&&match s.ptr with
 |none=>true
 |some p=>Nat.ble p.2 s.ins.length
def Aj6 (Γ:Env) (s:MSpec) (fn:Func) (x:Ins.den s.ins) (P:CKs.den s.outs×IOs.den s.ins->Prop):Prop:=
 (Nat.blt s.ins.length 1000&&EA s)=true/\ ∃c,fn.body=some c/\Ot T Γ (DA T.marks fn c) c {tmps:=bn s (cF 0 s.ins x)++List.replicate (fn.ntmps-(bn s (cF 0 s.ins x)).length) .undef,heap:=s8 s x}
  (λe st=>(∀id,e≠ .exit id)/\Abg T s fn x st P)
def Abh (Γ:Env) (s:Spec) (fn:Func) (x:s.arg.den) (P:s.res.den->Prop):Prop:=
 ∃c,fn.body=some c/\Ot T Γ (DA T.marks fn c) c {tmps:=Tt s.arg x++List.replicate (fn.ntmps-(Tt s.arg x).length) .undef,heap:= []}
  (λe st=>(∀id,e≠ .exit id)/\ ∃fr y,om T s fn st=some (fr,y)/\(fr||!s.fresh)=true/\P y)
end Go.Proofs.YtfgfigkbgecfnaaGreat
