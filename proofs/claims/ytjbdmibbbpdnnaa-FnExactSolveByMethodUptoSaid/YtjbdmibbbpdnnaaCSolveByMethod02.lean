/-
  Part 3 of the proof that the statement FnExactSolveByMethod holds.
-/
import Derived.Test.YtjbdmibbbpdnnaaCSolveByMethod01
namespace Go.Proofs.Ytjbdmibbbpdnnaa
open Go.RowKit
def Dw:Nat->St->List AC->Option (List AC×St)
 |0,st,cs=>if cs.all (·.settled) then some (cs,st) else none
 |n+1,st,cs=>
  match cs.find? (λc=>!c.settled) with
  |none=>some (cs,st)
  |some (.own l _ _)=>match st.at l with
   |some (.arr fr _ e _ xs)=>Dw n (st.freeze l fr e xs) (cs.map (Bb l fr e xs))
   |some (.Dk e _ xs)=>Dw n (st.freeze l false e xs) (cs.map (Bb l false e xs))
   |_=>none
  |some (.Gp l)=>match st.at l with
   |some (.Ov v m)=>Dw n (st.Eo l v m) (cs.map (Dq l v m))
   |_=>none
  |some _=>none
def settle (st:St):AV->Option (AV×St)
 | .at (.own l off len)=>match st.at l with
  |some (.arr fr _ e _ xs)=>some (.at (.data fr (.slice e) ((xs.drop off).take len)),st.freeze l fr e xs)
  |some (.Dk e _ xs)=>some (.at (.data false (.slice e) ((xs.drop off).take len)),st.freeze l false e xs)
  |_=>none
 | .at (.Gp l)=>match st.at l with
  |some (.Ov v m)=>some (.at (.data false (.smap v) m),st.Eo l v m)
  |_=>none
 | .at a=>if a.settled then some (.at a,st) else none
 | .agg cs=>(Dw cs.length st cs).map λp=>(.agg p.1,p.2)
 | .Us fr τ x=>some (.Us fr τ x,st)
 | .Jg _=>none
def AC.refs:AC->List Nat
 | .own l _ _| .Eb l _| .Gf l _| .Gp l| .sub l _ _| .Gd l _ _=> [l]
 | .clo _ Bz=>Bz.map (·.1)
 |_=> []
def Sy:List Nat->Bool
 | []=>true
 |a::r=>!r.contains a&&Sy r
def Ty.tree:Ty->Bool
 | .int _| .bool| .str| .unit=>true
 | .slice e=>e.tree
 | .pair a r=>a.tree&&r.tree
 |_=>false
def Lu (st:St):AC->Bool
 | .data _ τ _=>τ.flat
 | .Hs=>true
 | .own l _ _=>match st.at l with
  |some (.arr _ tr e _ _)=>tr||e.flat
  |some (.Dk _ _ _)=>true
  |_=>false
 |_=>false
def Mw (st:St):AV->Bool
 | .at a=>Lu st a
 | .agg cs=>cs.all (Lu st)&&Sy (cs.flatMap AC.refs)
 |_=>false
def Ak:Nat:=1000000000
variable (T:Tab)
def BS (t:TypeId) (τ:Ty) (i:Nat):Option TypeId:=
 if τ.Ac then (List.range 24).findSome? λf=>match T.off t f with
  |some (o,u)=>if o=i then some u else none
  |none=>none
 else some t
def Tab.CE (te:TypeId):Option Ty:=if T.TL.contains te then (match T.ty te with
 |some (.slice e)=>some e
 |_=>none) else none
def Yn (te:TypeId) (e:Ty):OB:=match T.CE te with
 |some e'=> .Am e' te [] none none
 |none=> .arr (T.mV||e.flat) T.uH e te []
def Nv (b:OB) (key l i:Nat) (st:St):St:=
 match st.at l with
 |some (.var _ vs)=>match vs[i]? with
  |some .Hs=>
   let s1:=st.new key b
   match s1.at l with
   |some (.var tid va)=>s1.Gg l (.var tid (Nz va i (.own key 0 0)))
   |_=>s1
  |_=>st
 |_=>st
def aI (l:Nat) (t:TypeId) (τ:Ty):Nat->Nat->St->St
 |0,_,st=>st
 |n+1,i,st=>
  aI l t τ n (i+1) (match ((BS T t τ i).bind T.elem).bind λte=>(T.ty te).map λe=>(te,e) with
   |some (te,e)=>Nv (Yn T te e) (100000+l*100+i) l i st
   |none=>st)
def Zi (l off:Nat) (t:TypeId) (τ:Ty):Nat->Nat->St->St
 |0,_,st=>st
 |n+1,i,st=>
  Zi l off t τ n (i+1) (match ((BS T t τ i).bind T.elem).bind λte=>(T.ty te).map λe=>(te,e) with
   |some (te,e)=>Nv (Yn T te e) (100000+l*100+(off+i)) l (off+i) st
   |none=>st)
def zeroCells:(τ:Ty)->List AC
 | .unit=> []
 | .pair a r=>zeroCells a++zeroCells r
 | .slice _=> [.Hs]
 | .oslice _=> [.Hs]
 | .ptr _=> [.Qv]
 | .optr _=> [.Qv]
 | .clo _ _=> [.undef]
 |τ=> [.data true τ τ.zero]
def cellsOf (τ:Ty):AV->Option (List AC)
 | .agg cs=>if τ.Ac&&cs.length==τ.size then some cs else none
 | .at (.data fr Ji x)=>if Ji=τ then some (Ro fr Ji x) else none
 | .at .undef=>none
 | .at .skip=>none
 | .at a=>if τ.Ac then none else some [a]
 |_=>none
def mkVar (st:St) (l:Nat) (t:TypeId) (τ:Ty) (cs:List AC):Option (AV×St):=
 if Ak<=100000+l*100+cs.length then none else
 let s:=aI T l t τ cs.length 0 (st.new l (.var t (cs.map (Ba l))))
 match s.at l with
 |some (.var _ _)=>some (.at (.Eb l 0),s)
 |_=>none
def Bj {α:Type} (xs:List α) (i:Nat) (ys:List α):List α:=xs.take i++ys++xs.drop (i+ys.length)
def Od (st:St) (t:TypeId) (p v:AV):Option St:=
 match T.ty t,p with
 |some τ, .at (.Eb l i)=>match st.at l,cellsOf τ v with
  |some (.var tid vs),some cs=>if i+cs.length<=vs.length then some (if τ.Ac&&Nat.blt (100000+l*100+(i+cs.length)) Ak then Zi T l i t τ cs.length 0 (st.Gg l (.var tid (Bj vs i cs))) else st.Gg l (.var tid (Bj vs i cs))) else none
  |_,_=>none
 |some τ, .at (.Gf l j)=>match settle st v with
  |some (v',st')=>match st'.at l,Cu st' τ v' with
   |some (.arr fr tr e tid xs),some (Pc,x)=>if h:τ=e then (if j<xs.length then some (st'.Gg l (.arr (fr&&Pc) (tr&&(Mw st v&&e.tree)) e tid (xs.set j (h▸x)))) else none) else none
   |_,_=>none
  |none=>none
 |_,_=>none
def Bp:Nat:=4294967296
def Ix (st:St) (dst:Nat) (t:TypeId) (x y:Operand):Option (AV×St):=
 match T.elem t with
 |none=>none
 |some te=>match T.ty te,settle st (st.ev y) with
  |some e,some (y',st')=>match Cu st' (.slice e) y' with
   |none=>none
   |some (lZ,ys)=>
    let tr2:=e.flat||(Mw st (st.ev y)&&e.tree)
    match st'.ev x with
    | .at .Hs=>if ys.length<=Bp/\dst<Ak then some (.at (.own dst 0 (0+ys.length)),(st'.new dst (.arr (T.mV||e.flat) T.uH e te [])).new dst (.arr ((T.mV||e.flat)&&(lZ||e.flat)) (T.uH&&tr2) e te (((([]:List e.den).drop 0).take 0)++ys))) else none
    | .at (.own l off len)=>match st'.at l with
     |some (.arr fr tr e' tid xs)=>if h:e'=e/\tid=te then
       (if len+ys.length<=Bp/\l<Ak then
        some (.at (.own l 0 (len+ys.length)),st'.new l (.arr (fr&&(lZ||e.flat)) (tr&&tr2) e te ((((h.1▸xs:List e.den).drop off).take len)++ys))) else none)
      else none
     |_=>none
    |_=>none
  |_,_=>none
def Km (st:St) (l i m:Nat) (e:Ty) (te tid:TypeId) (rows:List (List e.den)) (kp:Option (Nat×Nat)):St:=
 (st.Gg l (.Am e te rows (some i) kp)).new m (.arr false false e tid (rows.getD i []))
def Ll (st:St) (dst:Nat) (t:TypeId) (x y:Operand):Option (AV×St):=
 match x with
 | .tmp tx=>match st.get tx with
  | .at (.sub l i _)=>match st.at l,T.elem t with
   |some (.Am e te rows none kp),some tid=>if (Nat.blt l Ak&&(Nat.blt dst Ak&&!Nat.beq dst l))=true then Ix T ((Km st l i dst e te tid rows kp).put (some tx) (.at (.own dst 0 (rows.getD i []).length))) dst t x y else none
   |_,_=>none
  |_=>Ix T st dst t x y
 |_=>Ix T st dst t x y
def gM:Ty->Bool
 | .int _| .bool| .str| .slice _| .oslice _=>true
 |_=>false
def bj:Ty->Bool
 | .unit=>true
 | .pair a r=>bj a&&bj r
 |e=>gM e
def Vc (st:St) (dst:Nat) (t:TypeId) (l c:AV):Option (AV×St):=
 match T.elem t,l,c with
 |some te, .at (.data _ (.int _) n), .at (.data _ (.int _) m)=>match T.ty te with
  |some e=>if UT n (Bp+1)=true/\n=m/\bj e=true/\dst<Ak then some (.at (.own dst 0 n.toNat),st.new dst (.arr (T.mV||e.flat) (T.uH&&e.tree) e te (List.replicate n.toNat e.zero))) else none
  |none=>none
 |_,_,_=>none
def Gu (e:Ty):Nat->List (Nat×Operand)->St->Option (Bool×Bool×List e.den×St)
 |_,[],st=>some (true,true,[],st)
 |i,(j,x)::r,st=>
  if i=j then match settle st (st.ev x) with
   |some (v,st')=>match Cu st' e v with
    |some (fr,y)=>match Gu e (i+1) r st' with
     |some (Pc,NR,ys,Aik)=>some (fr&&Pc,Mw st (st.ev x)&&e.tree&&NR,y::ys,Aik)
     |none=>none
    |none=>none
   |none=>none
  else none
def Ho (st:St) (dst:Nat) (t:TypeId) (len:Nat) (parts:Array (Nat×Operand)):Option (AV×St):=
 match T.elem t with
 |none=>none
 |some te=>match T.ty te with
  |none=>none
  |some e=>if parts.size=len/\len<=64/\e.size<=64/\dst<Ak then (match Gu e 0 parts.toList st with
   |some (fr,tr,ys,st')=>some (.at (.own dst 0 len),st'.new dst (.arr ((T.mV||e.flat)&&fr) (T.uH&&tr) e te ys))
   |none=>none) else none
def Oc (st:St) (dst:Nat) (t:TypeId):Option (AV×St):=
 match T.mapOf t with
 |some v=>if dst<Ak then some (.at (.Gp dst),st.new dst (.Ov v λ_=>none)) else none
 |none=>none
def bd {α:Type} (m:ByteArray->Option α) (k:ByteArray) (x:α):ByteArray->Option α:= λs=>if s=k then some x else m s
def Ez (st:St) (t:TypeId) (m k x:AV):Option St:=
 match T.mapOf t,m,k with
 |some v, .at (.Gp l), .at (.data _ .str s)=>match st.at l,Cu st v x with
  |some (.Ov v' f),some (_,y)=>if h:v'=v/\v.flat=true/\v.Ac=false then some (st.Gg l (.Ov v (bd (h.1▸f:ByteArray->Option v.den) s y))) else none
  |_,_=>none
 |_,_,_=>none
def cw (st:St) (t t':TypeId) (x y:AV):Option (AV×St):=
 match x,(T.elem t).bind T.ty with
 | .at (.own l off len),some e=>if T.elem t=T.elem t'/\e.flat=true/\e.size=1 then match st.at l,Cu st (.slice e) y with
  |some (.arr fr _ e' tid xs),some (_,ys)=>if h:e'=e/\T.elem t=some tid then
    some (.at (.data true (.int .i64) (min len ys.length:Nat)),st.Gg l (.arr fr false e tid (Bj (h.1▸xs:List e.den) off (ys.take len))))
   else none
  |_,_=>none
  else none
 |_,_=>none
def evalClear (st:St) (t:TypeId) (x:AV):Option St:=
 match x,(T.elem t).bind T.ty with
 | .at (.own l off len),some e=>if e.flat=true/\gM e=true then match st.at l with
  |some (.arr fr _ e' tid xs)=>if h:e'=e/\T.elem t=some tid then
    some (st.Gg l (.arr fr false e tid (Bj (h.1▸xs:List e.den) off (List.replicate len e.zero))))
   else none
  |_=>none
  else none
 |_,_=>none
def Hm (st:St) (t:TypeId):List (Nat×Operand)->List AC->Option (List AC)
 | [],cs=>some cs
 |(i,x)::r,cs=>
  match T.off t i with
  |some (o,u)=>match T.ty u with
   |some ρ=>match cellsOf ρ (st.ev x) with
    |some c=>if o+c.length<=cs.length then Hm st t r (Bj cs o c) else none
    |none=>none
   |none=>none
  |none=>none
def Qk (st:St) (t:TypeId) (parts:Array (Nat×Operand)):Option AV:=
 match T.ty t with
 |none=>none
 |some τ=>if τ.Ac then (Hm T st t parts.toList (zeroCells τ)).map .agg else none
def Bv (io:Bool) (k:Nat):Nat:=if io then 1000000000+k else 500000+k
def Fz (k:Nat):Nat:=600000+k
def LV (dst:Nat) (k:Nat):Nat:=1000000*(dst+1)+k
def Mr:List (Option Nat)->List AC->List AV
 |none::s,a::as=> .at a::Mr s as
 |some n::s,as=> .agg (as.take n)::Mr s (as.drop n)
 |_,_=> []
def Gv:List (Option Nat)->List Value->List Value
 |none::s,u::us=>u::Gv s us
 |some n::s,us=> .agg (us.take n).toArray::Gv s (us.drop n)
 |_,_=> []
def ungroup:List (Option Nat)->List AV->Option (List AC)
 | [],[]=>some []
 |none::s, .at a::as=>(ungroup s as).map λr=>a::r
 |some n::s, .agg cs::as=>if cs.length=n then (ungroup s as).map λr=>cs++r else none
 |_,_=>none
def eD (l:Nat):(c:CK)->c.den->Option OB
 | .Ft _,_=>none
 | .row e te,xs=>some (.arr false false e te xs)
 | .Dv e te,xs=>some (.Dk e te xs)
 | .part e te,x=>some (.arr false false e te x.1)
 | .Am e te kp,xs=>some (.Am e te xs none (if kp then some (l,List.length xs) else none))
def Afl (l:Nat):(c:CK)->c.den->AC
 | .Ft τ,x=> .data τ.flat τ x
 | .row _ _,xs=> .own l 0 (List.length xs)
 | .Dv _ _,xs=> .own l 0 (List.length xs)
 | .part _ _,x=> .own l x.2.1 x.2.2
 | .Am _ _ _,xs=> .own l 0 (List.length xs)
def cn {α:Type} (l:Nat):Option α->List (Nat×α)->List (Nat×α)
 |none,r=>r
 |some b,r=>(l,b)::r
def Sj:(k:Nat)->(cs:List (Bool×CK))->Ins.den cs->List (Nat×OB)
 |_,[],_=> []
 |k,p::r,x=>cn (Bv p.1 k) (eD (Bv p.1 k) p.2 x.1) (Sj (k+1) r x.2)
def Vj:(k:Nat)->(cs:List (Bool×CK))->Ins.den cs->List AC
 |_,[],_=> []
 |k,p::r,x=>Afl (Bv p.1 k) p.2 x.1::Vj (k+1) r x.2
inductive Loc where
 |row (l:Nat)
 |sub (l i c:Nat)
 |view (l:Nat)
 deriving DecidableEq
def Loc.Qa:Loc->Nat
 | .row l=>l
 | .sub l _ _=>l
 | .view l=>l
def Loc.reads:Loc->Bool
 | .view _=>true
 |_=>false
def Wd (st:St) (ls:List Nat):Bool:=ls.all λl=>match st.at l with|some (.var _ vs)=>vs.all (·.settled)|_=>false
def views (k:Nat) (ls:List Nat):List (Nat×Loc):=ls.map λl=>(Bv false k, .view l)
def Hi (st:St) (io:Bool) (k:Nat):(c:CK)->AC->Option (c.den×List (Nat×Loc))
 | .Ft τ, .own l off len=>(Bq st τ (.own l off len)).map λp=>(p.2,[(Bv false k, .view l)])
 | .Ft τ, .clo g Bz=>if Wd st (Bz.map (·.1))&&!τ.Ac then (Fq st τ (.clo g Bz)).map λp=>(p.2,views k (Bz.map (·.1))) else none
 | .Ft τ, .Eb l i=>if Wd st [l]&&!τ.Ac then (Fq st τ (.Eb l i)).map λp=>(p.2,views k [l]) else none
 | .Ft τ, .sub l i c=>(Bq st τ (.sub l i c)).map λp=>(p.2,[(Bv false k, .view l)])
 | .Ft τ,a=>if τ.flat||a.settled then (Bq st τ a).map λp=>(p.2,[]) else none
 | .row e te, .own l off len=>match st.at l with
  |some (.arr _ _ e' Li xs)=>if h:e'=e/\Li=te/\off=0/\len=xs.length then some ((h.1▸xs:List e.den),[(Bv io k, .row l)]) else none
  |_=>none
 | .row e _, .sub l i c=>match st.at l with
  |some (.Dk e' _ xs)=>if h:e'= .slice e/\e.flat=true/\io=true/\c=0 then xs[i]?.map λy=>((h.1▸y:(Ty.slice e).den),[(Bv io k, .sub l i c)]) else none
  |_=>none
 | .row _ _, .Hs=>some ([],[])
 | .Dv e te, .own l off len=>match st.at l with
  |some (.Dk e' Li xs)=>if h:e'=e/\Li=te/\off=0/\len=xs.length then some ((h.1▸xs:List e.den),[(Bv io k, .row l)]) else none
  |_=>none
 | .Dv e _, .sub l i c=>match st.at l with
  |some (.Dk e' _ xs)=>if h:e'= .slice e/\io=true/\c=0 then xs[i]?.map λy=>((h.1▸y:(Ty.slice e).den),[(Bv io k, .sub l i c)]) else none
  |_=>none
 | .Dv _ _, .Hs=>some ([],[])
 | .part e te, .own l off len=>match st.at l with
  |some (.arr _ _ e' Li xs)=>if h:e'=e/\Li=te/\e.flat=true/\io=true then some (((h.1▸xs:List e.den),off,len),[(Bv io k, .row l)]) else none
  |_=>none
 | .Am e te _, .own l off len=>match st.at l with
  |some (.Am e' Li rows none _)=>if h:e'=e/\Li=te/\off=0/\len=rows.length/\io=false then some ((h.1▸rows:List (List e.den)),[(Bv io k, .row l)]) else none
  |_=>none
 |_,_=>none
def bb (st:St):(k:Nat)->(cs:List (Bool×CK))->List AC->Option (Ins.den cs×List (Nat×Loc))
 |_,[],[]=>some ((),[])
 |k,p::r,a::as=>match Hi st p.1 k p.2 a,bb st (k+1) r as with
  |some (x,t1),some (y,t2)=>some ((x,y),t1++t2)
  |_,_=>none
 |_,_,_=>none
def Wh (st:St):(c:CK)->c.den->AC->Option St
 | .row e _,ys, .own l _ len=>match st.at l with
  |some (.arr fr tr e' te xs)=>if h:e=e'/\List.length ys=len/\xs.length=len then some (st.Gg l (.arr (fr&&e'.flat) (tr&&e'.flat) e' te (h.1▸ys))) else none
  |_=>none
 | .Dv e _,ys, .own l _ len=>match st.at l with
  |some (.Dk e' te xs)=>if h:e=e'/\List.length ys=len/\xs.length=len then some (st.Gg l (.Dk e' te (h.1▸ys))) else none
  |_=>none
 | .row e _,ys, .sub l i _=>match st.at l with
  |some (.Dk e' te xs)=>if h: .slice e=e' then (match xs[i]? with
   |some y=>if List.length ys=List.length (h▸y:(Ty.slice e).den) then some (st.Gg l (.Dk e' te (xs.set i (h▸(ys:(Ty.slice e).den))))) else none
   |none=>none) else none
  |_=>none
 | .Dv e _,ys, .sub l i _=>match st.at l with
  |some (.Dk e' te xs)=>if h: .slice e=e' then (match xs[i]? with
   |some y=>if List.length ys=List.length (h▸y:(Ty.slice e).den) then some (st.Gg l (.Dk e' te (xs.set i (h▸(ys:(Ty.slice e).den))))) else none
   |none=>none) else none
  |_=>none
 |_,_, .Hs=>some st
 |_,_,_=>none
def zR (st:St) (e:Ty) (ys:List e.den):AC->Option St
 | .own l _ _=>match st.at l with
  |some (.arr fr tr e' te xs)=>if h:e=e'/\List.length ys=xs.length then some (st.Gg l (.arr fr tr e' te (h.1▸ys))) else none
  |_=>none
 |_=>none
def Eg:(cs:List (Bool×CK))->IOs.den cs->List AC->St->Option St
 | [],_,_,st=>some st
 |(true, .Ft _)::r,x,_::as,st=>Eg r x as st
 |(true, .row e te)::r,x,a::as,st=>match Wh st (.row e te) x.1 a with
  |some st'=>Eg r x.2 as st'
  |none=>none
 |(true, .Dv e te)::r,x,a::as,st=>match Wh st (.Dv e te) x.1 a with
  |some st'=>Eg r x.2 as st'
  |none=>none
 |(true, .part e _)::r,x,a::as,st=>match zR st e x.1 a with
  |some st'=>Eg r x.2 as st'
  |none=>none
 |(true, .Am _ _ _)::r,x,_::as,st=>Eg r x as st
 |(false,_)::r,x,_::as,st=>Eg r x as st
 |_,_,_,_=>none
def Aw (dead part:List Nat) (c:AC):AC:=if c.refs.any (λl=>dead.contains l) then .undef else match c with
 | .sub l i c=>if part.contains l then .undef else .sub l i c
 | .Gd l i c=>if part.contains l then .undef else .Gd l i c
 |c=>c
def Qi:List (Nat×OB)->List Nat->List (Nat×OB)
 | [],_=> []
 |(k,b)::r,dead=>if dead.contains k then Qi r dead else (k,b)::Qi r dead
def St.Wp (st:St) (dead part:List Nat):St:=let s:=st.Gm (Aw dead part); {s with heap:=Qi s.heap dead}
def Mz (st:St) (l j m:Nat) (e:Ty) (te:TypeId) (rows:List (List e.den)) (xs:List e.den) (kp:Option (Nat×Nat)):St:=
 (st.Wp [m] [l]).Gg l (.Am e te (rows.set j xs) none kp)
def Vn (j:Nat):Option (Nat×Nat)->Option (Nat×Nat)
 |none=>none
 |some p=>some (p.1,min p.2 j)
def Vf (st:St) (t:TypeId) (p v:AV):Option St:=
 match T.ty t,p with
 |some τ, .at (.Gd l i j)=>match settle st v with
  |some (v',st')=>match st'.at l,Cu st' τ v' with
   |some (.Am e te rows none kp),some (_,x)=>if h:τ=e then some (st'.Gg l (.Am e te (rows.set i ((rows.getD i []).set j (h▸x))) none kp)) else none
   |_,_=>none
  |none=>none
 |some τ, .at (.Gf l j)=>match st.at l,v with
  |some (.Am e te rows out kp), .at (.own m off len)=>match st.at m with
   |some (.arr _ _ e' _ xs)=>if h:e'=e/\(Nat.blt l Ak&&(!Nat.beq m l&&!τ.Ac))=true/\off=0/\len=xs.length/\(out=none\/out=some j) then some (Mz st l j m e te rows (h.1▸xs) (Vn j kp)) else none
   |_=>none
  |_,_=>none
 |_,_=>none
def CF (st:St):AV->Bool
 | .at (.Gd _ _ _)=>true
 | .at (.Gf l _)=>match st.at l with
  |some (.Am _ _ _ _ _)=>true
  |_=>false
 |_=>false
def Ke (st:St) (t:TypeId) (p v:AV):Option St:=match CF st p with
 |true=>Vf T st t p v
 |false=>Od T st t p v
def Le (st:St) (k m:Nat) (b:OB):St:=let s:=st.Wp [m,k] []; {s with heap:=Jk s.heap k b}
def Yv (t:TypeId):Option (TypeId×Ty):=(T.elem t).bind λte=>(T.CE te).map λe=>(te,e)
def Qn (st:St) (dst:Nat) (t:TypeId) (l c:AV):Option (AV×St):=
 match Yv T t with
 |none=>Vc T st dst t l c
 |some (te,e)=>match l,c with
  | .at (.data _ (.int _) n), .at (.data _ (.int _) m)=>if UT n (Bp+1)=true/\n=m/\dst<Ak then some (.at (.own dst 0 n.toNat),Le st dst dst (.Am e te (List.replicate n.toNat []) none none)) else none
  |_,_=>none
def Ex (st:St) (dst:Nat) (t:TypeId) (len:Nat) (parts:Array (Nat×Operand)):Option (AV×St):=
 match Yv T t with
 |none=>Ho T st dst t len parts
 |some (te,e)=>match parts.toList with
  | [(0,x)]=>match st.ev x with
   | .at (.own m off ln)=>match st.at m with
    |some (.arr _ _ e' _ xs)=>if h:e'=e/\(Nat.beq len 1&&(Nat.blt dst Ak&&Nat.blt m Ak))=true/\off=0/\ln=xs.length then some (.at (.own dst 0 1),Le st dst m (.Am e te [h.1▸xs] none none)) else none
    |_=>none
   |_=>none
  |_=>none
def Lm (st:St) (dst:Nat) (t:TypeId) (x y:Operand):Option (AV×St):=
 match Yv T t with
 |none=>Ll T st dst t x y
 |some (te,e)=>match st.ev x,st.ev y with
  | .at (.own l off len), .at (.own m LW nB)=>match st.at l,st.at m with
   |some (.Am e1 te1 A none _),some (.Am e2 ql B none _)=>
    if h:(e1=e/\e2=e)/\(decide (te1=te)&&decide (ql=te)&&(Nat.blt l Ak&&(Nat.blt m Ak&&!Nat.beq m l)))=true/\(off=0/\len=A.length)/\(LW=0/\nB=B.length)/\0<B.length/\A.length+B.length<=Bp then
     some (.at (.own l 0 (A.length+B.length)),Le st l m (.Am e te ((h.1.1▸A:List (List e.den))++(h.1.2▸B:List (List e.den))) none none))
    else none
   |_,_=>none
  |_,_=>none
def pM (fr:Bool):(c:CK)->c.den->Option OB
 | .Ft _,_=>none
 | .row e te,xs=>some (.arr (fr&&e.flat) false e te xs)
 | .Dv e te,xs=>some (.Dk e te xs)
 | .part e te,x=>some (.arr (fr&&e.flat) false e te x.1)
 | .Am e te _,xs=>some (.Am e te xs none none)
def wy (H:List (Nat×OB)) (l:Nat):Option OB->List (Nat×OB)
 |some b=>Jk H l b
 |none=>H
def Qx (fr:Bool) (key:Nat->Nat):(k:Nat)->(cs:List CK)->CKs.den cs->List (Nat×OB)->List (Nat×OB)
 |_,[],_,H=>H
 |k,c::r,x,H=>Qx fr key (k+1) r x.2 (wy H (key k) (pM fr c x.1))
def Vr (key:Nat->Nat):(k:Nat)->(cs:List CK)->CKs.den cs->List AC
 |_,[],_=> []
 |k,c::r,x=>(match c,x.1 with
  | .Ft τ,y=> .data τ.flat τ y
  | .row _ _,xs=> .own (key k) 0 (List.length xs)
  | .Dv _ _,xs=> .own (key k) 0 (List.length xs)
  | .Am _ _ _,xs=> .own (key k) 0 (List.length xs)
  | .part _ _,_=> .undef)::Vr key (k+1) r x.2
def Sz:List (Option Nat)->List AC->List (Bool×List AC)
 |none::s,a::as=>(false,[a])::Sz s as
 |some n::s,as=>(true,as.take n)::Sz s (as.drop n)
 |_,_=> []
def Ada (Gh:Bool) (sh:List (Option Nat)) (as:List AC):Option AV:=
 if Gh then some (.Jg (Sz sh as)) else match Mr sh as with
  | [v]=>some v
  | []=>some .undef
  |_=>none
def gY (tks:List (Nat×Loc)):List Nat:=(tks.filter λt=>Nat.blt t.1 Ak&&!t.2.reads).map λt=>t.2.Qa
def whole (tks:List (Nat×Loc)):List Nat:=tks.flatMap λt=>match t.2 with| .row l=> [l]|_=> []
def uM (tks:List (Nat×Loc)):List Nat:=(tks.filter λt=>t.2.reads).map λt=>t.2.Qa
def wI (ins:List (Bool×CK)) (te:TypeId) (used:List Nat):List (Nat×Loc)->Option Nat
 | []=>none
 |(k, .row l)::r=>if Nat.blt k Ak&&(!used.contains l&&(match ins[k-500000]? with
   |some (false, .row _ Li)=>decide (Li=te)
   |some (false, .Dv _ Li)=>decide (Li=te)
   |some (false, .Am _ Li _)=>decide (Li=te)
   |_=>false)) then some l else wI ins te used r
 |_::r=>wI ins te used r
def zp (ins:List (Bool×CK)) (tks:List (Nat×Loc)) (d:Nat):(k:Nat)->(used:List Nat)->List CK->List Nat
 |_,_,[]=> []
 |k,used,c::r=>match (match c with
   | .row _ te=>wI ins te used tks
   | .Dv _ te=>wI ins te used tks
   | .Am _ te _=>wI ins te used tks
   |_=>none) with
  |some l=>l::zp ins tks d (k+1) (l::used) r
  |none=>LV d k::zp ins tks d (k+1) used r
def gU (s:MSpec) (tks:List (Nat×Loc)) (d:Nat):List Nat:=zp s.ins tks d 0 [] s.outs
def Bw (ks:List Nat) (j:Nat):Nat:=match ks[j]? with
 |some l=>l
 |none=>Ak+j
def tm (ks:List Nat) (n:Nat):Bool:=Nat.beq ks.length n&&(Sy ks&&ks.all λl=>Nat.blt l Ak)
def CA (st:St) (l:List Nat):Bool:=l.all λk=>match st.at k with|some (.arr fr _ _ _ _)=>fr|_=>false
def DD (st:St) (s:MSpec) (args:List AV):Option (List Nat×List AC×List AV):=
 match s.ptr with
 |none=>some ([],[],args)
 |some p=>match args with
  | .at (.Eb l i)::rest=>match st.at l with
   |some (.var tid vs)=>if tid=p.1/\vs.length=p.2/\i=0 then some ([l],vs,rest) else none
   |_=>none
  |_=>none
def Pj:List (Bool×CK)->List AC->Bool
 |(true, .row _ _)::r, .own _ _ _::as=>Pj r as
 |(true, .Dv _ _)::r, .own _ _ _::as=>Pj r as
 |(true,_)::_,_::_=>false
 |(false,_)::r,_::as=>Pj r as
 |_,as=>as.isEmpty
def bC {α:Type} :List (Bool×CK)->List α->List α->List α
 |(true,_)::r,v::vs,as=>v::bC r vs as
 |(false,_)::r,_::vs,a::as=>a::bC r vs as
 |_,vs,_=>vs
def o5:List (Bool×CK)->Nat->Nat
 |(true,_)::r,n+1=>o5 r n
 |(false,_)::r,n+1=>o5 r n+1
 |_,_=>0
def MSpec.Tj (s:MSpec):Nat:=match s.ptr with|none=>0|some p=>o5 s.ins p.2
def lN (ins:List (Bool×CK)) (as:List AC) (pl:List Nat) (st:St):St:=
 match pl with
 | []=>st
 |l::_=>match st.at l with
  |some (.var tid vs)=>st.Gg l (.var tid (bC ins vs as))
  |_=>st
def Mx (d:Nat):Nat:=LV d 999
def gx (s:MSpec) (d:Nat):List Nat:=match s.rp with|none=> []|some _=> [Mx d]
def Ly (s:MSpec) (tks:List (Nat×Loc)) (d:Nat):List Nat:=gU s tks d++gx s d
def iy (H:List (Nat×OB)) (l:Nat):Bool:=match Ae H l with
 |some (.Am _ _ _ _ _)=>true
 |_=>false
def Vm (H:List (Nat×OB)) (ks:List Nat) (tks:List (Nat×Loc)):List (Nat×Nat)->List Nat
 | []=> []
 |(k,j)::r=>match tks.find? (λt=>Nat.beq t.1 (Bv false k)),ks[j]? with
  |some (_, .row l),some l'=>if Nat.beq l' l&&iy H l then l::Vm H ks tks r else Vm H ks tks r
  |_,_=>Vm H ks tks r
def m6 (H:List (Nat×OB)) (l:Nat):Nat:=match Ae H l with
 |some (.Am _ _ rows _ _)=>rows.length
 |_=>0
def Yd (H:List (Nat×OB)) (ls:List Nat) (n:Nat):List AV->Bool
 | []=>true
 | .at (.sub l i _)::r=>(!ls.contains l||(Nat.blt i n&&Nat.blt i (m6 H l)))&&Yd H ls n r
 |_::r=>Yd H ls n r
def Hb (ls:List Nat):List AV->List AV->List AV
 | .at (.sub l i c)::r,v::vs=>(if ls.contains l then .at (.sub l i c) else v)::Hb ls r vs
 |_::r,v::vs=>v::Hb ls r vs
 |_,vs=>vs
def XO:Option OB->Option (Nat×Nat)
 |some (.Am _ _ _ _ kp)=>kp
 |_=>none
def OB.xA (b:OB) (kp:Option (Nat×Nat)):OB:=match b with
 | .Am e te rows out _=> .Am e te rows out kp
 |b=>b
def Xt (H0:List (Nat×OB)) (ls:List Nat) (n:Nat):List (Nat×OB)->List (Nat×OB)
 | []=> []
 |(l,b)::r=>(l,if ls.contains l then b.xA (Vn n (XO (Ae H0 l))) else b)::Xt H0 ls n r
def gk (bH st:St) (ls:List Nat) (n:Nat):St:=match ls with
 | []=>st
 |_=> {tmps:=Hb ls bH.tmps st.tmps,heap:=Xt bH.heap ls n st.heap}
def RX (s:MSpec) (d:Nat) (as:List AC):Option AV:=match s.rp with
 |none=>Ada s.Gh s.Gj as
 |some _=>some (.at (.Eb (Mx d) 0))
def fK (st st1:St) (d:Nat) (s:MSpec) (pl:List Nat) (tks:List (Nat×Loc)) (r:CKs.den s.outs):St:=
 let ks:=Ly s tks d
 let key:=Bw ks
 let st2:=lN s.ins (Vr key 0 s.outs r) pl (st1.Wp (gY tks++ks++(if s.flat then [] else uM tks)) (whole tks))
 {st2 with heap:=Qx (CA st (gY tks)) key 0 s.outs r (wy st2.heap (Mx d) (s.rp.map λtid=> .var tid ((Vr key 0 s.outs r).drop s.Tj)))}
def Ql (st:St) (dst:Option Nat) (s:MSpec) (args:List AV):Option (AV×St):=
 match DD st s args with
 |none=>none
 |some (pl,vs,rest)=>match ungroup s.He rest with
 |none=>none
 |some jf=>match bb st 0 s.ins (vs++jf) with
  |none=>none
  |some (x,tks)=>if Sy (tks.map λt=>t.2.Qa)&&tm (Ly s tks (dst.getD 0)) (s.outs.length+(gx s (dst.getD 0)).length)&&Nat.blt s.outs.length 1000&&Nat.blt s.ins.length 1000&&(Pj s.ins vs&&pl.all λl=>!((tks.map λt=>t.2.Qa)++Ly s tks (dst.getD 0)).contains l) then match s.fn x with
   |none=>none
   |some (r,o)=>match Eg s.ins o (vs++jf) st with
    |none=>none
    |some st1=>match RX s (dst.getD 0) ((Vr (Bw (Ly s tks (dst.getD 0))) 0 s.outs r).drop s.Tj) with
     |none=>none
     |some v=>if Yd (fK st st1 (dst.getD 0) s pl tks r).heap (Vm st.heap (Ly s tks (dst.getD 0)) tks s.keeps) (s.Cv x) st.tmps=true then
       some (v,gk st (fK st st1 (dst.getD 0) s pl tks r) (Vm st.heap (Ly s tks (dst.getD 0)) tks s.keeps) (s.Cv x)) else none
   else none
def Jv:List Operand->St->Option St
 | [],st=>some st
 |x::r,st=>match settle st (st.ev x) with
  |some (_,st')=>Jv r st'
  |none=>none
def aC (s:Spec) (args:List AV):Bool:=!(s.fresh||s.res.flat||args.all (·.settled))
def evalOp (Γ:Env) (st:St) (o:Oper):Option (AV×St):=
 match o.op with
 | .assign x=>match st.ev x,o.dst,(T.elem o.type).bind λte=>(T.ty te).map λe=>(te,e) with
  | .at .Hs,some d,some (te,e)=>if d<Ak then some (.at (.own d 0 0),st.new d (.arr (T.mV||e.flat) T.uH e te [])) else none
  |v,_,_=>some (v,st)
 | .alloc t=>match o.dst,T.ty t with
  |some d,some τ=>mkVar T st d t τ (zeroCells τ)
  |_,_=>none
 | .box t x=>match o.dst,T.ty t with
  |some d,some τ=>match cellsOf τ (st.ev x) with
   |some cs=>mkVar T st d t τ cs
   |none=>none
  |_,_=>none
 | .store t p x=>(Ke T st t (st.ev p) (st.ev x)).map λs=>(.undef,s)
 | .makeSlice t l c=>match o.dst with
  |some d=>Qn T st d t (st.ev l) (st.ev c)
  |none=>none
 | .makeMap t none=>match o.dst with
  |some d=>Oc T st d t
  |none=>none
 | .mapUpdate t m k x=>(Ez T st t (st.ev m) (st.ev k) (st.ev x)).map λs=>(.undef,s)
 | .insert t m k x=>(Ez T st t (st.ev m) (st.ev k) (st.ev x)).map λs=>(.undef,s)
 | .buildSlice t len parts=>match o.dst with
  |some d=>Ex T st d t len parts
  |none=>none
 | .build t parts=>(Qk T st t parts).map λv=>(v,st)
 | .call {callee:= .builtin .append,args,argTypes} =>match o.dst,args.toList,argTypes.toList with
  |some d,[x,y],[t,t']=>if t=t' then Lm T st d t x y else none
  |_,_,_=>none
 | .call {callee:= .builtin .copy,args,argTypes} =>match args.toList,argTypes.toList with
  | [x,y],[t,t']=>cw T st t t' (st.ev x) (st.ev y)
  |_,_=>none
 | .call {callee:= .builtin .clear,args,argTypes} =>match args.toList,argTypes.toList with
  | [x],[t]=>(evalClear T st t (st.ev x)).map λs=>(.undef,s)
  |_,_=>none
 | .call {callee:= .value (.func f),args, .. } =>match Γ f with
  |some (.m s)=>Ql st o.dst s (args.toList.map st.ev)
  |some (.q s)=>if aC s (args.toList.map st.ev) then (match Jv args.toList st with
   |some st1=>(Cn T Γ st1 o).map λv=>(v,st1)
   |none=>none) else (Cn T Γ st o).map λv=>(v,st)
  |_=>(Cn T Γ st o).map λv=>(v,st)
 |_=>(Cn T Γ st o).map λv=>(v,st)
def aG (e:Ty):Nat->List (Nat×Operand)->St->Option (Bool×List e.den)
 |_,[],_=>some (true,[])
 |i,(j,x)::r,st=>
  if i=j/\(st.ev x).settled=true then match Cu st e (st.ev x),aG e (i+1) r st with
   |some (fr,y),some (Pc,ys)=>some (fr&&Pc,y::ys)
   |_,_=>none
  else none
def Vb (st:St) (t:TypeId) (len:Nat) (parts:Array (Nat×Operand)):Option AV:=
 match T.elem t with
 |none=>none
 |some te=>match T.ty te with
  |none=>none
  |some e=>if parts.size=len/\len<=64/\e.size<=64 then (aG e 0 parts.toList st).map λp=> .at (.data p.1 (.slice e) p.2) else none
def Sa (Γ:Env) (st:St) (o:Oper):Option AV:=
 match o.op with
 | .buildSlice t len parts=>Vb T st t len parts
 | .build t parts=>Qk T st t parts
 |_=>Cn T Γ st o
def LN (q:Bool) (Γ:Env) (o:Oper):Bool:=
 match o.op with
 | .buildSlice _ _ _| .build _ _=>!q
 | .alloc _| .box _ _| .store _ _ _| .makeSlice _ _ _| .makeMap _ _| .mapUpdate _ _ _ _| .insert _ _ _ _=>true
 | .assign (.const _)=>true
 | .call {callee:= .builtin .append, .. } =>true
 | .call {callee:= .builtin .copy, .. } =>true
 | .call {callee:= .builtin .clear, .. } =>true
 | .call {callee:= .value (.func f), .. } =>match Γ f with
  |some (.m _)=>true
  |_=>false
 |_=>false
def Co (Γ:Env) (ops:Array Oper) (st:St) (o:Oper):Option St:=
 match o.guard with
 |none=>(evalOp T Γ st o).map λr=>r.2.put o.dst r.1
 |some (j,want)=>match Qg st ((ops[j]?).bind (·.dst)) with
  |some (some b)=>if b==want then (evalOp T Γ st o).map λr=>r.2.put o.dst r.1 else some (st.put o.dst (.at .skip))
  |some none=>some (st.put o.dst (.at .skip))
  |none=>none
def Tu (Γ:Env) (ops:Array Oper):List Oper->St->Option St
 | [],st=>some st
 |o::r,st=>match Co T Γ ops st o with
  |some st'=>Tu Γ ops r st'
  |none=>none
def Fl (q:Bool) (Γ:Env) (ops:Array Oper):List Nat:=
 (List.range ops.size).foldl (init:= []) λacc i=>match ops[i]? with
  |some o=>if LN q Γ o||o.after.any (λe=>Region.binds .any e&&acc.contains e.on) then acc++ [i] else acc
  |none=>acc
def Wr (q:Bool) (Γ:Env) (ops:Array Oper):List Nat:=(List.range ops.size).filter λi=>!(Fl q Γ ops).contains i
def iw (ops:Array Oper) (hd tl:List Nat) (i:Nat):Bool:=
 match ops[i]? with
 |some o=>(match o.op,o.guard with
  | .move (.tmp _),none=>true
  |_,_=>false)&&!((tl.take 1++hd).any λj=>decide (i<j)&&Region.waitsFor .any ops j i)
 |none=>false
def Pb (q:Bool) (Γ:Env) (ops:Array Oper):List Nat:=(Wr q Γ ops).filter λi=>iw ops (Wr q Γ ops) (Fl q Γ ops) i
def Pe (q:Bool) (Γ:Env) (ops:Array Oper):List Nat:=(Wr q Γ ops).filter λi=>!iw ops (Wr q Γ ops) (Fl q Γ ops) i
def dX (q:Bool) (Γ:Env) (ops:Array Oper):List Nat:=Pb q Γ ops++Pe q Γ ops
def LF (ops:Array Oper) (i:Nat):Bool:=match ops[i]? with
 |some o=>(match o.op,o.guard with
  | .extract _ _,none=>true
  |_,_=>false)
 |none=>false
def iX (ops:Array Oper):List Nat->Array Bool->Bool
 | [],Ad=>(Region.ready .any ops Ad).isEmpty
 |k::r,Ad=>(decide (Region.ready .any ops Ad= [k])||(LF ops k&&((Region.ready .any ops Ad).contains k&&Region.free .any ops Ad k)))&&iX ops r (Ad.setIfInBounds k true)
def jE (ops:Array Oper) (tl:List Nat):List Nat->Array Bool->Bool
 | [],Ad=>iX ops tl Ad
 |k::r,Ad=>(Region.ready .any ops Ad).contains k&&Region.free .any ops Ad k&&jE ops tl r (Ad.setIfInBounds k true)
def oe (ops:Array Oper) (hd:List Nat):List Nat->Bool
 | []=>true
 |f::r=>(hd.all λi=>(f::hd).any λj=>decide (i<j)&&Region.waitsFor .any ops j i)&&r.all λt=>(f::r).any λk=>Region.waitsFor .any ops t k
def ij (ops:Array Oper) (tl hd:List Nat):List Nat->Array Bool->Bool
 | [],Ad=>jE ops tl hd Ad
 |k::r,Ad=>(Region.ready .any ops Ad).contains k&&Region.free .any ops Ad k&&ij ops tl hd r (Ad.setIfInBounds k true)
def ef (q:Bool) (Γ:Env) (ops:Array Oper):Bool:=
 Region.noSelect ops&&((Pb q Γ ops).length+((Pe q Γ ops).length+(Fl q Γ ops).length)==ops.size)&&ij ops (Fl q Γ ops) (Pe q Γ ops) (Pb q Γ ops) (Array.replicate ops.size false)&&oe ops (Pe q Γ ops) (Fl q Γ ops)
def bV (Γ:Env) (ops:Array Oper) (st:St) (o:Oper):Option AV:=
 match o.guard with
 |none=>Sa T Γ st o
 |some (j,want)=>match Qg st ((ops[j]?).bind (·.dst)) with
  |some (some b)=>if b==want then Sa T Γ st o else some (.at .skip)
  |some none=>some (.at .skip)
  |none=>none
def Ef (Γ:Env) (ops:Array Oper):List Nat->St->Option St
 | [],st=>some st
 |i::r,st=>match ops[i]? with
  |none=>none
  |some o=>match bV T Γ ops st o with
   |some v=>Ef Γ ops r (st.put o.dst v)
   |none=>none
def Jl (Γ:Env) (ops:Array Oper):List Nat->St->Option St
 | [],st=>some st
 |i::r,st=>match ops[i]? with
  |none=>none
  |some o=>match Co T Γ ops st o with
   |some st'=>Jl Γ ops r st'
   |none=>none
def Ln (Γ:Env) (ops:Array Oper) (draw:Bool) (st:St):Option St:=
 if draw then (if ef false Γ ops then (match Ef T Γ ops (dX false Γ ops) st with
  |some st'=>Jl T Γ ops (Fl false Γ ops) st'
  |none=>none) else if ef true Γ ops then (match Ef T Γ ops (dX true Γ ops) st with
  |some st'=>Jl T Γ ops (Fl true Γ ops) st'
  |none=>none) else none)
 else Tu T Γ ops ops.toList st
def td (ops:Array Oper) (i:Nat):Bool:=match ops[i]? with
 |some o=>(match o.op,o.guard with
  | .move (.tmp _),none=>true
  |_,_=>false)
 |none=>false
def ec (ops:Array Oper) (i:Nat):Bool:=match ops[i]? with
 |some o=>(match o.op,o.guard with
  | .move (.tmp _),none=>true
  | .nilCheck _,none=>true
  | .fieldAddr _ _ _,none=>true
  |_,_=>false)
 |none=>false
def Adi (q:Bool) (ops:Array Oper) (i:Nat):Bool:=match q with
 |true=>ec ops i
 |false=>td ops i
def Fh (q:Bool) (ops:Array Oper):List Nat->Array Bool->List Nat
 | [],_=> []
 |i::r,Ad=>if Adi q ops i&&((Region.ready .any ops Ad).contains i&&Region.free .any ops Ad i) then i::Fh q ops r (Ad.setIfInBounds i true) else Fh q ops r Ad
def LS (q:Bool) (ops:Array Oper):List Nat:=Fh q ops (List.range ops.size) (Array.replicate ops.size false)
def dT (q:Bool) (ops:Array Oper):Bool:=Nat.ble (ops.size-(LS q ops).length) 8
def Kh (ops:Array Oper):List Nat:=LS (!dT false ops) ops
def Ej:List Nat->Array Bool->Array Bool
 | [],Ad=>Ad
 |i::r,Ad=>Ej r (Ad.setIfInBounds i true)
def anyS (Γ:Env) (ops:Array Oper) (K:St->Prop):Nat->Array Bool->St->Prop
 |0,Ad,st=>Region.ready .any ops Ad= []/\K st
 |f+1,Ad,st=>Region.ready .any ops Ad≠ []/\ ∀i∈Region.ready .any ops Ad,∃o st',ops[i]?=some o/\Co T Γ ops st o=some st'/\anyS Γ ops K f (Ad.setIfInBounds i true) st'
def sj (Γ:Env) (ops:Array Oper) (draw:Bool) (st:St) (K:St->Prop):Prop:=
 (∃st',Ln T Γ ops draw st=some st'/\K st')\/
 (draw=true/\Region.noSelect ops=true/\ ∃bH,Ef T Γ ops (Kh ops) st=some bH/\anyS T Γ ops K (ops.size-(Kh ops).length) (Ej (Kh ops) (Array.replicate ops.size false)) bH)
def tZ (Γ:Env) (draw:Bool):Env:= λf=>match Γ f with
 |some (.b s m)=>some (if draw then .q s else .m m)
 |r=>r
inductive Gy where
 |normal
 |exit (id:Nat)
 |ret
def Ge (live:List Nat):Nat->List AV->List AV
 |_,[]=> []
 |i,v::r=>(if live.contains i then v else .undef)::Ge live (i+1) r
def AV.refs:AV->List Nat
 | .at a=>a.refs
 | .agg cs=>cs.flatMap AC.refs
 | .Us _ _ _=> []
 | .Jg l=>l.flatMap λp=>p.2.flatMap AC.refs
def OB.refs:OB->List Nat
 | .var _ vs=>vs.flatMap AC.refs
 |_=> []
def Yt:List Nat->St->St
 | [],st=>st
 |l::r,st=>Yt r (st.forget l)
def kb (l k m:Nat):Nat:=if m=l then k else m
def Oj (l k:Nat):AC->AC
 | .own m off len=> .own (kb l k m) off len
 | .Eb m i=> .Eb (kb l k m) i
 | .Gf m i=> .Gf (kb l k m) i
 | .clo f Bz=> .clo f (Bz.map λp=>(kb l k p.1,p.2))
 | .Gp m=> .Gp (kb l k m)
 | .sub m i c=> .sub (kb l k m) i c
 | .Gd m i c=> .Gd (kb l k m) i c
 |a=>a
def St.rename (l k:Nat) (st:St):St:=
 match Ae st.heap k,Ae st.heap l with
 |none,some b=>if (Nat.blt l Ak&&Nat.blt k Ak)=true then
   (let s:=st.Gm (Oj l k); {s with heap:=Jk (Tg s.heap l) k (b.map (Oj l k))}) else st
 |_,_=>st
def Hu:Nat->Nat->St->St
 |0,_,st=>st
 |n+1,t,st=>Hu n (t+1) (match st.get t with
  | .at (.own l _ _)=>match Ae st.heap l with
   |some (.arr _ _ _ _ _)=>if (st.tmps.take t).any (λv=>v.refs.contains l) then st else st.rename l (700000+t)
   |_=>st
  |_=>st)
def Xb:Nat:=1000000007
def OB.Fa (flat all:Bool):OB->OB
 | .arr fr tr e tid xs=> .arr (fr&&!(all||(flat&&e.flat))) (tr&&!all) e tid xs
 |b=>b
def Sr:Nat:=1000000009
def yd:Nat:=1100000000
def St.Fa (live:List Nat) (st:St):St:= {st with heap:=st.heap.map λp=>(p.1,p.2.Fa (live.contains Sr) (live.contains (yd+p.1)))}
def Ht:Nat:=900000000
def Vs (t:Nat) (st:St):St:=match st.get t with
 | .at (.own l off len)=>match Ae st.heap l with
  |some (.arr fr tr e tid xs)=>if Nat.blt l Ak=true then (st.new l (.arr fr tr e tid ((xs.drop off).take len))).put (some t) (.at (.own l 0 ((xs.drop off).take len).length)) else st
  |_=>st
 |_=>st
def Ju (live:List Nat):Nat->Nat->St->St
 |0,_,st=>st
 |n+1,t,st=>Ju live n (t+1) (if live.contains (Ht+t) then Vs t st else st)
def St.clean (live:List Nat) (st:St):St:=
 let s:St:= {st with tmps:=Ge live 0 st.tmps}
 let r1:=s.tmps.flatMap AV.refs
 let r2:=r1++(s.heap.filter λp=>r1.contains p.1).flatMap λp=>p.2.refs
 let s2:=Yt ((s.heap.map (·.1)).filter λl=>!r2.contains l&&Nat.blt l Ak) s
 let s2:=if live.any (λt=>Nat.ble Ht t&&Nat.blt t Xb) then Ju live s2.tmps.length 0 s2 else s2
 let s3:=if live.contains Xb then Hu s2.tmps.length 0 s2 else s2
 if live.any (λt=>Nat.ble Sr t) then s3.Fa live else s3
def Cl:Code->Nat
 | .region id _ _=>id
 | .seq a _=>Cl a
 | .cond _ a _=>Cl a
 | .block _ c=>Cl c
 | .loop c=>1000+Cl c
 |_=>0
def VG (a b:List Nat):List Nat:=a++b.filter λt=>!a.contains t
def tv:List Oper->List Nat->List Nat
 | [],out=>out
 |o::r,out=>VG (o.op.operands.toList.filterMap λ | .tmp t=>some t|_=>none) (match o.dst with|some d=>(tv r out).filter (·!=d)|none=>tv r out)
def yR:List (Nat×List Nat)->Nat->List Nat
 | [],_=> []
 |(k,l)::r,id=>if k=id then l else yR r id
def kY:Code->List (Nat×List Nat)->List Nat->List Nat->List Nat×List (Nat×List Nat)
 | .region _ ops _,_,_,out=>(tv ops.toList out,[])
 | .seq a b,env,ret,out=>let rb:=kY b env ret out;let ra:=kY a env ret rb.1;(ra.1,ra.2++rb.2)
 | .cond c a b,env,ret,out=>let ra:=kY a env ret out;let rb:=kY b env ret out
  (VG (match c with| .tmp t=> [t]|_=> []) (VG ra.1 rb.1),ra.2++rb.2)
 | .block id c,env,ret,out=>kY c ((id,out)::env) ret out
 | .exit id,env,_,_=>(yR env id,[])
 | .ret,_,ret,_=>(ret,[])
 | .loop c,env,ret,_=>let l:=(kY c env ret []).1;let r:=kY c env ret l;(l,(Cl c,l)::r.2)
 |_,_,_,out=>(out,[])
def tw:List ResultVar->List Nat
 | []=> []
 | .tmp t::r=>t::tw r
 | .cell p _::r=>p::tw r
def tu (marks:List Nat) (fn:Func) (c:Code):Nat->List Nat:=let ret:=tw fn.results.toList;let g:=yR (kY c [] ret ret).2;match marks with
 | []=>g
 |m=> λid=>g id++m
def zD (K:St->Prop) (Q:Gy->St->Prop):Gy->St->Prop
 | .normal,s=>K s
 |e,s=>Q e s
def qX (id:Nat) (Q:Gy->St->Prop):Gy->St->Prop
 | .exit EV,s=>if EV=id then Q .normal s else Q (.exit EV) s
 |e,s=>Q e s
inductive Jj (Γ:Env) (live:Nat->List Nat):Code->St->(Gy->St->Prop)->Prop where
 |skip {st:St} {Q:Gy->St->Prop} :Q .normal st->Jj Γ live .skip st Q
 |label {l:Nat} {st:St} {Q:Gy->St->Prop} :Q .normal st->Jj Γ live (.label l) st Q
 |exit {id:Nat} {st:St} {Q:Gy->St->Prop} :Q (.exit id) st->Jj Γ live (.exit id) st Q
 |ret {st:St} {Q:Gy->St->Prop} :Q .ret st->Jj Γ live .ret st Q
 |region {id:Nat} {ops:Array Oper} {draw:Bool} {st:St} {Q:Gy->St->Prop} :sj T (tZ Γ draw) ops draw st (Q .normal)->Jj Γ live (.region id ops draw) st Q
 |seq {x y:Code} {st:St} {Q:Gy->St->Prop} (Q1:Gy->St->Prop):Jj Γ live x st Q1->(∀s,Q1 .normal s->Jj Γ live y s Q)->(∀e s,e≠ .normal->Q1 e s->Q e s)->Jj Γ live (.seq x y) st Q
 |cond {c:Operand} {x y:Code} {st:St} {fr t:Bool} {Q:Gy->St->Prop} :st.ev c= .at (.data fr .bool t)->(t=true->Jj Γ live x st Q)->(t=false->Jj Γ live y st Q)->Jj Γ live (.cond c x y) st Q
 |block {id:Nat} {c:Code} {st:St} {Q:Gy->St->Prop} (Q1:Gy->St->Prop):Jj Γ live c st Q1->(∀e s,Q1 e s->qX id Q e s)->Jj Γ live (.block id c) st Q
 |loop {c:Code} {st:St} {Q:Gy->St->Prop} (Q1:Gy->St->Prop):Jj Γ live c (st.clean (live (Cl c))) Q1->(∀s,Q1 .normal s->Jj Γ live (.loop c) s Q)->(∀e s,e≠ .normal->Q1 e s->Q e s)->Jj Γ live (.loop c) st Q
def Xz (st:St):List ResultVar->Option (List AV)
 | []=>some []
 | .tmp t::r=>(Xz st r).map λl=>st.get t::l
 | .cell p t::r=>match Kn T st t (st.get p),Xz st r with
  |some v,some l=>some (v::l)
  |_,_=>none
def ie (s:Spec) (fn:Func) (st:St):Option (Bool×s.res.den):=
 match Xz T st fn.results.toList with
 |some [v]=>if s.Gh then none else Cu st s.res v
 |some [v,u]=>if s.Gh then Bt st s.res [v,u] else none
 |some [v,u,t]=>if s.Gh then Bt st s.res [v,u,t] else none
 |_=>none
def Mn:(τ:Ty)->τ.den->List AV
 | .pair a r,x=> .at (.data a.flat a x.1)::Mn r x.2
 |_,_=> []
def eH (st:St):(c:CK)->AC->Option (c.den×List Nat)
 | .Ft τ,a=>if τ.flat||a.settled then (Bq st τ a).map λp=>(p.2,[]) else none
 | .row e te, .own l off len=>match st.at l with
  |some (.arr _ _ e' Li xs)=>if h:e'=e/\Li=te then some ((((h.1▸xs:List e.den).drop off).take len),[l]) else none
  |_=>none
 | .row _ _, .Hs=>some ([],[])
 | .Dv e te, .own l off len=>match st.at l with
  |some (.arr _ tr e' Li xs)=>if h:e'=e/\Li=te/\(tr||e.flat)=true then some ((((h.1▸xs:List e.den).drop off).take len),[l]) else none
  |some (.Dk e' Li xs)=>if h:e'=e/\Li=te then some ((((h.1▸xs:List e.den).drop off).take len),[l]) else none
  |_=>none
 | .Dv _ _, .Hs=>some ([],[])
 | .Am e te _, .own l off len=>match st.at l with
  |some (.Am e' Li rows none _)=>if h:e'=e/\Li=te/\off=0/\len=rows.length then some ((h.1▸rows:List (List e.den)),[l]) else none
  |_=>none
 |_,_=>none
def Oi (st:St):(cs:List CK)->List AC->Option (CKs.den cs×List Nat)
 | [],[]=>some ((),[])
 |c::r,a::as=>match eH st c a,Oi st r as with
  |some (x,t1),some (y,t2)=>some ((x,y),t1++t2)
  |_,_=>none
 |_,_=>none
def kI (st:St) (l:Nat):(c:CK)->Option c.den
 | .Ft _=>none
 | .row e te=>match st.at l with
  |some (.arr _ _ e' Li xs)=>if h:e'=e/\Li=te then some (h.1▸xs) else none
  |_=>none
 | .Dv e te=>match st.at l with
  |some (.Dk e' Li xs)=>if h:e'=e/\Li=te then some (h.1▸xs) else none
  |_=>none
 | .part _ _=>none
 | .Am _ _ _=>none
def Jp (st:St):(k:Nat)->(cs:List (Bool×CK))->Option (IOs.den cs)
 |_,[]=>some ()
 |k,(true, .Ft _)::r=>Jp st (k+1) r
 |k,(true, .Am _ _ _)::r=>Jp st (k+1) r
 |k,(true, .row e te)::r=>match kI st (Bv true k) (.row e te),Jp st (k+1) r with
  |some x,some y=>some (x,y)
  |_,_=>none
 |k,(true, .Dv e te)::r=>match kI st (Bv true k) (.Dv e te),Jp st (k+1) r with
  |some x,some y=>some (x,y)
  |_,_=>none
 |k,(true, .part e te)::r=>match kI st (Bv true k) (.row e te),Jp st (k+1) r with
  |some x,some y=>some (x,y)
  |_,_=>none
 |k,(false,_)::r=>Jp st (k+1) r
def Kg:(k:Nat)->List (Bool×CK)->List Nat
 |_,[]=> []
 |k,(true, .Ft _)::r=>Kg (k+1) r
 |k,(true, .Am _ _ _)::r=>Kg (k+1) r
 |k,(true,_)::r=>Bv true k::Kg (k+1) r
 |k,(false,_)::r=>Kg (k+1) r
def Lw:Nat:=1900000000
def Fe:(k:Nat)->List (Bool×CK)->List AC->Option (List AC)
 |_,_,[]=>some []
 |k,(true, .row _ _)::r, .own l _ _::as=>if Nat.beq l (Bv true k) then Fe (k+1) r as else none
 |k,(true, .Dv _ _)::r, .own l _ _::as=>if Nat.beq l (Bv true k) then Fe (k+1) r as else none
 |k,(false,_)::r,a::as=>(Fe (k+1) r as).map λl=>a::l
 |_,_,_=>none
def cN (st:St):List AC->List (Bool×CK)->Prop
 | .own l off len::as,(true,_)::r=>(off=0/\match st.at l with
  |some (.arr _ _ _ _ xs)=>len=xs.length
  |some (.Dk _ _ xs)=>len=xs.length
  |_=>False)/\cN st as r
 |_::as,(false,_)::r=>cN st as r
 |_,_=>True
def zX (s:MSpec) (st:St) (l:List AV):Option (List AC×List Nat):=match s.rp with
 |none=>if s.Gh=Nat.blt 1 l.length then (ungroup s.Gj l).map λas=>(as,[]) else none
 |some tid=>match l with
  | [.at (.Eb m i)]=>match st.at m with
   |some (.var Oa vs)=>if Oa=tid/\i=0/\Nat.blt m Ak=true then some (vs,[m]) else none
   |_=>none
  |_=>none
def r7 (st:St) (n:Nat) (as:List AC):List (Nat×Nat)->Prop
 | []=>True
 |(k,j)::r=>(match as[j]? with
  |some (.own l _ _)=>match st.at l with
   |some (.Am _ _ _ _ (some p))=>p.1=Bv false k/\n<=p.2/\Nat.blt k 1000=true
   |_=>False
  |_=>False)/\r7 st n as r
def ei (s:MSpec) (fn:Func) (x:Ins.den s.ins) (st:St) (cs:List AC) (P:CKs.den s.outs×IOs.den s.ins->Prop):Prop:=
 match Xz T st fn.results.toList with
 |none=>False
 |some l=>match zX s st l with
  |none=>False
  |some (as,ml)=>match Oi st s.outs (cs++as),Jp st 0 s.ins with
   |some (r,ls),some o=>(Sy (ml++ls++Kg 0 s.ins)&&Nat.blt s.ins.length 1000&&Nat.blt s.outs.length 1000&&s.LR)=true/\r7 st (s.Cv x) (cs++as) s.keeps/\P (r,o)
   |_,_=>False
def IZ (s:MSpec) (fn:Func) (x:Ins.den s.ins) (st:St) (P:CKs.den s.outs×IOs.den s.ins->Prop):Prop:=
 match s.ptr with
 |none=>ei T s fn x st [] P
 |some p=> ∃vs cs,st.at Lw=some (.var p.1 vs)/\vs.length=p.2/\Fe 0 s.ins vs=some cs/\cN st vs s.ins/\ei T s fn x st cs P
def Th (s:MSpec) (as:List AC):List AV:=match s.ptr with
 |none=>Mr s.He as
 |some p=> .at (.Eb Lw 0)::Mr s.He (as.drop p.2)
def kU (s:MSpec) (x:Ins.den s.ins):List (Nat×OB):=match s.ptr with
 |none=>Sj 0 s.ins x
 |some p=>Sj 0 s.ins x++ [(Lw, .var p.1 ((Vj 0 s.ins x).take p.2))]
def Sn:List (Bool×CK)->Bool
 | []=>true
 |(true, .Am _ _ _)::_=>false
 |_::r=>Sn r
def tV (s:MSpec):Bool:=Sn s.ins&&match s.ptr with
 |none=>true
 |some p=>Nat.ble p.2 s.ins.length
def TB (Γ:Env) (s:MSpec) (fn:Func) (x:Ins.den s.ins) (P:CKs.den s.outs×IOs.den s.ins->Prop):Prop:=
 (Nat.blt s.ins.length 1000&&tV s)=true/\ ∃c,fn.body=some c/\Jj T Γ (tu T.marks fn c) c {tmps:=Th s (Vj 0 s.ins x)++List.replicate (fn.ntmps-(Th s (Vj 0 s.ins x)).length) .undef,heap:=kU s x}
  (λe st=>(∀id,e≠ .exit id)/\IZ T s fn x st P)
def JA (Γ:Env) (s:Spec) (fn:Func) (x:s.arg.den) (P:s.res.den->Prop):Prop:=
 ∃c,fn.body=some c/\Jj T Γ (tu T.marks fn c) c {tmps:=Mn s.arg x++List.replicate (fn.ntmps-(Mn s.arg x).length) .undef,heap:= []}
  (λe st=>(∀id,e≠ .exit id)/\ ∃fr y,ie T s fn st=some (fr,y)/\(fr||!s.fresh)=true/\P y)
end Go.Proofs.Ytjbdmibbbpdnnaa
