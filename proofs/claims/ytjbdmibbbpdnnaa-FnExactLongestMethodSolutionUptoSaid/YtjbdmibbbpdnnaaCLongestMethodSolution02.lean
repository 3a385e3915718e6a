/-
  Part 3 of the proof that the statement FnExactLongestMethodSolution holds.
-/
import Derived.Test.YtjbdmibbbpdnnaaCLongestMethodSolution01
namespace Go.Proofs.Ytjbdmibbbpdnnaa
open Go.RowKit
def Dq:Nat->St->List AC->Option (List AC×St)
 |0,st,cs=>if cs.all (·.settled) then some (cs,st) else none
 |n+1,st,cs=>
  match cs.find? (λc=>!c.settled) with
  |none=>some (cs,st)
  |some (.own l _ _)=>match st.at l with
   |some (.arr fr _ e _ xs)=>Dq n (st.freeze l fr e xs) (cs.map (Ba l fr e xs))
   |some (.Dh e _ xs)=>Dq n (st.freeze l false e xs) (cs.map (Ba l false e xs))
   |_=>none
  |some (.Gi l)=>match st.at l with
   |some (.Oh v m)=>Dq n (st.Ek l v m) (cs.map (Dk l v m))
   |_=>none
  |some _=>none
def settle (st:St):AV->Option (AV×St)
 | .at (.own l off len)=>match st.at l with
  |some (.arr fr _ e _ xs)=>some (.at (.data fr (.slice e) ((xs.drop off).take len)),st.freeze l fr e xs)
  |some (.Dh e _ xs)=>some (.at (.data false (.slice e) ((xs.drop off).take len)),st.freeze l false e xs)
  |_=>none
 | .at (.Gi l)=>match st.at l with
  |some (.Oh v m)=>some (.at (.data false (.smap v) m),st.Ek l v m)
  |_=>none
 | .at a=>if a.settled then some (.at a,st) else none
 | .agg cs=>(Dq cs.length st cs).map λp=>(.agg p.1,p.2)
 | .Tv fr τ x=>some (.Tv fr τ x,st)
 | .Iz _=>none
def AC.refs:AC->List Nat
 | .own l _ _| .Dx l _| .Fy l _| .Gi l| .sub l _ _| .Fv l _ _=> [l]
 | .clo _ Bx=>Bx.map (·.1)
 |_=> []
def Sf:List Nat->Bool
 | []=>true
 |a::r=>!r.contains a&&Sf r
def Ty.tree:Ty->Bool
 | .int _| .bool| .str| .unit=>true
 | .slice e=>e.tree
 | .pair a r=>a.tree&&r.tree
 |_=>false
def Lp (st:St):AC->Bool
 | .data _ τ _=>τ.flat
 | .Hq=>true
 | .own l _ _=>match st.at l with
  |some (.arr _ tr e _ _)=>tr||e.flat
  |some (.Dh _ _ _)=>true
  |_=>false
 |_=>false
def Mn (st:St):AV->Bool
 | .at a=>Lp st a
 | .agg cs=>cs.all (Lp st)&&Sf (cs.flatMap AC.refs)
 |_=>false
def Aj:Nat:=1000000000
variable (T:Tab)
def zI (t:TypeId) (τ:Ty) (i:Nat):Option TypeId:=
 if τ.Ac then (List.range 24).findSome? λf=>match T.off t f with
  |some (o,u)=>if o=i then some u else none
  |none=>none
 else some t
def Tab.zV (te:TypeId):Option Ty:=if T.QM.contains te then (match T.ty te with
 |some (.slice e)=>some e
 |_=>none) else none
def Xl (te:TypeId) (e:Ty):OB:=match T.zV te with
 |some e'=> .Al e' te [] none none
 |none=> .arr (T.m8||e.flat) T.tw e te []
def Nj (b:OB) (key l i:Nat) (st:St):St:=
 match st.at l with
 |some (.var _ vs)=>match vs[i]? with
  |some .Hq=>
   let s1:=st.new key b
   match s1.at l with
   |some (.var tid tT)=>s1.Ga l (.var tid (Nm tT i (.own key 0 0)))
   |_=>s1
  |_=>st
 |_=>st
def a8 (l:Nat) (t:TypeId) (τ:Ty):Nat->Nat->St->St
 |0,_,st=>st
 |n+1,i,st=>
  a8 l t τ n (i+1) (match ((zI T t τ i).bind T.elem).bind λte=>(T.ty te).map λe=>(te,e) with
   |some (te,e)=>Nj (Xl T te e) (100000+l*100+i) l i st
   |none=>st)
def Yg (l off:Nat) (t:TypeId) (τ:Ty):Nat->Nat->St->St
 |0,_,st=>st
 |n+1,i,st=>
  Yg l off t τ n (i+1) (match ((zI T t τ i).bind T.elem).bind λte=>(T.ty te).map λe=>(te,e) with
   |some (te,e)=>Nj (Xl T te e) (100000+l*100+(off+i)) l (off+i) st
   |none=>st)
def zeroCells:(τ:Ty)->List AC
 | .unit=> []
 | .pair a r=>zeroCells a++zeroCells r
 | .slice _=> [.Hq]
 | .oslice _=> [.Hq]
 | .ptr _=> [.Qi]
 | .optr _=> [.Qi]
 | .clo _ _=> [.undef]
 |τ=> [.data true τ τ.zero]
def cellsOf (τ:Ty):AV->Option (List AC)
 | .agg cs=>if τ.Ac&&cs.length==τ.size then some cs else none
 | .at (.data fr Jb x)=>if Jb=τ then some (Qw fr Jb x) else none
 | .at .undef=>none
 | .at .skip=>none
 | .at a=>if τ.Ac then none else some [a]
 |_=>none
def mkVar (st:St) (l:Nat) (t:TypeId) (τ:Ty) (cs:List AC):Option (AV×St):=
 if Aj<=100000+l*100+cs.length then none else
 let s:=a8 T l t τ cs.length 0 (st.new l (.var t (cs.map (Az l))))
 match s.at l with
 |some (.var _ _)=>some (.at (.Dx l 0),s)
 |_=>none
def Bg {α:Type} (xs:List α) (i:Nat) (ys:List α):List α:=xs.take i++ys++xs.drop (i+ys.length)
def Nq (st:St) (t:TypeId) (p v:AV):Option St:=
 match T.ty t,p with
 |some τ, .at (.Dx l i)=>match st.at l,cellsOf τ v with
  |some (.var tid vs),some cs=>if i+cs.length<=vs.length then some (if τ.Ac&&Nat.blt (100000+l*100+(i+cs.length)) Aj then Yg T l i t τ cs.length 0 (st.Ga l (.var tid (Bg vs i cs))) else st.Ga l (.var tid (Bg vs i cs))) else none
  |_,_=>none
 |some τ, .at (.Fy l j)=>match settle st v with
  |some (v',st')=>match st'.at l,Cr st' τ v' with
   |some (.arr fr tr e tid xs),some (Oo,x)=>if h:τ=e then (if j<xs.length then some (st'.Ga l (.arr (fr&&Oo) (tr&&(Mn st v&&e.tree)) e tid (xs.set j (h▸x)))) else none) else none
   |_,_=>none
  |none=>none
 |_,_=>none
def Bo:Nat:=4294967296
def It (st:St) (dst:Nat) (t:TypeId) (x y:Operand):Option (AV×St):=
 match T.elem t with
 |none=>none
 |some te=>match T.ty te,settle st (st.ev y) with
  |some e,some (y',st')=>match Cr st' (.slice e) y' with
   |none=>none
   |some (lh,ys)=>
    let tr2:=e.flat||(Mn st (st.ev y)&&e.tree)
    match st'.ev x with
    | .at .Hq=>if ys.length<=Bo/\dst<Aj then some (.at (.own dst 0 (0+ys.length)),(st'.new dst (.arr (T.m8||e.flat) T.tw e te [])).new dst (.arr ((T.m8||e.flat)&&(lh||e.flat)) (T.tw&&tr2) e te (((([]:List e.den).drop 0).take 0)++ys))) else none
    | .at (.own l off len)=>match st'.at l with
     |some (.arr fr tr e' tid xs)=>if h:e'=e/\tid=te then
       (if len+ys.length<=Bo/\l<Aj then
        some (.at (.own l 0 (len+ys.length)),st'.new l (.arr (fr&&(lh||e.flat)) (tr&&tr2) e te ((((h.1▸xs:List e.den).drop off).take len)++ys))) else none)
      else none
     |_=>none
    |_=>none
  |_,_=>none
def Kg (st:St) (l i m:Nat) (e:Ty) (te tid:TypeId) (rows:List (List e.den)) (kp:Option (Nat×Nat)):St:=
 (st.Ga l (.Al e te rows (some i) kp)).new m (.arr false false e tid (rows.getD i []))
def Ld (st:St) (dst:Nat) (t:TypeId) (x y:Operand):Option (AV×St):=
 match x with
 | .tmp tx=>match st.get tx with
  | .at (.sub l i _)=>match st.at l,T.elem t with
   |some (.Al e te rows none kp),some tid=>if (Nat.blt l Aj&&(Nat.blt dst Aj&&!Nat.beq dst l))=true then It T ((Kg st l i dst e te tid rows kp).put (some tx) (.at (.own dst 0 (rows.getD i []).length))) dst t x y else none
   |_,_=>none
  |_=>It T st dst t x y
 |_=>It T st dst t x y
def gb:Ty->Bool
 | .int _| .bool| .str| .slice _| .oslice _=>true
 |_=>false
def aE:Ty->Bool
 | .unit=>true
 | .pair a r=>aE a&&aE r
 |e=>gb e
def Ug (st:St) (dst:Nat) (t:TypeId) (l c:AV):Option (AV×St):=
 match T.elem t,l,c with
 |some te, .at (.data _ (.int _) n), .at (.data _ (.int _) m)=>match T.ty te with
  |some e=>if RV n (Bo+1)=true/\n=m/\aE e=true/\dst<Aj then some (.at (.own dst 0 n.toNat),st.new dst (.arr (T.m8||e.flat) (T.tw&&e.tree) e te (List.replicate n.toNat e.zero))) else none
  |none=>none
 |_,_,_=>none
def Gq (e:Ty):Nat->List (Nat×Operand)->St->Option (Bool×Bool×List e.den×St)
 |_,[],st=>some (true,true,[],st)
 |i,(j,x)::r,st=>
  if i=j then match settle st (st.ev x) with
   |some (v,st')=>match Cr st' e v with
    |some (fr,y)=>match Gq e (i+1) r st' with
     |some (Oo,LG,ys,Agi)=>some (fr&&Oo,Mn st (st.ev x)&&e.tree&&LG,y::ys,Agi)
     |none=>none
    |none=>none
   |none=>none
  else none
def Hk (st:St) (dst:Nat) (t:TypeId) (len:Nat) (parts:Array (Nat×Operand)):Option (AV×St):=
 match T.elem t with
 |none=>none
 |some te=>match T.ty te with
  |none=>none
  |some e=>if parts.size=len/\len<=64/\e.size<=64/\dst<Aj then (match Gq e 0 parts.toList st with
   |some (fr,tr,ys,st')=>some (.at (.own dst 0 len),st'.new dst (.arr ((T.m8||e.flat)&&fr) (T.tw&&tr) e te ys))
   |none=>none) else none
def Np (st:St) (dst:Nat) (t:TypeId):Option (AV×St):=
 match T.mapOf t with
 |some v=>if dst<Aj then some (.at (.Gi dst),st.new dst (.Oh v λ_=>none)) else none
 |none=>none
def aB {α:Type} (m:ByteArray->Option α) (k:ByteArray) (x:α):ByteArray->Option α:= λs=>if s=k then some x else m s
def Et (st:St) (t:TypeId) (m k x:AV):Option St:=
 match T.mapOf t,m,k with
 |some v, .at (.Gi l), .at (.data _ .str s)=>match st.at l,Cr st v x with
  |some (.Oh v' f),some (_,y)=>if h:v'=v/\v.flat=true/\v.Ac=false then some (st.Ga l (.Oh v (aB (h.1▸f:ByteArray->Option v.den) s y))) else none
  |_,_=>none
 |_,_,_=>none
def bQ (st:St) (t t':TypeId) (x y:AV):Option (AV×St):=
 match x,(T.elem t).bind T.ty with
 | .at (.own l off len),some e=>if T.elem t=T.elem t'/\e.flat=true/\e.size=1 then match st.at l,Cr st (.slice e) y with
  |some (.arr fr _ e' tid xs),some (_,ys)=>if h:e'=e/\T.elem t=some tid then
    some (.at (.data true (.int .i64) (min len ys.length:Nat)),st.Ga l (.arr fr false e tid (Bg (h.1▸xs:List e.den) off (ys.take len))))
   else none
  |_,_=>none
  else none
 |_,_=>none
def evalClear (st:St) (t:TypeId) (x:AV):Option St:=
 match x,(T.elem t).bind T.ty with
 | .at (.own l off len),some e=>if e.flat=true/\gb e=true then match st.at l with
  |some (.arr fr _ e' tid xs)=>if h:e'=e/\T.elem t=some tid then
    some (st.Ga l (.arr fr false e tid (Bg (h.1▸xs:List e.den) off (List.replicate len e.zero))))
   else none
  |_=>none
  else none
 |_,_=>none
def Hj (st:St) (t:TypeId):List (Nat×Operand)->List AC->Option (List AC)
 | [],cs=>some cs
 |(i,x)::r,cs=>
  match T.off t i with
  |some (o,u)=>match T.ty u with
   |some ρ=>match cellsOf ρ (st.ev x) with
    |some c=>if o+c.length<=cs.length then Hj st t r (Bg cs o c) else none
    |none=>none
   |none=>none
  |none=>none
def Pw (st:St) (t:TypeId) (parts:Array (Nat×Operand)):Option AV:=
 match T.ty t with
 |none=>none
 |some τ=>if τ.Ac then (Hj T st t parts.toList (zeroCells τ)).map .agg else none
def Bt (io:Bool) (k:Nat):Nat:=if io then 1000000000+k else 500000+k
def Fq (k:Nat):Nat:=600000+k
def JJ (dst:Nat) (k:Nat):Nat:=1000000*(dst+1)+k
def Mi:List (Option Nat)->List AC->List AV
 |none::s,a::as=> .at a::Mi s as
 |some n::s,as=> .agg (as.take n)::Mi s (as.drop n)
 |_,_=> []
def Gr:List (Option Nat)->List Value->List Value
 |none::s,u::us=>u::Gr s us
 |some n::s,us=> .agg (us.take n).toArray::Gr s (us.drop n)
 |_,_=> []
def ungroup:List (Option Nat)->List AV->Option (List AC)
 | [],[]=>some []
 |none::s, .at a::as=>(ungroup s as).map λr=>a::r
 |some n::s, .agg cs::as=>if cs.length=n then (ungroup s as).map λr=>cs++r else none
 |_,_=>none
def dL (l:Nat):(c:CK)->c.den->Option OB
 | .Hf _,_=>none
 | .row e te,xs=>some (.arr false false e te xs)
 | .Dv e te,xs=>some (.Dh e te xs)
 | .part e te,x=>some (.arr false false e te x.1)
 | .Al e te kp,xs=>some (.Al e te xs none (if kp then some (l,List.length xs) else none))
def Adh (l:Nat):(c:CK)->c.den->AC
 | .Hf τ,x=> .data τ.flat τ x
 | .row _ _,xs=> .own l 0 (List.length xs)
 | .Dv _ _,xs=> .own l 0 (List.length xs)
 | .part _ _,x=> .own l x.2.1 x.2.2
 | .Al _ _ _,xs=> .own l 0 (List.length xs)
def bK {α:Type} (l:Nat):Option α->List (Nat×α)->List (Nat×α)
 |none,r=>r
 |some b,r=>(l,b)::r
def Rr:(k:Nat)->(cs:List (Bool×CK))->Ins.den cs->List (Nat×OB)
 |_,[],_=> []
 |k,p::r,x=>bK (Bt p.1 k) (dL (Bt p.1 k) p.2 x.1) (Rr (k+1) r x.2)
def Un:(k:Nat)->(cs:List (Bool×CK))->Ins.den cs->List AC
 |_,[],_=> []
 |k,p::r,x=>Adh (Bt p.1 k) p.2 x.1::Un (k+1) r x.2
inductive Loc where
 |row (l:Nat)
 |sub (l i c:Nat)
 |view (l:Nat)
 deriving DecidableEq
def Loc.Pn:Loc->Nat
 | .row l=>l
 | .sub l _ _=>l
 | .view l=>l
def Loc.reads:Loc->Bool
 | .view _=>true
 |_=>false
def Vh (st:St) (ls:List Nat):Bool:=ls.all λl=>match st.at l with|some (.var _ vs)=>vs.all (·.settled)|_=>false
def views (k:Nat) (ls:List Nat):List (Nat×Loc):=ls.map λl=>(Bt false k, .view l)
def Hd (st:St) (io:Bool) (k:Nat):(c:CK)->AC->Option (c.den×List (Nat×Loc))
 | .Hf τ, .own l off len=>(Bl st τ (.own l off len)).map λp=>(p.2,[(Bt false k, .view l)])
 | .Hf τ, .clo g Bx=>if Vh st (Bx.map (·.1))&&!τ.Ac then (Fh st τ (.clo g Bx)).map λp=>(p.2,views k (Bx.map (·.1))) else none
 | .Hf τ, .Dx l i=>if Vh st [l]&&!τ.Ac then (Fh st τ (.Dx l i)).map λp=>(p.2,views k [l]) else none
 | .Hf τ, .sub l i c=>(Bl st τ (.sub l i c)).map λp=>(p.2,[(Bt false k, .view l)])
 | .Hf τ,a=>if τ.flat||a.settled then (Bl st τ a).map λp=>(p.2,[]) else none
 | .row e te, .own l off len=>match st.at l with
  |some (.arr _ _ e' La xs)=>if h:e'=e/\La=te/\off=0/\len=xs.length then some ((h.1▸xs:List e.den),[(Bt io k, .row l)]) else none
  |_=>none
 | .row e _, .sub l i c=>match st.at l with
  |some (.Dh e' _ xs)=>if h:e'= .slice e/\e.flat=true/\io=true/\c=0 then xs[i]?.map λy=>((h.1▸y:(Ty.slice e).den),[(Bt io k, .sub l i c)]) else none
  |_=>none
 | .row _ _, .Hq=>some ([],[])
 | .Dv e te, .own l off len=>match st.at l with
  |some (.Dh e' La xs)=>if h:e'=e/\La=te/\off=0/\len=xs.length then some ((h.1▸xs:List e.den),[(Bt io k, .row l)]) else none
  |_=>none
 | .Dv e _, .sub l i c=>match st.at l with
  |some (.Dh e' _ xs)=>if h:e'= .slice e/\io=true/\c=0 then xs[i]?.map λy=>((h.1▸y:(Ty.slice e).den),[(Bt io k, .sub l i c)]) else none
  |_=>none
 | .Dv _ _, .Hq=>some ([],[])
 | .part e te, .own l off len=>match st.at l with
  |some (.arr _ _ e' La xs)=>if h:e'=e/\La=te/\e.flat=true/\io=true then some (((h.1▸xs:List e.den),off,len),[(Bt io k, .row l)]) else none
  |_=>none
 | .Al e te _, .own l off len=>match st.at l with
  |some (.Al e' La rows none _)=>if h:e'=e/\La=te/\off=0/\len=rows.length/\io=false then some ((h.1▸rows:List (List e.den)),[(Bt io k, .row l)]) else none
  |_=>none
 |_,_=>none
def aA (st:St):(k:Nat)->(cs:List (Bool×CK))->List AC->Option (Ins.den cs×List (Nat×Loc))
 |_,[],[]=>some ((),[])
 |k,p::r,a::as=>match Hd st p.1 k p.2 a,aA st (k+1) r as with
  |some (x,t1),some (y,t2)=>some ((x,y),t1++t2)
  |_,_=>none
 |_,_,_=>none
def Vl (st:St):(c:CK)->c.den->AC->Option St
 | .row e _,ys, .own l _ len=>match st.at l with
  |some (.arr fr tr e' te xs)=>if h:e=e'/\List.length ys=len/\xs.length=len then some (st.Ga l (.arr (fr&&e'.flat) (tr&&e'.flat) e' te (h.1▸ys))) else none
  |_=>none
 | .Dv e _,ys, .own l _ len=>match st.at l with
  |some (.Dh e' te xs)=>if h:e=e'/\List.length ys=len/\xs.length=len then some (st.Ga l (.Dh e' te (h.1▸ys))) else none
  |_=>none
 | .row e _,ys, .sub l i _=>match st.at l with
  |some (.Dh e' te xs)=>if h: .slice e=e' then (match xs[i]? with
   |some y=>if List.length ys=List.length (h▸y:(Ty.slice e).den) then some (st.Ga l (.Dh e' te (xs.set i (h▸(ys:(Ty.slice e).den))))) else none
   |none=>none) else none
  |_=>none
 | .Dv e _,ys, .sub l i _=>match st.at l with
  |some (.Dh e' te xs)=>if h: .slice e=e' then (match xs[i]? with
   |some y=>if List.length ys=List.length (h▸y:(Ty.slice e).den) then some (st.Ga l (.Dh e' te (xs.set i (h▸(ys:(Ty.slice e).den))))) else none
   |none=>none) else none
  |_=>none
 |_,_, .Hq=>some st
 |_,_,_=>none
def yM (st:St) (e:Ty) (ys:List e.den):AC->Option St
 | .own l _ _=>match st.at l with
  |some (.arr fr tr e' te xs)=>if h:e=e'/\List.length ys=xs.length then some (st.Ga l (.arr fr tr e' te (h.1▸ys))) else none
  |_=>none
 |_=>none
def Ee:(cs:List (Bool×CK))->IOs.den cs->List AC->St->Option St
 | [],_,_,st=>some st
 |(true, .Hf _)::r,x,_::as,st=>Ee r x as st
 |(true, .row e te)::r,x,a::as,st=>match Vl st (.row e te) x.1 a with
  |some st'=>Ee r x.2 as st'
  |none=>none
 |(true, .Dv e te)::r,x,a::as,st=>match Vl st (.Dv e te) x.1 a with
  |some st'=>Ee r x.2 as st'
  |none=>none
 |(true, .part e _)::r,x,a::as,st=>match yM st e x.1 a with
  |some st'=>Ee r x.2 as st'
  |none=>none
 |(true, .Al _ _ _)::r,x,_::as,st=>Ee r x as st
 |(false,_)::r,x,_::as,st=>Ee r x as st
 |_,_,_,_=>none
def Av (dead part:List Nat) (c:AC):AC:=if c.refs.any (λl=>dead.contains l) then .undef else match c with
 | .sub l i c=>if part.contains l then .undef else .sub l i c
 | .Fv l i c=>if part.contains l then .undef else .Fv l i c
 |c=>c
def Pu:List (Nat×OB)->List Nat->List (Nat×OB)
 | [],_=> []
 |(k,b)::r,dead=>if dead.contains k then Pu r dead else (k,b)::Pu r dead
def St.Vs (st:St) (dead part:List Nat):St:=let s:=st.Gh (Av dead part); {s with heap:=Pu s.heap dead}
def Mq (st:St) (l j m:Nat) (e:Ty) (te:TypeId) (rows:List (List e.den)) (xs:List e.den) (kp:Option (Nat×Nat)):St:=
 (st.Vs [m] [l]).Ga l (.Al e te (rows.set j xs) none kp)
def Ur (j:Nat):Option (Nat×Nat)->Option (Nat×Nat)
 |none=>none
 |some p=>some (p.1,min p.2 j)
def Uj (st:St) (t:TypeId) (p v:AV):Option St:=
 match T.ty t,p with
 |some τ, .at (.Fv l i j)=>match settle st v with
  |some (v',st')=>match st'.at l,Cr st' τ v' with
   |some (.Al e te rows none kp),some (_,x)=>if h:τ=e then some (st'.Ga l (.Al e te (rows.set i ((rows.getD i []).set j (h▸x))) none kp)) else none
   |_,_=>none
  |none=>none
 |some τ, .at (.Fy l j)=>match st.at l,v with
  |some (.Al e te rows out kp), .at (.own m off len)=>match st.at m with
   |some (.arr _ _ e' _ xs)=>if h:e'=e/\(Nat.blt l Aj&&(!Nat.beq m l&&!τ.Ac))=true/\off=0/\len=xs.length/\(out=none\/out=some j) then some (Mq st l j m e te rows (h.1▸xs) (Ur j kp)) else none
   |_=>none
  |_,_=>none
 |_,_=>none
def zW (st:St):AV->Bool
 | .at (.Fv _ _ _)=>true
 | .at (.Fy l _)=>match st.at l with
  |some (.Al _ _ _ _ _)=>true
  |_=>false
 |_=>false
def Jv (st:St) (t:TypeId) (p v:AV):Option St:=match zW st p with
 |true=>Uj T st t p v
 |false=>Nq T st t p v
def Kw (st:St) (k m:Nat) (b:OB):St:=let s:=st.Vs [m,k] []; {s with heap:=Jd s.heap k b}
def Xu (t:TypeId):Option (TypeId×Ty):=(T.elem t).bind λte=>(T.zV te).map λe=>(te,e)
def Pz (st:St) (dst:Nat) (t:TypeId) (l c:AV):Option (AV×St):=
 match Xu T t with
 |none=>Ug T st dst t l c
 |some (te,e)=>match l,c with
  | .at (.data _ (.int _) n), .at (.data _ (.int _) m)=>if RV n (Bo+1)=true/\n=m/\dst<Aj then some (.at (.own dst 0 n.toNat),Kw st dst dst (.Al e te (List.replicate n.toNat []) none none)) else none
  |_,_=>none
def Ep (st:St) (dst:Nat) (t:TypeId) (len:Nat) (parts:Array (Nat×Operand)):Option (AV×St):=
 match Xu T t with
 |none=>Hk T st dst t len parts
 |some (te,e)=>match parts.toList with
  | [(0,x)]=>match st.ev x with
   | .at (.own m off ln)=>match st.at m with
    |some (.arr _ _ e' _ xs)=>if h:e'=e/\(Nat.beq len 1&&(Nat.blt dst Aj&&Nat.blt m Aj))=true/\off=0/\ln=xs.length then some (.at (.own dst 0 1),Kw st dst m (.Al e te [h.1▸xs] none none)) else none
    |_=>none
   |_=>none
  |_=>none
def Le (st:St) (dst:Nat) (t:TypeId) (x y:Operand):Option (AV×St):=
 match Xu T t with
 |none=>Ld T st dst t x y
 |some (te,e)=>match st.ev x,st.ev y with
  | .at (.own l off len), .at (.own m JK mD)=>match st.at l,st.at m with
   |some (.Al e1 te1 A none _),some (.Al e2 pv B none _)=>
    if h:(e1=e/\e2=e)/\(decide (te1=te)&&decide (pv=te)&&(Nat.blt l Aj&&(Nat.blt m Aj&&!Nat.beq m l)))=true/\(off=0/\len=A.length)/\(JK=0/\mD=B.length)/\0<B.length/\A.length+B.length<=Bo then
     some (.at (.own l 0 (A.length+B.length)),Kw st l m (.Al e te ((h.1.1▸A:List (List e.den))++(h.1.2▸B:List (List e.den))) none none))
    else none
   |_,_=>none
  |_,_=>none
def oQ (fr:Bool):(c:CK)->c.den->Option OB
 | .Hf _,_=>none
 | .row e te,xs=>some (.arr (fr&&e.flat) false e te xs)
 | .Dv e te,xs=>some (.Dh e te xs)
 | .part e te,x=>some (.arr (fr&&e.flat) false e te x.1)
 | .Al e te _,xs=>some (.Al e te xs none none)
def vg (H:List (Nat×OB)) (l:Nat):Option OB->List (Nat×OB)
 |some b=>Jd H l b
 |none=>H
def Qk (fr:Bool) (key:Nat->Nat):(k:Nat)->(cs:List CK)->CKs.den cs->List (Nat×OB)->List (Nat×OB)
 |_,[],_,H=>H
 |k,c::r,x,H=>Qk fr key (k+1) r x.2 (vg H (key k) (oQ fr c x.1))
def Uv (key:Nat->Nat):(k:Nat)->(cs:List CK)->CKs.den cs->List AC
 |_,[],_=> []
 |k,c::r,x=>(match c,x.1 with
  | .Hf τ,y=> .data τ.flat τ y
  | .row _ _,xs=> .own (key k) 0 (List.length xs)
  | .Dv _ _,xs=> .own (key k) 0 (List.length xs)
  | .Al _ _ _,xs=> .own (key k) 0 (List.length xs)
  | .part _ _,_=> .undef)::Uv key (k+1) r x.2
def Sh:List (Option Nat)->List AC->List (Bool×List AC)
 |none::s,a::as=>(false,[a])::Sh s as
 |some n::s,as=>(true,as.take n)::Sh s (as.drop n)
 |_,_=> []
def Ab6 (Gb:Bool) (sh:List (Option Nat)) (as:List AC):Option AV:=
 if Gb then some (.Iz (Sh sh as)) else match Mi sh as with
  | [v]=>some v
  | []=>some .undef
  |_=>none
def gw (tks:List (Nat×Loc)):List Nat:=(tks.filter λt=>Nat.blt t.1 Aj&&!t.2.reads).map λt=>t.2.Pn
def whole (tks:List (Nat×Loc)):List Nat:=tks.flatMap λt=>match t.2 with| .row l=> [l]|_=> []
def tD (tks:List (Nat×Loc)):List Nat:=(tks.filter λt=>t.2.reads).map λt=>t.2.Pn
def vC (ins:List (Bool×CK)) (te:TypeId) (used:List Nat):List (Nat×Loc)->Option Nat
 | []=>none
 |(k, .row l)::r=>if Nat.blt k Aj&&(!used.contains l&&(match ins[k-500000]? with
   |some (false, .row _ La)=>decide (La=te)
   |some (false, .Dv _ La)=>decide (La=te)
   |some (false, .Al _ La _)=>decide (La=te)
   |_=>false)) then some l else vC ins te used r
 |_::r=>vC ins te used r
def yi (ins:List (Bool×CK)) (tks:List (Nat×Loc)) (d:Nat):(k:Nat)->(used:List Nat)->List CK->List Nat
 |_,_,[]=> []
 |k,used,c::r=>match (match c with
   | .row _ te=>vC ins te used tks
   | .Dv _ te=>vC ins te used tks
   | .Al _ te _=>vC ins te used tks
   |_=>none) with
  |some l=>l::yi ins tks d (k+1) (l::used) r
  |none=>JJ d k::yi ins tks d (k+1) used r
def gp (s:MSpec) (tks:List (Nat×Loc)) (d:Nat):List Nat:=yi s.ins tks d 0 [] s.outs
def Bv (ks:List Nat) (j:Nat):Nat:=match ks[j]? with
 |some l=>l
 |none=>Aj+j
def s8 (ks:List Nat) (n:Nat):Bool:=Nat.beq ks.length n&&(Sf ks&&ks.all λl=>Nat.blt l Aj)
def zR (st:St) (l:List Nat):Bool:=l.all λk=>match st.at k with|some (.arr fr _ _ _ _)=>fr|_=>false
def AU (st:St) (s:MSpec) (args:List AV):Option (List Nat×List AC×List AV):=
 match s.ptr with
 |none=>some ([],[],args)
 |some p=>match args with
  | .at (.Dx l i)::rest=>match st.at l with
   |some (.var tid vs)=>if tid=p.1/\vs.length=p.2/\i=0 then some ([l],vs,rest) else none
   |_=>none
  |_=>none
def Ov:List (Bool×CK)->List AC->Bool
 |(true, .row _ _)::r, .own _ _ _::as=>Ov r as
 |(true, .Dv _ _)::r, .own _ _ _::as=>Ov r as
 |(true,_)::_,_::_=>false
 |(false,_)::r,_::as=>Ov r as
 |_,as=>as.isEmpty
def aT {α:Type} :List (Bool×CK)->List α->List α->List α
 |(true,_)::r,v::vs,as=>v::aT r vs as
 |(false,_)::r,_::vs,a::as=>a::aT r vs as
 |_,vs,_=>vs
def nh:List (Bool×CK)->Nat->Nat
 |(true,_)::r,n+1=>nh r n
 |(false,_)::r,n+1=>nh r n+1
 |_,_=>0
def MSpec.So (s:MSpec):Nat:=match s.ptr with|none=>0|some p=>nh s.ins p.2
def kZ (ins:List (Bool×CK)) (as:List AC) (pl:List Nat) (st:St):St:=
 match pl with
 | []=>st
 |l::_=>match st.at l with
  |some (.var tid vs)=>st.Ga l (.var tid (aT ins vs as))
  |_=>st
def Mo (d:Nat):Nat:=JJ d 999
def fK (s:MSpec) (d:Nat):List Nat:=match s.rp with|none=> []|some _=> [Mo d]
def Ls (s:MSpec) (tks:List (Nat×Loc)) (d:Nat):List Nat:=gp s tks d++fK s d
def gP (H:List (Nat×OB)) (l:Nat):Bool:=match Ae H l with
 |some (.Al _ _ _ _ _)=>true
 |_=>false
def Uq (H:List (Nat×OB)) (ks:List Nat) (tks:List (Nat×Loc)):List (Nat×Nat)->List Nat
 | []=> []
 |(k,j)::r=>match tks.find? (λt=>Nat.beq t.1 (Bt false k)),ks[j]? with
  |some (_, .row l),some l'=>if Nat.beq l' l&&gP H l then l::Uq H ks tks r else Uq H ks tks r
  |_,_=>Uq H ks tks r
def ll (H:List (Nat×OB)) (l:Nat):Nat:=match Ae H l with
 |some (.Al _ _ rows _ _)=>rows.length
 |_=>0
def Xd (H:List (Nat×OB)) (ls:List Nat) (n:Nat):List AV->Bool
 | []=>true
 | .at (.sub l i _)::r=>(!ls.contains l||(Nat.blt i n&&Nat.blt i (ll H l)))&&Xd H ls n r
 |_::r=>Xd H ls n r
def Gx (ls:List Nat):List AV->List AV->List AV
 | .at (.sub l i c)::r,v::vs=>(if ls.contains l then .at (.sub l i c) else v)::Gx ls r vs
 |_::r,v::vs=>v::Gx ls r vs
 |_,vs=>vs
def UR:Option OB->Option (Nat×Nat)
 |some (.Al _ _ _ _ kp)=>kp
 |_=>none
def OB.wz (b:OB) (kp:Option (Nat×Nat)):OB:=match b with
 | .Al e te rows out _=> .Al e te rows out kp
 |b=>b
def Wu (H0:List (Nat×OB)) (ls:List Nat) (n:Nat):List (Nat×OB)->List (Nat×OB)
 | []=> []
 |(l,b)::r=>(l,if ls.contains l then b.wz (Ur n (UR (Ae H0 l))) else b)::Wu H0 ls n r
def fw (aY st:St) (ls:List Nat) (n:Nat):St:=match ls with
 | []=>st
 |_=> {tmps:=Gx ls aY.tmps st.tmps,heap:=Wu aY.heap ls n st.heap}
def PB (s:MSpec) (d:Nat) (as:List AC):Option AV:=match s.rp with
 |none=>Ab6 s.Gb s.Gd as
 |some _=>some (.at (.Dx (Mo d) 0))
def eV (st st1:St) (d:Nat) (s:MSpec) (pl:List Nat) (tks:List (Nat×Loc)) (r:CKs.den s.outs):St:=
 let ks:=Ls s tks d
 let key:=Bv ks
 let st2:=kZ s.ins (Uv key 0 s.outs r) pl (st1.Vs (gw tks++ks++(if s.flat then [] else tD tks)) (whole tks))
 {st2 with heap:=Qk (zR st (gw tks)) key 0 s.outs r (vg st2.heap (Mo d) (s.rp.map λtid=> .var tid ((Uv key 0 s.outs r).drop s.So)))}
def Px (st:St) (dst:Option Nat) (s:MSpec) (args:List AV):Option (AV×St):=
 match AU st s args with
 |none=>none
 |some (pl,vs,rest)=>match ungroup s.Hb rest with
 |none=>none
 |some iE=>match aA st 0 s.ins (vs++iE) with
  |none=>none
  |some (x,tks)=>if Sf (tks.map λt=>t.2.Pn)&&s8 (Ls s tks (dst.getD 0)) (s.outs.length+(fK s (dst.getD 0)).length)&&Nat.blt s.outs.length 1000&&Nat.blt s.ins.length 1000&&(Ov s.ins vs&&pl.all λl=>!((tks.map λt=>t.2.Pn)++Ls s tks (dst.getD 0)).contains l) then match s.fn x with
   |none=>none
   |some (r,o)=>match Ee s.ins o (vs++iE) st with
    |none=>none
    |some st1=>match PB s (dst.getD 0) ((Uv (Bv (Ls s tks (dst.getD 0))) 0 s.outs r).drop s.So) with
     |none=>none
     |some v=>if Xd (eV st st1 (dst.getD 0) s pl tks r).heap (Uq st.heap (Ls s tks (dst.getD 0)) tks s.keeps) (s.Ct x) st.tmps=true then
       some (v,fw st (eV st st1 (dst.getD 0) s pl tks r) (Uq st.heap (Ls s tks (dst.getD 0)) tks s.keeps) (s.Ct x)) else none
   else none
def Jn:List Operand->St->Option St
 | [],st=>some st
 |x::r,st=>match settle st (st.ev x) with
  |some (_,st')=>Jn r st'
  |none=>none
def Zx (s:Spec) (args:List AV):Bool:=!(s.fresh||s.res.flat||args.all (·.settled))
def evalOp (Γ:Env) (st:St) (o:Oper):Option (AV×St):=
 match o.op with
 | .assign x=>match st.ev x,o.dst,(T.elem o.type).bind λte=>(T.ty te).map λe=>(te,e) with
  | .at .Hq,some d,some (te,e)=>if d<Aj then some (.at (.own d 0 0),st.new d (.arr (T.m8||e.flat) T.tw e te [])) else none
  |v,_,_=>some (v,st)
 | .alloc t=>match o.dst,T.ty t with
  |some d,some τ=>mkVar T st d t τ (zeroCells τ)
  |_,_=>none
 | .box t x=>match o.dst,T.ty t with
  |some d,some τ=>match cellsOf τ (st.ev x) with
   |some cs=>mkVar T st d t τ cs
   |none=>none
  |_,_=>none
 | .store t p x=>(Jv T st t (st.ev p) (st.ev x)).map λs=>(.undef,s)
 | .makeSlice t l c=>match o.dst with
  |some d=>Pz T st d t (st.ev l) (st.ev c)
  |none=>none
 | .makeMap t none=>match o.dst with
  |some d=>Np T st d t
  |none=>none
 | .mapUpdate t m k x=>(Et T st t (st.ev m) (st.ev k) (st.ev x)).map λs=>(.undef,s)
 | .insert t m k x=>(Et T st t (st.ev m) (st.ev k) (st.ev x)).map λs=>(.undef,s)
 | .buildSlice t len parts=>match o.dst with
  |some d=>Ep T st d t len parts
  |none=>none
 | .build t parts=>(Pw T st t parts).map λv=>(v,st)
 | .call {callee:= .builtin .append,args,argTypes} =>match o.dst,args.toList,argTypes.toList with
  |some d,[x,y],[t,t']=>if t=t' then Le T st d t x y else none
  |_,_,_=>none
 | .call {callee:= .builtin .copy,args,argTypes} =>match args.toList,argTypes.toList with
  | [x,y],[t,t']=>bQ T st t t' (st.ev x) (st.ev y)
  |_,_=>none
 | .call {callee:= .builtin .clear,args,argTypes} =>match args.toList,argTypes.toList with
  | [x],[t]=>(evalClear T st t (st.ev x)).map λs=>(.undef,s)
  |_,_=>none
 | .call {callee:= .value (.func f),args, .. } =>match Γ f with
  |some (.m s)=>Px st o.dst s (args.toList.map st.ev)
  |some (.q s)=>if Zx s (args.toList.map st.ev) then (match Jn args.toList st with
   |some st1=>(Cl T Γ st1 o).map λv=>(v,st1)
   |none=>none) else (Cl T Γ st o).map λv=>(v,st)
  |_=>(Cl T Γ st o).map λv=>(v,st)
 |_=>(Cl T Γ st o).map λv=>(v,st)
def a6 (e:Ty):Nat->List (Nat×Operand)->St->Option (Bool×List e.den)
 |_,[],_=>some (true,[])
 |i,(j,x)::r,st=>
  if i=j/\(st.ev x).settled=true then match Cr st e (st.ev x),a6 e (i+1) r st with
   |some (fr,y),some (Oo,ys)=>some (fr&&Oo,y::ys)
   |_,_=>none
  else none
def Uf (st:St) (t:TypeId) (len:Nat) (parts:Array (Nat×Operand)):Option AV:=
 match T.elem t with
 |none=>none
 |some te=>match T.ty te with
  |none=>none
  |some e=>if parts.size=len/\len<=64/\e.size<=64 then (a6 e 0 parts.toList st).map λp=> .at (.data p.1 (.slice e) p.2) else none
def Rj (Γ:Env) (st:St) (o:Oper):Option AV:=
 match o.op with
 | .buildSlice t len parts=>Uf T st t len parts
 | .build t parts=>Pw T st t parts
 |_=>Cl T Γ st o
def JD (q:Bool) (Γ:Env) (o:Oper):Bool:=
 match o.op with
 | .buildSlice _ _ _| .build _ _=>!q
 | .alloc _| .box _ _| .store _ _ _| .makeSlice _ _ _| .makeMap _ _| .mapUpdate _ _ _ _| .insert _ _ _ _=>true
 | .assign (.const _)=>true
 | .call {callee:= .builtin .append, .. } =>true
 | .call {callee:= .builtin .copy, .. } =>true
 | .call {callee:= .builtin .clear, .. } =>true
 | .call {callee:= .value (.func f), .. } =>match Γ f with
  |some (.m _)=>true
  |_=>false
 |_=>false
def Cm (Γ:Env) (ops:Array Oper) (st:St) (o:Oper):Option St:=
 match o.guard with
 |none=>(evalOp T Γ st o).map λr=>r.2.put o.dst r.1
 |some (j,want)=>match Pr st ((ops[j]?).bind (·.dst)) with
  |some (some b)=>if b==want then (evalOp T Γ st o).map λr=>r.2.put o.dst r.1 else some (st.put o.dst (.at .skip))
  |some none=>some (st.put o.dst (.at .skip))
  |none=>none
def Sz (Γ:Env) (ops:Array Oper):List Oper->St->Option St
 | [],st=>some st
 |o::r,st=>match Cm T Γ ops st o with
  |some st'=>Sz Γ ops r st'
  |none=>none
def Fe (q:Bool) (Γ:Env) (ops:Array Oper):List Nat:=
 (List.range ops.size).foldl (init:= []) λacc i=>match ops[i]? with
  |some o=>if JD q Γ o||o.after.any (λe=>Region.binds .any e&&acc.contains e.on) then acc++ [i] else acc
  |none=>acc
def Vu (q:Bool) (Γ:Env) (ops:Array Oper):List Nat:=(List.range ops.size).filter λi=>!(Fe q Γ ops).contains i
def gO (ops:Array Oper) (hd tl:List Nat) (i:Nat):Bool:=
 match ops[i]? with
 |some o=>(match o.op,o.guard with
  | .move (.tmp _),none=>true
  |_,_=>false)&&!((tl.take 1++hd).any λj=>decide (i<j)&&Region.waitsFor .any ops j i)
 |none=>false
def On (q:Bool) (Γ:Env) (ops:Array Oper):List Nat:=(Vu q Γ ops).filter λi=>gO ops (Vu q Γ ops) (Fe q Γ ops) i
def Ot (q:Bool) (Γ:Env) (ops:Array Oper):List Nat:=(Vu q Γ ops).filter λi=>!gO ops (Vu q Γ ops) (Fe q Γ ops) i
def dm (q:Bool) (Γ:Env) (ops:Array Oper):List Nat:=On q Γ ops++Ot q Γ ops
def IV (ops:Array Oper) (i:Nat):Bool:=match ops[i]? with
 |some o=>(match o.op,o.guard with
  | .extract _ _,none=>true
  |_,_=>false)
 |none=>false
def il (ops:Array Oper):List Nat->Array Bool->Bool
 | [],Ad=>(Region.ready .any ops Ad).isEmpty
 |k::r,Ad=>(decide (Region.ready .any ops Ad= [k])||(IV ops k&&((Region.ready .any ops Ad).contains k&&Region.free .any ops Ad k)))&&il ops r (Ad.setIfInBounds k true)
def j0 (ops:Array Oper) (tl:List Nat):List Nat->Array Bool->Bool
 | [],Ad=>il ops tl Ad
 |k::r,Ad=>(Region.ready .any ops Ad).contains k&&Region.free .any ops Ad k&&j0 ops tl r (Ad.setIfInBounds k true)
def nv (ops:Array Oper) (hd:List Nat):List Nat->Bool
 | []=>true
 |f::r=>(hd.all λi=>(f::hd).any λj=>decide (i<j)&&Region.waitsFor .any ops j i)&&r.all λt=>(f::r).any λk=>Region.waitsFor .any ops t k
def gG (ops:Array Oper) (tl hd:List Nat):List Nat->Array Bool->Bool
 | [],Ad=>j0 ops tl hd Ad
 |k::r,Ad=>(Region.ready .any ops Ad).contains k&&Region.free .any ops Ad k&&gG ops tl hd r (Ad.setIfInBounds k true)
def dw (q:Bool) (Γ:Env) (ops:Array Oper):Bool:=
 Region.noSelect ops&&((On q Γ ops).length+((Ot q Γ ops).length+(Fe q Γ ops).length)==ops.size)&&gG ops (Fe q Γ ops) (Ot q Γ ops) (On q Γ ops) (Array.replicate ops.size false)&&nv ops (Ot q Γ ops) (Fe q Γ ops)
def bp (Γ:Env) (ops:Array Oper) (st:St) (o:Oper):Option AV:=
 match o.guard with
 |none=>Rj T Γ st o
 |some (j,want)=>match Pr st ((ops[j]?).bind (·.dst)) with
  |some (some b)=>if b==want then Rj T Γ st o else some (.at .skip)
  |some none=>some (.at .skip)
  |none=>none
def Ec (Γ:Env) (ops:Array Oper):List Nat->St->Option St
 | [],st=>some st
 |i::r,st=>match ops[i]? with
  |none=>none
  |some o=>match bp T Γ ops st o with
   |some v=>Ec Γ ops r (st.put o.dst v)
   |none=>none
def Je (Γ:Env) (ops:Array Oper):List Nat->St->Option St
 | [],st=>some st
 |i::r,st=>match ops[i]? with
  |none=>none
  |some o=>match Cm T Γ ops st o with
   |some st'=>Je Γ ops r st'
   |none=>none
def Lf (Γ:Env) (ops:Array Oper) (draw:Bool) (st:St):Option St:=
 if draw then (if dw false Γ ops then (match Ec T Γ ops (dm false Γ ops) st with
  |some st'=>Je T Γ ops (Fe false Γ ops) st'
  |none=>none) else if dw true Γ ops then (match Ec T Γ ops (dm true Γ ops) st with
  |some st'=>Je T Γ ops (Fe true Γ ops) st'
  |none=>none) else none)
 else Sz T Γ ops ops.toList st
def rY (ops:Array Oper) (i:Nat):Bool:=match ops[i]? with
 |some o=>(match o.op,o.guard with
  | .move (.tmp _),none=>true
  |_,_=>false)
 |none=>false
def du (ops:Array Oper) (i:Nat):Bool:=match ops[i]? with
 |some o=>(match o.op,o.guard with
  | .move (.tmp _),none=>true
  | .nilCheck _,none=>true
  | .fieldAddr _ _ _,none=>true
  |_,_=>false)
 |none=>false
def Abd (q:Bool) (ops:Array Oper) (i:Nat):Bool:=match q with
 |true=>du ops i
 |false=>rY ops i
def Fb (q:Bool) (ops:Array Oper):List Nat->Array Bool->List Nat
 | [],_=> []
 |i::r,Ad=>if Abd q ops i&&((Region.ready .any ops Ad).contains i&&Region.free .any ops Ad i) then i::Fb q ops r (Ad.setIfInBounds i true) else Fb q ops r Ad
def JH (q:Bool) (ops:Array Oper):List Nat:=Fb q ops (List.range ops.size) (Array.replicate ops.size false)
def di (q:Bool) (ops:Array Oper):Bool:=Nat.ble (ops.size-(JH q ops).length) 8
def Ka (ops:Array Oper):List Nat:=JH (!di false ops) ops
def Eg:List Nat->Array Bool->Array Bool
 | [],Ad=>Ad
 |i::r,Ad=>Eg r (Ad.setIfInBounds i true)
def anyS (Γ:Env) (ops:Array Oper) (K:St->Prop):Nat->Array Bool->St->Prop
 |0,Ad,st=>Region.ready .any ops Ad= []/\K st
 |f+1,Ad,st=>Region.ready .any ops Ad≠ []/\ ∀i∈Region.ready .any ops Ad,∃o st',ops[i]?=some o/\Cm T Γ ops st o=some st'/\anyS Γ ops K f (Ad.setIfInBounds i true) st'
def qX (Γ:Env) (ops:Array Oper) (draw:Bool) (st:St) (K:St->Prop):Prop:=
 (∃st',Lf T Γ ops draw st=some st'/\K st')\/
 (draw=true/\Region.noSelect ops=true/\ ∃aY,Ec T Γ ops (Ka ops) st=some aY/\anyS T Γ ops K (ops.size-(Ka ops).length) (Eg (Ka ops) (Array.replicate ops.size false)) aY)
def sF (Γ:Env) (draw:Bool):Env:= λf=>match Γ f with
 |some (.b s m)=>some (if draw then .q s else .m m)
 |r=>r
inductive Gv where
 |normal
 |exit (id:Nat)
 |ret
def Fw (live:List Nat):Nat->List AV->List AV
 |_,[]=> []
 |i,v::r=>(if live.contains i then v else .undef)::Fw live (i+1) r
def AV.refs:AV->List Nat
 | .at a=>a.refs
 | .agg cs=>cs.flatMap AC.refs
 | .Tv _ _ _=> []
 | .Iz l=>l.flatMap λp=>p.2.flatMap AC.refs
def OB.refs:OB->List Nat
 | .var _ vs=>vs.flatMap AC.refs
 |_=> []
def Xr:List Nat->St->St
 | [],st=>st
 |l::r,st=>Xr r (st.forget l)
def jr (l k m:Nat):Nat:=if m=l then k else m
def Nx (l k:Nat):AC->AC
 | .own m off len=> .own (jr l k m) off len
 | .Dx m i=> .Dx (jr l k m) i
 | .Fy m i=> .Fy (jr l k m) i
 | .clo f Bx=> .clo f (Bx.map λp=>(jr l k p.1,p.2))
 | .Gi m=> .Gi (jr l k m)
 | .sub m i c=> .sub (jr l k m) i c
 | .Fv m i c=> .Fv (jr l k m) i c
 |a=>a
def St.rename (l k:Nat) (st:St):St:=
 match Ae st.heap k,Ae st.heap l with
 |none,some b=>if (Nat.blt l Aj&&Nat.blt k Aj)=true then
   (let s:=st.Gh (Nx l k); {s with heap:=Jd (Sl s.heap l) k (b.map (Nx l k))}) else st
 |_,_=>st
def Hs:Nat->Nat->St->St
 |0,_,st=>st
 |n+1,t,st=>Hs n (t+1) (match st.get t with
  | .at (.own l _ _)=>match Ae st.heap l with
   |some (.arr _ _ _ _ _)=>if (st.tmps.take t).any (λv=>v.refs.contains l) then st else st.rename l (700000+t)
   |_=>st
  |_=>st)
def Wd:Nat:=1000000007
def OB.Ev (flat all:Bool):OB->OB
 | .arr fr tr e tid xs=> .arr (fr&&!(all||(flat&&e.flat))) (tr&&!all) e tid xs
 |b=>b
def Rz:Nat:=1000000009
def x6:Nat:=1100000000
def St.Ev (live:List Nat) (st:St):St:= {st with heap:=st.heap.map λp=>(p.1,p.2.Ev (live.contains Rz) (live.contains (x6+p.1)))}
def Hr:Nat:=900000000
def Uw (t:Nat) (st:St):St:=match st.get t with
 | .at (.own l off len)=>match Ae st.heap l with
  |some (.arr fr tr e tid xs)=>if Nat.blt l Aj=true then (st.new l (.arr fr tr e tid ((xs.drop off).take len))).put (some t) (.at (.own l 0 ((xs.drop off).take len).length)) else st
  |_=>st
 |_=>st
def Jm (live:List Nat):Nat->Nat->St->St
 |0,_,st=>st
 |n+1,t,st=>Jm live n (t+1) (if live.contains (Hr+t) then Uw t st else st)
def St.clean (live:List Nat) (st:St):St:=
 let s:St:= {st with tmps:=Fw live 0 st.tmps}
 let r1:=s.tmps.flatMap AV.refs
 let r2:=r1++(s.heap.filter λp=>r1.contains p.1).flatMap λp=>p.2.refs
 let s2:=Xr ((s.heap.map (·.1)).filter λl=>!r2.contains l&&Nat.blt l Aj) s
 let s2:=if live.any (λt=>Nat.ble Hr t&&Nat.blt t Wd) then Jm live s2.tmps.length 0 s2 else s2
 let s3:=if live.contains Wd then Hs s2.tmps.length 0 s2 else s2
 if live.any (λt=>Nat.ble Rz t) then s3.Ev live else s3
def Ci:Code->Nat
 | .region id _ _=>id
 | .seq a _=>Ci a
 | .cond _ a _=>Ci a
 | .block _ c=>Ci c
 | .loop c=>1000+Ci c
 |_=>0
def SI (a b:List Nat):List Nat:=a++b.filter λt=>!a.contains t
def sf:List Oper->List Nat->List Nat
 | [],out=>out
 |o::r,out=>SI (o.op.operands.toList.filterMap λ | .tmp t=>some t|_=>none) (match o.dst with|some d=>(sf r out).filter (·!=d)|none=>sf r out)
def xJ:List (Nat×List Nat)->Nat->List Nat
 | [],_=> []
 |(k,l)::r,id=>if k=id then l else xJ r id
def kh:Code->List (Nat×List Nat)->List Nat->List Nat->List Nat×List (Nat×List Nat)
 | .region _ ops _,_,_,out=>(sf ops.toList out,[])
 | .seq a b,env,ret,out=>let rb:=kh b env ret out;let ra:=kh a env ret rb.1;(ra.1,ra.2++rb.2)
 | .cond c a b,env,ret,out=>let ra:=kh a env ret out;let rb:=kh b env ret out
  (SI (match c with| .tmp t=> [t]|_=> []) (SI ra.1 rb.1),ra.2++rb.2)
 | .block id c,env,ret,out=>kh c ((id,out)::env) ret out
 | .exit id,env,_,_=>(xJ env id,[])
 | .ret,_,ret,_=>(ret,[])
 | .loop c,env,ret,_=>let l:=(kh c env ret []).1;let r:=kh c env ret l;(l,(Ci c,l)::r.2)
 |_,_,_,out=>(out,[])
def si:List ResultVar->List Nat
 | []=> []
 | .tmp t::r=>t::si r
 | .cell p _::r=>p::si r
def se (marks:List Nat) (fn:Func) (c:Code):Nat->List Nat:=let ret:=si fn.results.toList;let g:=xJ (kh c [] ret ret).2;match marks with
 | []=>g
 |m=> λid=>g id++m
def yy (K:St->Prop) (Q:Gv->St->Prop):Gv->St->Prop
 | .normal,s=>K s
 |e,s=>Q e s
def pY (id:Nat) (Q:Gv->St->Prop):Gv->St->Prop
 | .exit CG,s=>if CG=id then Q .normal s else Q (.exit CG) s
 |e,s=>Q e s
inductive Jc (Γ:Env) (live:Nat->List Nat):Code->St->(Gv->St->Prop)->Prop where
 |skip {st:St} {Q:Gv->St->Prop} :Q .normal st->Jc Γ live .skip st Q
 |label {l:Nat} {st:St} {Q:Gv->St->Prop} :Q .normal st->Jc Γ live (.label l) st Q
 |exit {id:Nat} {st:St} {Q:Gv->St->Prop} :Q (.exit id) st->Jc Γ live (.exit id) st Q
 |ret {st:St} {Q:Gv->St->Prop} :Q .ret st->Jc Γ live .ret st Q
 |region {id:Nat} {ops:Array Oper} {draw:Bool} {st:St} {Q:Gv->St->Prop} :qX T (sF Γ draw) ops draw st (Q .normal)->Jc Γ live (.region id ops draw) st Q
 |seq {x y:Code} {st:St} {Q:Gv->St->Prop} (Q1:Gv->St->Prop):Jc Γ live x st Q1->(∀s,Q1 .normal s->Jc Γ live y s Q)->(∀e s,e≠ .normal->Q1 e s->Q e s)->Jc Γ live (.seq x y) st Q
 |cond {c:Operand} {x y:Code} {st:St} {fr t:Bool} {Q:Gv->St->Prop} :st.ev c= .at (.data fr .bool t)->(t=true->Jc Γ live x st Q)->(t=false->Jc Γ live y st Q)->Jc Γ live (.cond c x y) st Q
 |block {id:Nat} {c:Code} {st:St} {Q:Gv->St->Prop} (Q1:Gv->St->Prop):Jc Γ live c st Q1->(∀e s,Q1 e s->pY id Q e s)->Jc Γ live (.block id c) st Q
 |loop {c:Code} {st:St} {Q:Gv->St->Prop} (Q1:Gv->St->Prop):Jc Γ live c (st.clean (live (Ci c))) Q1->(∀s,Q1 .normal s->Jc Γ live (.loop c) s Q)->(∀e s,e≠ .normal->Q1 e s->Q e s)->Jc Γ live (.loop c) st Q
def Wz (st:St):List ResultVar->Option (List AV)
 | []=>some []
 | .tmp t::r=>(Wz st r).map λl=>st.get t::l
 | .cell p t::r=>match Kh T st t (st.get p),Wz st r with
  |some v,some l=>some (v::l)
  |_,_=>none
def gE (s:Spec) (fn:Func) (st:St):Option (Bool×s.res.den):=
 match Wz T st fn.results.toList with
 |some [v]=>if s.Gb then none else Cr st s.res v
 |some [v,u]=>if s.Gb then Bq st s.res [v,u] else none
 |some [v,u,t]=>if s.Gb then Bq st s.res [v,u,t] else none
 |_=>none
def Mf:(τ:Ty)->τ.den->List AV
 | .pair a r,x=> .at (.data a.flat a x.1)::Mf r x.2
 |_,_=> []
def dO (st:St):(c:CK)->AC->Option (c.den×List Nat)
 | .Hf τ,a=>if τ.flat||a.settled then (Bl st τ a).map λp=>(p.2,[]) else none
 | .row e te, .own l off len=>match st.at l with
  |some (.arr _ _ e' La xs)=>if h:e'=e/\La=te then some ((((h.1▸xs:List e.den).drop off).take len),[l]) else none
  |_=>none
 | .row _ _, .Hq=>some ([],[])
 | .Dv e te, .own l off len=>match st.at l with
  |some (.arr _ tr e' La xs)=>if h:e'=e/\La=te/\(tr||e.flat)=true then some ((((h.1▸xs:List e.den).drop off).take len),[l]) else none
  |some (.Dh e' La xs)=>if h:e'=e/\La=te then some ((((h.1▸xs:List e.den).drop off).take len),[l]) else none
  |_=>none
 | .Dv _ _, .Hq=>some ([],[])
 | .Al e te _, .own l off len=>match st.at l with
  |some (.Al e' La rows none _)=>if h:e'=e/\La=te/\off=0/\len=rows.length then some ((h.1▸rows:List (List e.den)),[l]) else none
  |_=>none
 |_,_=>none
def Nw (st:St):(cs:List CK)->List AC->Option (CKs.den cs×List Nat)
 | [],[]=>some ((),[])
 |c::r,a::as=>match dO st c a,Nw st r as with
  |some (x,t1),some (y,t2)=>some ((x,y),t1++t2)
  |_,_=>none
 |_,_=>none
def jO (st:St) (l:Nat):(c:CK)->Option c.den
 | .Hf _=>none
 | .row e te=>match st.at l with
  |some (.arr _ _ e' La xs)=>if h:e'=e/\La=te then some (h.1▸xs) else none
  |_=>none
 | .Dv e te=>match st.at l with
  |some (.Dh e' La xs)=>if h:e'=e/\La=te then some (h.1▸xs) else none
  |_=>none
 | .part _ _=>none
 | .Al _ _ _=>none
def Jh (st:St):(k:Nat)->(cs:List (Bool×CK))->Option (IOs.den cs)
 |_,[]=>some ()
 |k,(true, .Hf _)::r=>Jh st (k+1) r
 |k,(true, .Al _ _ _)::r=>Jh st (k+1) r
 |k,(true, .row e te)::r=>match jO st (Bt true k) (.row e te),Jh st (k+1) r with
  |some x,some y=>some (x,y)
  |_,_=>none
 |k,(true, .Dv e te)::r=>match jO st (Bt true k) (.Dv e te),Jh st (k+1) r with
  |some x,some y=>some (x,y)
  |_,_=>none
 |k,(true, .part e te)::r=>match jO st (Bt true k) (.row e te),Jh st (k+1) r with
  |some x,some y=>some (x,y)
  |_,_=>none
 |k,(false,_)::r=>Jh st (k+1) r
def Jx:(k:Nat)->List (Bool×CK)->List Nat
 |_,[]=> []
 |k,(true, .Hf _)::r=>Jx (k+1) r
 |k,(true, .Al _ _ _)::r=>Jx (k+1) r
 |k,(true,_)::r=>Bt true k::Jx (k+1) r
 |k,(false,_)::r=>Jx (k+1) r
def Lq:Nat:=1900000000
def Ey:(k:Nat)->List (Bool×CK)->List AC->Option (List AC)
 |_,_,[]=>some []
 |k,(true, .row _ _)::r, .own l _ _::as=>if Nat.beq l (Bt true k) then Ey (k+1) r as else none
 |k,(true, .Dv _ _)::r, .own l _ _::as=>if Nat.beq l (Bt true k) then Ey (k+1) r as else none
 |k,(false,_)::r,a::as=>(Ey (k+1) r as).map λl=>a::l
 |_,_,_=>none
def cd (st:St):List AC->List (Bool×CK)->Prop
 | .own l off len::as,(true,_)::r=>(off=0/\match st.at l with
  |some (.arr _ _ _ _ xs)=>len=xs.length
  |some (.Dh _ _ xs)=>len=xs.length
  |_=>False)/\cd st as r
 |_::as,(false,_)::r=>cd st as r
 |_,_=>True
def yS (s:MSpec) (st:St) (l:List AV):Option (List AC×List Nat):=match s.rp with
 |none=>if s.Gb=Nat.blt 1 l.length then (ungroup s.Gd l).map λas=>(as,[]) else none
 |some tid=>match l with
  | [.at (.Dx m i)]=>match st.at m with
   |some (.var Nn vs)=>if Nn=tid/\i=0/\Nat.blt m Aj=true then some (vs,[m]) else none
   |_=>none
  |_=>none
def q8 (st:St) (n:Nat) (as:List AC):List (Nat×Nat)->Prop
 | []=>True
 |(k,j)::r=>(match as[j]? with
  |some (.own l _ _)=>match st.at l with
   |some (.Al _ _ _ _ (some p))=>p.1=Bt false k/\n<=p.2/\Nat.blt k 1000=true
   |_=>False
  |_=>False)/\q8 st n as r
def dz (s:MSpec) (fn:Func) (x:Ins.den s.ins) (st:St) (cs:List AC) (P:CKs.den s.outs×IOs.den s.ins->Prop):Prop:=
 match Wz T st fn.results.toList with
 |none=>False
 |some l=>match yS s st l with
  |none=>False
  |some (as,ml)=>match Nw st s.outs (cs++as),Jh st 0 s.ins with
   |some (r,ls),some o=>(Sf (ml++ls++Jx 0 s.ins)&&Nat.blt s.ins.length 1000&&Nat.blt s.outs.length 1000&&s.JG)=true/\q8 st (s.Ct x) (cs++as) s.keeps/\P (r,o)
   |_,_=>False
def GL (s:MSpec) (fn:Func) (x:Ins.den s.ins) (st:St) (P:CKs.den s.outs×IOs.den s.ins->Prop):Prop:=
 match s.ptr with
 |none=>dz T s fn x st [] P
 |some p=> ∃vs cs,st.at Lq=some (.var p.1 vs)/\vs.length=p.2/\Ey 0 s.ins vs=some cs/\cd st vs s.ins/\dz T s fn x st cs P
def Sm (s:MSpec) (as:List AC):List AV:=match s.ptr with
 |none=>Mi s.Hb as
 |some p=> .at (.Dx Lq 0)::Mi s.Hb (as.drop p.2)
def kc (s:MSpec) (x:Ins.den s.ins):List (Nat×OB):=match s.ptr with
 |none=>Rr 0 s.ins x
 |some p=>Rr 0 s.ins x++ [(Lq, .var p.1 ((Un 0 s.ins x).take p.2))]
def Rv:List (Bool×CK)->Bool
 | []=>true
 |(true, .Al _ _ _)::_=>false
 |_::r=>Rv r
def sB (s:MSpec):Bool:=Rv s.ins&&match s.ptr with
 |none=>true
 |some p=>Nat.ble p.2 s.ins.length
def QD (Γ:Env) (s:MSpec) (fn:Func) (x:Ins.den s.ins) (P:CKs.den s.outs×IOs.den s.ins->Prop):Prop:=
 (Nat.blt s.ins.length 1000&&sB s)=true/\ ∃c,fn.body=some c/\Jc T Γ (se T.marks fn c) c {tmps:=Sm s (Un 0 s.ins x)++List.replicate (fn.ntmps-(Sm s (Un 0 s.ins x)).length) .undef,heap:=kc s x}
  (λe st=>(∀id,e≠ .exit id)/\GL T s fn x st P)
def GM (Γ:Env) (s:Spec) (fn:Func) (x:s.arg.den) (P:s.res.den->Prop):Prop:=
 ∃c,fn.body=some c/\Jc T Γ (se T.marks fn c) c {tmps:=Mf s.arg x++List.replicate (fn.ntmps-(Mf s.arg x).length) .undef,heap:= []}
  (λe st=>(∀id,e≠ .exit id)/\ ∃fr y,gE T s fn st=some (fr,y)/\(fr||!s.fresh)=true/\P y)
end Go.Proofs.Ytjbdmibbbpdnnaa
