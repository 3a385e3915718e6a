/-
  Part 3 of the proof that the statement FnSymmetries holds.
-/
import Derived.Test.YtkkdpknjohcekaaCFSymmetries01
namespace Go.Proofs.Ytkkdpknjohcekaa
open Go.RowKit
def Gz:Nat->St->List AC->Option (List AC×St)
 |0,st,cs=>if cs.all (·.settled) then some (cs,st) else none
 |n+1,st,cs=>
  match cs.find? (λc=>!c.settled) with
  |none=>some (cs,st)
  |some (.own l _ _)=>match st.at l with
   |some (.arr fr _ e _ xs)=>Gz n (st.freeze l fr e xs) (cs.map (Cq l fr e xs))
   |some (.Gg e _ xs)=>Gz n (st.freeze l false e xs) (cs.map (Cq l false e xs))
   |_=>none
  |some (.Ka l)=>match st.at l with
   |some (.Ul v m)=>Gz n (st.Hy l v m) (cs.map (Gm l v m))
   |_=>none
  |some _=>none
def settle (st:St):AV->Option (AV×St)
 | .at (.own l off len)=>match st.at l with
  |some (.arr fr _ e _ xs)=>some (.at (.data fr (.slice e) ((xs.drop off).take len)),st.freeze l fr e xs)
  |some (.Gg e _ xs)=>some (.at (.data false (.slice e) ((xs.drop off).take len)),st.freeze l false e xs)
  |_=>none
 | .at (.Ka l)=>match st.at l with
  |some (.Ul v m)=>some (.at (.data false (.smap v) m),st.Hy l v m)
  |_=>none
 | .at a=>if a.settled then some (.at a,st) else none
 | .agg cs=>(Gz cs.length st cs).map λp=>(.agg p.1,p.2)
 | .aa fr τ x=>some (.aa fr τ x,st)
 | .Mh _=>none
def AC.refs:AC->List Nat
 | .own l _ _| .Gr l _| .Jp l _| .Ka l| .sub l _ _| .Jn l _ _=> [l]
 | .clo _ Eb=>Eb.map (·.1)
 |_=> []
def Yp:List Nat->Bool
 | []=>true
 |a::r=>!r.contains a&&Yp r
def Ty.tree:Ty->Bool
 | .int _| .bool| .str| .unit=>true
 | .slice e=>e.tree
 | .pair a r=>a.tree&&r.tree
 |_=>false
def Rf (st:St):AC->Bool
 | .data _ τ _=>τ.flat
 | .Lo=>true
 | .own l _ _=>match st.at l with
  |some (.arr _ tr e _ _)=>tr||e.flat
  |some (.Gg _ _ _)=>true
  |_=>false
 |_=>false
def Sh (st:St):AV->Bool
 | .at a=>Rf st a
 | .agg cs=>cs.all (Rf st)&&Yp (cs.flatMap AC.refs)
 |_=>false
def Be:Nat:=1000000000
variable (T:Tab)
def GB (t:TypeId) (τ:Ty) (i:Nat):Option TypeId:=
 if τ.Ap then (List.range 24).findSome? λf=>match T.off t f with
  |some (o,u)=>if o=i then some u else none
  |none=>none
 else some t
def Tab.GI (te:TypeId):Option Ty:=if T.Aca.contains te then (match T.ty te with
 |some (.slice e)=>some e
 |_=>none) else none
def cc (te:TypeId) (e:Ty):OB:=match T.GI te with
 |some e'=> .Bj e' te [] none none
 |none=> .arr (T.rU||e.flat) T.AA e te []
def Tq (b:OB) (key l i:Nat) (st:St):St:=
 match st.at l with
 |some (.var _ vs)=>match vs[i]? with
  |some .Lo=>
   let s1:=st.new key b
   match s1.at l with
   |some (.var tid vs')=>s1.Jm l (.var tid (Rr vs' i (.own key 0 0)))
   |_=>s1
  |_=>st
 |_=>st
def dC (l:Nat) (t:TypeId) (τ:Ty):Nat->Nat->St->St
 |0,_,st=>st
 |n+1,i,st=>
  dC l t τ n (i+1) (match ((GB T t τ i).bind T.elem).bind λte=>(T.ty te).map λe=>(te,e) with
   |some (te,e)=>Tq (cc T te e) (100000+l*100+i) l i st
   |none=>st)
def cE (l off:Nat) (t:TypeId) (τ:Ty):Nat->Nat->St->St
 |0,_,st=>st
 |n+1,i,st=>
  cE l off t τ n (i+1) (match ((GB T t τ i).bind T.elem).bind λte=>(T.ty te).map λe=>(te,e) with
   |some (te,e)=>Tq (cc T te e) (100000+l*100+(off+i)) l (off+i) st
   |none=>st)
def zeroCells:(τ:Ty)->List AC
 | .unit=> []
 | .pair a r=>zeroCells a++zeroCells r
 | .slice _=> [.Lo]
 | .oslice _=> [.Lo]
 | .ptr _=> [.Uk]
 | .optr _=> [.Uk]
 | .clo _ _=> [.undef]
 |τ=> [.data true τ τ.zero]
def cellsOf (τ:Ty):AV->Option (List AC)
 | .agg cs=>if τ.Ap&&cs.length==τ.size then some cs else none
 | .at (.data fr Nr x)=>if Nr=τ then some (Rj fr Nr x) else none
 | .at .undef=>none
 | .at .skip=>none
 | .at a=>if τ.Ap then none else some [a]
 |_=>none
def mkVar (st:St) (l:Nat) (t:TypeId) (τ:Ty) (cs:List AC):Option (AV×St):=
 if Be<=100000+l*100+cs.length then none else
 let s:=dC T l t τ cs.length 0 (st.new l (.var t (cs.map (Cg l))))
 match s.at l with
 |some (.var _ _)=>some (.at (.Gr l 0),s)
 |_=>none
def Pl:(τ:Ty)->List AC
 | .unit=> []
 | .pair a r=>Pl a++Pl r
 | .slice e=> [.data false (.slice e) []]
 | .oslice _=> [.Lo]
 | .ptr _=> [.Uk]
 | .optr _=> [.Uk]
 | .clo _ _=> [.undef]
 |τ=> [.data false τ τ.zero]
def cb:Nat:=1300000000
def dS:Nat:=1400000000
def qp (st:St) (l:Nat) (t:TypeId) (cs:List AC):Option (AV×St):=
 if Be<=100000+l*100+cs.length then none else some (.at (.Gr l 0),st.new l (.var t (cs.map (Cg l))))
def Dq {α:Type} (xs:List α) (i:Nat) (ys:List α):List α:=xs.take i++ys++xs.drop (i+ys.length)
def NP (st:St) (τ:Ty) (l:Nat) (v:AV):AV:=match T.marks.contains (cb+l)&&v.settled with
 |true=>match Ez st τ v with
  |some p=> .at (.data false τ p.2)
  |none=>v
 |false=>v
def Tw (st:St) (t:TypeId) (p v:AV):Option St:=
 match T.ty t,p with
 |some τ, .at (.Gr l i)=>match st.at l,cellsOf τ (NP T st τ l v) with
  |some (.var tid vs),some cs=>if i+cs.length<=vs.length then some (if τ.Ap&&Nat.blt (100000+l*100+(i+cs.length)) Be then cE T l i t τ cs.length 0 (st.Jm l (.var tid (Dq vs i cs))) else st.Jm l (.var tid (Dq vs i cs))) else none
  |_,_=>none
 |some τ, .at (.Jp l j)=>match settle st v with
  |some (v',st')=>match st'.at l,Ez st' τ v' with
   |some (.arr fr tr e tid xs),some (Uz,x)=>if h:τ=e then (if j<xs.length then some (st'.Jm l (.arr (fr&&Uz) (tr&&(Sh st v&&e.tree)) e tid (xs.set j (h▸x)))) else none) else none
   |_,_=>none
  |none=>none
 |_,_=>none
def Fu:Nat:=4294967296
def Nk (st:St) (dst:Nat) (t:TypeId) (x y:Operand):Option (AV×St):=
 match T.elem t with
 |none=>none
 |some te=>match T.ty te,settle st (st.ev y) with
  |some e,some (y',st')=>match Ez st' (.slice e) y' with
   |none=>none
   |some (oO,ys)=>
    let tr2:=e.flat||(Sh st (st.ev y)&&e.tree)
    match st'.ev x with
    | .at .Lo=>if ys.length<=Fu/\dst<Be then some (.at (.own dst 0 (0+ys.length)),(st'.new dst (.arr (T.rU||e.flat) T.AA e te [])).new dst (.arr ((T.rU||e.flat)&&(oO||e.flat)) (T.AA&&tr2) e te (((([]:List e.den).drop 0).take 0)++ys))) else none
    | .at (.own l off len)=>match st'.at l with
     |some (.arr fr tr e' tid xs)=>if h:e'=e/\tid=te then
       (if len+ys.length<=Fu/\l<Be then
        some (.at (.own l 0 (len+ys.length)),st'.new l (.arr (fr&&(oO||e.flat)) (tr&&tr2) e te ((((h.1▸xs:List e.den).drop off).take len)++ys))) else none)
      else none
     |_=>none
    |_=>none
  |_,_=>none
def Pn (st:St) (l i m:Nat) (e:Ty) (te tid:TypeId) (rows:List (List e.den)) (kp:Option (Nat×Nat)):St:=
 (st.Jm l (.Bj e te rows (some i) kp)).new m (.arr false false e tid (rows.getD i []))
def Qs (st:St) (dst:Nat) (t:TypeId) (x y:Operand):Option (AV×St):=
 match x with
 | .tmp tx=>match st.get tx with
  | .at (.sub l i _)=>match st.at l,T.elem t with
   |some (.Bj e te rows none kp),some tid=>if (Nat.blt l Be&&(Nat.blt dst Be&&!Nat.beq dst l))=true then Nk T ((Pn st l i dst e te tid rows kp).put (some tx) (.at (.own dst 0 (rows.getD i []).length))) dst t x y else none
   |_,_=>none
  |_=>Nk T st dst t x y
 |_=>Nk T st dst t x y
def km:Ty->Bool
 | .int _| .bool| .str| .slice _| .oslice _=>true
 |_=>false
def ef:Ty->Bool
 | .unit=>true
 | .pair a r=>ef a&&ef r
 |e=>km e
def ao (st:St) (dst:Nat) (t:TypeId) (l c:AV):Option (AV×St):=
 match T.elem t,l,c with
 |some te, .at (.data _ (.int _) n), .at (.data _ (.int _) m)=>match T.ty te with
  |some e=>if XP n (Fu+1)=true/\n=m/\ef e=true/\dst<Be then some (.at (.own dst 0 n.toNat),st.new dst (.arr (T.rU||e.flat) (T.AA&&e.tree) e te (List.replicate n.toNat e.zero))) else none
  |none=>none
 |_,_,_=>none
def Kz (e:Ty):Nat->List (Nat×Operand)->St->Option (Bool×Bool×List e.den×St)
 |_,[],st=>some (true,true,[],st)
 |i,(j,x)::r,st=>
  if i=j then match settle st (st.ev x) with
   |some (v,st')=>match Ez st' e v with
    |some (fr,y)=>match Kz e (i+1) r st' with
     |some (Uz,RW,ys,Ajz)=>some (fr&&Uz,Sh st (st.ev x)&&e.tree&&RW,y::ys,Ajz)
     |none=>none
    |none=>none
   |none=>none
  else none
def Mc (st:St) (dst:Nat) (t:TypeId) (len:Nat) (parts:Array (Nat×Operand)):Option (AV×St):=
 match T.elem t with
 |none=>none
 |some te=>match T.ty te with
  |none=>none
  |some e=>if parts.size=len/\len<=64/\e.size<=64/\dst<Be then (match Kz e 0 parts.toList st with
   |some (fr,tr,ys,st')=>some (.at (.own dst 0 len),st'.new dst (.arr ((T.rU||e.flat)&&fr) (T.AA&&tr) e te ys))
   |none=>none) else none
def Tv (st:St) (dst:Nat) (t:TypeId):Option (AV×St):=
 match T.mapOf t with
 |some v=>if dst<Be then some (.at (.Ka dst),st.new dst (.Ul v λ_=>none)) else none
 |none=>none
def sM {α:Type} (m:ByteArray->Option α) (k:ByteArray) (x:α):ByteArray->Option α:= λs=>if s=k then some x else m s
def Ik (st:St) (t:TypeId) (m k x:AV):Option St:=
 match T.mapOf t,m,k with
 |some v, .at (.Ka l), .at (.data _ .str s)=>match st.at l,Ez st v x with
  |some (.Ul v' f),some (_,y)=>if h:v'=v/\v.flat=true/\v.Ap=false then some (st.Jm l (.Ul v (sM (h.1▸f:ByteArray->Option v.den) s y))) else none
  |_,_=>none
 |_,_,_=>none
def fH (st:St) (t t':TypeId) (x y:AV):Option (AV×St):=
 match x,(T.elem t).bind T.ty with
 | .at (.own l off len),some e=>if T.elem t=T.elem t'/\e.flat=true/\e.size=1 then match st.at l,Ez st (.slice e) y with
  |some (.arr fr _ e' tid xs),some (_,ys)=>if h:e'=e/\T.elem t=some tid then
    some (.at (.data true (.int .i64) (min len ys.length:Nat)),st.Jm l (.arr fr false e tid (Dq (h.1▸xs:List e.den) off (ys.take len))))
   else none
  |_,_=>none
  else none
 |_,_=>none
def evalClear (st:St) (t:TypeId) (x:AV):Option St:=
 match x,(T.elem t).bind T.ty with
 | .at (.own l off len),some e=>if e.flat=true/\km e=true then match st.at l with
  |some (.arr fr _ e' tid xs)=>if h:e'=e/\T.elem t=some tid then
    some (st.Jm l (.arr fr false e tid (Dq (h.1▸xs:List e.den) off (List.replicate len e.zero))))
   else none
  |_=>none
  else none
 |_,_=>none
def Mb (st:St) (t:TypeId):List (Nat×Operand)->List AC->Option (List AC)
 | [],cs=>some cs
 |(i,x)::r,cs=>
  match T.off t i with
  |some (o,u)=>match T.ty u with
   |some ρ=>match cellsOf ρ (st.ev x) with
    |some c=>if o+c.length<=cs.length then Mb st t r (Dq cs o c) else none
    |none=>none
   |none=>none
  |none=>none
def Wk (st:St) (t:TypeId) (parts:Array (Nat×Operand)):Option AV:=
 match T.ty t with
 |none=>none
 |some τ=>if τ.Ap then (Mb T st t parts.toList (zeroCells τ)).map .agg else none
def Dt (io:Bool) (k:Nat):Nat:=if io then 1000000000+k else 500000+k
def Jq (k:Nat):Nat:=600000+k
def QA (dst:Nat) (k:Nat):Nat:=1000000*(dst+1)+k
def Sa:List (Option Nat)->List AC->List AV
 |none::s,a::as=> .at a::Sa s as
 |some n::s,as=> .agg (as.take n)::Sa s (as.drop n)
 |_,_=> []
def Ko:List (Option Nat)->List Value->List Value
 |none::s,u::us=>u::Ko s us
 |some n::s,us=> .agg (us.take n).toArray::Ko s (us.drop n)
 |_,_=> []
def ungroup:List (Option Nat)->List AV->Option (List AC)
 | [],[]=>some []
 |none::s, .at a::as=>(ungroup s as).map λr=>a::r
 |some n::s, .agg cs::as=>if cs.length=n then (ungroup s as).map λr=>cs++r else none
 |some n::s, .at (.data fr τ x)::as=>if τ.Ap=true/\(Rj fr τ x).length=n then (ungroup s as).map λr=>Rj fr τ x++r else none
 |_,_=>none
def iu (l:Nat):(c:CK)->c.den->Option OB
 | .Gb _,_=>none
 | .row e te,xs=>some (.arr false false e te xs)
 | .Ha e te,xs=>some (.Gg e te xs)
 | .part e te,x=>some (.arr false false e te x.1)
 | .Bj e te kp,xs=>some (.Bj e te xs none (if kp then some (l,List.length xs) else none))
def Ah6 (l:Nat):(c:CK)->c.den->AC
 | .Gb τ,x=> .data τ.flat τ x
 | .row _ _,xs=> .own l 0 (List.length xs)
 | .Ha _ _,xs=> .own l 0 (List.length xs)
 | .part _ _,x=> .own l x.2.1 x.2.2
 | .Bj _ _ _,xs=> .own l 0 (List.length xs)
def fy {α:Type} (l:Nat):Option α->List (Nat×α)->List (Nat×α)
 |none,r=>r
 |some b,r=>(l,b)::r
def Xz:(k:Nat)->(cs:List (Bool×CK))->Ins.den cs->List (Nat×OB)
 |_,[],_=> []
 |k,p::r,x=>fy (Dt p.1 k) (iu (Dt p.1 k) p.2 x.1) (Xz (k+1) r x.2)
def aA:(k:Nat)->(cs:List (Bool×CK))->Ins.den cs->List AC
 |_,[],_=> []
 |k,p::r,x=>Ah6 (Dt p.1 k) p.2 x.1::aA (k+1) r x.2
inductive Loc where
 |row (l:Nat)
 |sub (l i c:Nat)
 |view (l:Nat)
 deriving DecidableEq
def Loc.Vx:Loc->Nat
 | .row l=>l
 | .sub l _ _=>l
 | .view l=>l
def Loc.reads:Loc->Bool
 | .view _=>true
 |_=>false
def aT (st:St) (ls:List Nat):Bool:=ls.all λl=>match st.at l with|some (.var _ vs)=>vs.all (·.settled)|_=>false
def views (k:Nat) (ls:List Nat):List (Nat×Loc):=ls.map λl=>(Dt false k, .view l)
def Lu (st:St) (io:Bool) (k:Nat):(c:CK)->AC->Option (c.den×List (Nat×Loc))
 | .Gb τ, .own l off len=>(Dm st τ (.own l off len)).map λp=>(p.2,[(Dt false k, .view l)])
 | .Gb τ, .clo g Eb=>if aT st (Eb.map (·.1))&&!τ.Ap then (Jk st τ (.clo g Eb)).map λp=>(p.2,views k (Eb.map (·.1))) else none
 | .Gb τ, .Gr l i=>if aT st [l]&&!τ.Ap then (Jk st τ (.Gr l i)).map λp=>(p.2,views k [l]) else none
 | .Gb τ, .sub l i c=>(Dm st τ (.sub l i c)).map λp=>(p.2,[(Dt false k, .view l)])
 | .Gb τ,a=>if τ.flat||a.settled then (Dm st τ a).map λp=>(p.2,[]) else none
 | .row e te, .own l off len=>match st.at l with
  |some (.arr _ _ e' Qo xs)=>if h:e'=e/\Qo=te/\off=0/\len=xs.length then some ((h.1▸xs:List e.den),[(Dt io k, .row l)]) else none
  |_=>none
 | .row e _, .sub l i c=>match st.at l with
  |some (.Gg e' _ xs)=>if h:e'= .slice e/\e.flat=true/\io=true/\c=0 then xs[i]?.map λy=>((h.1▸y:(Ty.slice e).den),[(Dt io k, .sub l i c)]) else none
  |_=>none
 | .row _ _, .Lo=>some ([],[])
 | .Ha e te, .own l off len=>match st.at l with
  |some (.Gg e' Qo xs)=>if h:e'=e/\Qo=te/\off=0/\len=xs.length then some ((h.1▸xs:List e.den),[(Dt io k, .row l)]) else none
  |_=>none
 | .Ha e _, .sub l i c=>match st.at l with
  |some (.Gg e' _ xs)=>if h:e'= .slice e/\io=true/\c=0 then xs[i]?.map λy=>((h.1▸y:(Ty.slice e).den),[(Dt io k, .sub l i c)]) else none
  |_=>none
 | .Ha _ _, .Lo=>some ([],[])
 | .part e te, .own l off len=>match st.at l with
  |some (.arr _ _ e' Qo xs)=>if h:e'=e/\Qo=te/\e.flat=true/\io=true then some (((h.1▸xs:List e.den),off,len),[(Dt io k, .row l)]) else none
  |_=>none
 | .Bj e te _, .own l off len=>match st.at l with
  |some (.Bj e' Qo rows none _)=>if h:e'=e/\Qo=te/\off=0/\len=rows.length/\io=false then some ((h.1▸rows:List (List e.den)),[(Dt io k, .row l)]) else none
  |_=>none
 |_,_=>none
def dY (st:St):(k:Nat)->(cs:List (Bool×CK))->List AC->Option (Ins.den cs×List (Nat×Loc))
 |_,[],[]=>some ((),[])
 |k,p::r,a::as=>match Lu st p.1 k p.2 a,dY st (k+1) r as with
  |some (x,t1),some (y,t2)=>some ((x,y),t1++t2)
  |_,_=>none
 |_,_,_=>none
def aY (st:St):(c:CK)->c.den->AC->Option St
 | .row e _,ys, .own l _ len=>match st.at l with
  |some (.arr fr tr e' te xs)=>if h:e=e'/\List.length ys=len/\xs.length=len then some (st.Jm l (.arr (fr&&e'.flat) (tr&&e'.flat) e' te (h.1▸ys))) else none
  |_=>none
 | .Ha e _,ys, .own l _ len=>match st.at l with
  |some (.Gg e' te xs)=>if h:e=e'/\List.length ys=len/\xs.length=len then some (st.Jm l (.Gg e' te (h.1▸ys))) else none
  |_=>none
 | .row e _,ys, .sub l i _=>match st.at l with
  |some (.Gg e' te xs)=>if h: .slice e=e' then (match xs[i]? with
   |some y=>if List.length ys=List.length (h▸y:(Ty.slice e).den) then some (st.Jm l (.Gg e' te (xs.set i (h▸(ys:(Ty.slice e).den))))) else none
   |none=>none) else none
  |_=>none
 | .Ha e _,ys, .sub l i _=>match st.at l with
  |some (.Gg e' te xs)=>if h: .slice e=e' then (match xs[i]? with
   |some y=>if List.length ys=List.length (h▸y:(Ty.slice e).den) then some (st.Jm l (.Gg e' te (xs.set i (h▸(ys:(Ty.slice e).den))))) else none
   |none=>none) else none
  |_=>none
 |_,_, .Lo=>some st
 |_,_,_=>none
def EB (st:St) (e:Ty) (ys:List e.den):AC->Option St
 | .own l _ _=>match st.at l with
  |some (.arr fr tr e' te xs)=>if h:e=e'/\List.length ys=xs.length then some (st.Jm l (.arr fr tr e' te (h.1▸ys))) else none
  |_=>none
 |_=>none
def Hm:(cs:List (Bool×CK))->IOs.den cs->List AC->St->Option St
 | [],_,_,st=>some st
 |(true, .Gb _)::r,x,_::as,st=>Hm r x as st
 |(true, .row e te)::r,x,a::as,st=>match aY st (.row e te) x.1 a with
  |some st'=>Hm r x.2 as st'
  |none=>none
 |(true, .Ha e te)::r,x,a::as,st=>match aY st (.Ha e te) x.1 a with
  |some st'=>Hm r x.2 as st'
  |none=>none
 |(true, .part e _)::r,x,a::as,st=>match EB st e x.1 a with
  |some st'=>Hm r x.2 as st'
  |none=>none
 |(true, .Bj _ _ _)::r,x,_::as,st=>Hm r x as st
 |(false,_)::r,x,_::as,st=>Hm r x as st
 |_,_,_,_=>none
def Ch (dead part:List Nat) (c:AC):AC:=if c.refs.any (λl=>dead.contains l) then .undef else match c with
 | .sub l i c=>if part.contains l then .undef else .sub l i c
 | .Jn l i c=>if part.contains l then .undef else .Jn l i c
 |c=>c
def Wi:List (Nat×OB)->List Nat->List (Nat×OB)
 | [],_=> []
 |(k,b)::r,dead=>if dead.contains k then Wi r dead else (k,b)::Wi r dead
def St.bj (st:St) (dead part:List Nat):St:=let s:=st.Kr (Ch dead part); {s with heap:=Wi s.heap dead}
def Sn (st:St) (l j m:Nat) (e:Ty) (te:TypeId) (rows:List (List e.den)) (xs:List e.den) (kp:Option (Nat×Nat)):St:=
 (st.bj [m] [l]).Jm l (.Bj e te (rows.set j xs) none kp)
def aE (j:Nat):Option (Nat×Nat)->Option (Nat×Nat)
 |none=>none
 |some p=>some (p.1,min p.2 j)
def ar (st:St) (t:TypeId) (p v:AV):Option St:=
 match T.ty t,p with
 |some τ, .at (.Jn l i j)=>match settle st v with
  |some (v',st')=>match st'.at l,Ez st' τ v' with
   |some (.Bj e te rows none kp),some (_,x)=>if h:τ=e then some (st'.Jm l (.Bj e te (rows.set i ((rows.getD i []).set j (h▸x))) none kp)) else none
   |_,_=>none
  |none=>none
 |some τ, .at (.Jp l j)=>match st.at l,v with
  |some (.Bj e te rows out kp), .at (.own m off len)=>match st.at m with
   |some (.arr _ _ e' _ xs)=>if h:e'=e/\(Nat.blt l Be&&(!Nat.beq m l&&!τ.Ap))=true/\off=0/\len=xs.length/\(out=none\/out=some j) then some (Sn st l j m e te rows (h.1▸xs) (aE j kp)) else none
   |_=>none
  |_,_=>none
 |_,_=>none
def GJ (st:St):AV->Bool
 | .at (.Jn _ _ _)=>true
 | .at (.Jp l _)=>match st.at l with
  |some (.Bj _ _ _ _ _)=>true
  |_=>false
 |_=>false
def Pb (st:St) (t:TypeId) (p v:AV):Option St:=match GJ st p with
 |true=>ar T st t p v
 |false=>Tw T st t p v
def Qj (st:St) (k m:Nat) (b:OB):St:=let s:=st.bj [m,k] []; {s with heap:=Nu s.heap k b}
def cq (t:TypeId):Option (TypeId×Ty):=(T.elem t).bind λte=>(T.GI te).map λe=>(te,e)
def Wn (st:St) (dst:Nat) (t:TypeId) (l c:AV):Option (AV×St):=
 match cq T t with
 |none=>ao T st dst t l c
 |some (te,e)=>match l,c with
  | .at (.data _ (.int _) n), .at (.data _ (.int _) m)=>if XP n (Fu+1)=true/\n=m/\dst<Be then some (.at (.own dst 0 n.toNat),Qj st dst dst (.Bj e te (List.replicate n.toNat []) none none)) else none
  |_,_=>none
def Ii (st:St) (dst:Nat) (t:TypeId) (len:Nat) (parts:Array (Nat×Operand)):Option (AV×St):=
 match cq T t with
 |none=>Mc T st dst t len parts
 |some (te,e)=>match parts.toList with
  | [(0,x)]=>match st.ev x with
   | .at (.own m off ln)=>match st.at m with
    |some (.arr _ _ e' _ xs)=>if h:e'=e/\(Nat.beq len 1&&(Nat.blt dst Be&&Nat.blt m Be))=true/\off=0/\ln=xs.length then some (.at (.own dst 0 1),Qj st dst m (.Bj e te [h.1▸xs] none none)) else none
    |_=>none
   |_=>none
  |_=>none
def Qt (st:St) (dst:Nat) (t:TypeId) (x y:Operand):Option (AV×St):=
 match cq T t with
 |none=>Qs T st dst t x y
 |some (te,e)=>match st.ev x,st.ev y with
  | .at (.own l off len), .at (.own m QC qc)=>match st.at l,st.at m with
   |some (.Bj e1 te1 A none _),some (.Bj e2 sK B none _)=>
    if h:(e1=e/\e2=e)/\(decide (te1=te)&&decide (sK=te)&&(Nat.blt l Be&&(Nat.blt m Be&&!Nat.beq m l)))=true/\(off=0/\len=A.length)/\(QC=0/\qc=B.length)/\0<B.length/\A.length+B.length<=Fu then
     some (.at (.own l 0 (A.length+B.length)),Qj st l m (.Bj e te ((h.1.1▸A:List (List e.den))++(h.1.2▸B:List (List e.den))) none none))
    else none
   |_,_=>none
  |_,_=>none
def sd (fr:Bool):(c:CK)->c.den->Option OB
 | .Gb _,_=>none
 | .row e te,xs=>some (.arr (fr&&e.flat) false e te xs)
 | .Ha e te,xs=>some (.Gg e te xs)
 | .part e te,x=>some (.arr (fr&&e.flat) false e te x.1)
 | .Bj e te _,xs=>some (.Bj e te xs none none)
def yI (H:List (Nat×OB)) (l:Nat):Option OB->List (Nat×OB)
 |some b=>Nu H l b
 |none=>H
def Wu (fr:Bool) (key:Nat->Nat):(k:Nat)->(cs:List CK)->CKs.den cs->List (Nat×OB)->List (Nat×OB)
 |_,[],_,H=>H
 |k,c::r,x,H=>Wu fr key (k+1) r x.2 (yI H (key k) (sd fr c x.1))
def aI (key:Nat->Nat):(k:Nat)->(cs:List CK)->CKs.den cs->List AC
 |_,[],_=> []
 |k,c::r,x=>(match c,x.1 with
  | .Gb τ,y=> .data τ.flat τ y
  | .row _ _,xs=> .own (key k) 0 (List.length xs)
  | .Ha _ _,xs=> .own (key k) 0 (List.length xs)
  | .Bj _ _ _,xs=> .own (key k) 0 (List.length xs)
  | .part _ _,_=> .undef)::aI key (k+1) r x.2
def Yq:List (Option Nat)->List AC->List (Bool×List AC)
 |none::s,a::as=>(false,[a])::Yq s as
 |some n::s,as=>(true,as.take n)::Yq s (as.drop n)
 |_,_=> []
def Aez (Hc:Bool) (sh:List (Option Nat)) (as:List AC):Option AV:=
 if Hc then some (.Mh (Yq sh as)) else match Sa sh as with
  | [v]=>some v
  | []=>some .undef
  |_=>none
def kH (tks:List (Nat×Loc)):List Nat:=(tks.filter λt=>Nat.blt t.1 Be&&!t.2.reads).map λt=>t.2.Vx
def whole (tks:List (Nat×Loc)):List Nat:=tks.flatMap λt=>match t.2 with| .row l=> [l]|_=> []
def xo (tks:List (Nat×Loc)):List Nat:=(tks.filter λt=>t.2.reads).map λt=>t.2.Vx
def yR (ins:List (Bool×CK)) (te:TypeId) (used:List Nat):List (Nat×Loc)->Option Nat
 | []=>none
 |(k, .row l)::r=>if Nat.blt k Be&&(!used.contains l&&(match ins[k-500000]? with
   |some (false, .row _ Qo)=>decide (Qo=te)
   |some (false, .Ha _ Qo)=>decide (Qo=te)
   |some (false, .Bj _ Qo _)=>decide (Qo=te)
   |_=>false)) then some l else yR ins te used r
 |_::r=>yR ins te used r
def CY (ins:List (Bool×CK)) (tks:List (Nat×Loc)) (d:Nat):(k:Nat)->(used:List Nat)->List CK->List Nat
 |_,_,[]=> []
 |k,used,c::r=>match (match c with
   | .row _ te=>yR ins te used tks
   | .Ha _ te=>yR ins te used tks
   | .Bj _ te _=>yR ins te used tks
   |_=>none) with
  |some l=>l::CY ins tks d (k+1) (l::used) r
  |none=>QA d k::CY ins tks d (k+1) used r
def kB (s:MSpec) (tks:List (Nat×Loc)) (d:Nat):List Nat:=CY s.ins tks d 0 [] s.outs
def Ea (ks:List Nat) (j:Nat):Nat:=match ks[j]? with
 |some l=>l
 |none=>Be+j
def vU (ks:List Nat) (n:Nat):Bool:=Nat.beq ks.length n&&(Yp ks&&ks.all λl=>Nat.blt l Be)
def GF (st:St) (l:List Nat):Bool:=l.all λk=>match st.at k with|some (.arr fr _ _ _ _)=>fr|_=>false
def HM (st:St) (s:MSpec) (args:List AV):Option (List Nat×List AC×List AV):=
 match s.ptr with
 |none=>some ([],[],args)
 |some p=>match args with
  | .at (.Gr l i)::rest=>match st.at l with
   |some (.var tid vs)=>if tid=p.1/\vs.length=p.2/\i=0 then some ([l],vs,rest) else none
   |_=>none
  |_=>none
def Ve:List (Bool×CK)->List AC->Bool
 |(true, .row _ _)::r, .own _ _ _::as=>Ve r as
 |(true, .Ha _ _)::r, .own _ _ _::as=>Ve r as
 |(true,_)::_,_::_=>false
 |(false,_)::r,_::as=>Ve r as
 |_,as=>as.isEmpty
def eG {α:Type} :List (Bool×CK)->List α->List α->List α
 |(true,_)::r,v::vs,as=>v::eG r vs as
 |(false,_)::r,_::vs,a::as=>a::eG r vs as
 |_,vs,_=>vs
def qK:List (Bool×CK)->Nat->Nat
 |(true,_)::r,n+1=>qK r n
 |(false,_)::r,n+1=>qK r n+1
 |_,_=>0
def MSpec.Zd (s:MSpec):Nat:=match s.ptr with|none=>0|some p=>qK s.ins p.2
def oC (ins:List (Bool×CK)) (as:List AC) (pl:List Nat) (st:St):St:=
 match pl with
 | []=>st
 |l::_=>match st.at l with
  |some (.var tid vs)=>st.Jm l (.var tid (eG ins vs as))
  |_=>st
def Si (d:Nat):Nat:=QA d 999
def jZ (s:MSpec) (d:Nat):List Nat:=match s.rp with|none=> []|some _=> [Si d]
def Ri (s:MSpec) (tks:List (Nat×Loc)) (d:Nat):List Nat:=kB s tks d++jZ s d
def ld (H:List (Nat×OB)) (l:Nat):Bool:=match As H l with
 |some (.Bj _ _ _ _ _)=>true
 |_=>false
def aC (H:List (Nat×OB)) (ks:List Nat) (tks:List (Nat×Loc)):List (Nat×Nat)->List Nat
 | []=> []
 |(k,j)::r=>match tks.find? (λt=>Nat.beq t.1 (Dt false k)),ks[j]? with
  |some (_, .row l),some l'=>if Nat.beq l' l&&ld H l then l::aC H ks tks r else aC H ks tks r
  |_,_=>aC H ks tks r
def oP (H:List (Nat×OB)) (l:Nat):Nat:=match As H l with
 |some (.Bj _ _ rows _ _)=>rows.length
 |_=>0
def bT (H:List (Nat×OB)) (ls:List Nat) (n:Nat):List AV->Bool
 | []=>true
 | .at (.sub l i _)::r=>(!ls.contains l||(Nat.blt i n&&Nat.blt i (oP H l)))&&bT H ls n r
 |_::r=>bT H ls n r
def Lh (ls:List Nat):List AV->List AV->List AV
 | .at (.sub l i c)::r,v::vs=>(if ls.contains l then .at (.sub l i c) else v)::Lh ls r vs
 |_::r,v::vs=>v::Lh ls r vs
 |_,vs=>vs
def Aa8:Option OB->Option (Nat×Nat)
 |some (.Bj _ _ _ _ kp)=>kp
 |_=>none
def OB.zH (b:OB) (kp:Option (Nat×Nat)):OB:=match b with
 | .Bj e te rows out _=> .Bj e te rows out kp
 |b=>b
def bO (H0:List (Nat×OB)) (ls:List Nat) (n:Nat):List (Nat×OB)->List (Nat×OB)
 | []=> []
 |(l,b)::r=>(l,if ls.contains l then b.zH (aE n (Aa8 (As H0 l))) else b)::bO H0 ls n r
def jM (aW st:St) (ls:List Nat) (n:Nat):St:=match ls with
 | []=>st
 |_=> {tmps:=Lh ls aW.tmps st.tmps,heap:=bO aW.heap ls n st.heap}
def VM (s:MSpec) (d:Nat) (as:List AC):Option AV:=match s.rp with
 |none=>Aez s.Hc s.Iw as
 |some _=>some (.at (.Gr (Si d) 0))
def jt (st st1:St) (d:Nat) (s:MSpec) (pl:List Nat) (tks:List (Nat×Loc)) (r:CKs.den s.outs):St:=
 let ks:=Ri s tks d
 let key:=Ea ks
 let st2:=oC s.ins (aI key 0 s.outs r) pl (st1.bj (kH tks++ks++(if s.flat then [] else xo tks)) (whole tks))
 {st2 with heap:=Wu (GF st (kH tks)) key 0 s.outs r (yI st2.heap (Si d) (s.rp.map λtid=> .var tid ((aI key 0 s.outs r).drop s.Zd)))}
def Wl (st:St) (dst:Option Nat) (s:MSpec) (args:List AV):Option (AV×St):=
 match HM st s args with
 |none=>none
 |some (pl,vs,rest)=>match ungroup s.Ke rest with
 |none=>none
 |some m7=>match dY st 0 s.ins (vs++m7) with
  |none=>none
  |some (x,tks)=>if Yp (tks.map λt=>t.2.Vx)&&vU (Ri s tks (dst.getD 0)) (s.outs.length+(jZ s (dst.getD 0)).length)&&Nat.blt s.outs.length 1000&&Nat.blt s.ins.length 1000&&(Ve s.ins vs&&pl.all λl=>!((tks.map λt=>t.2.Vx)++Ri s tks (dst.getD 0)).contains l) then match s.fn x with
   |none=>none
   |some (r,o)=>match Hm s.ins o (vs++m7) st with
    |none=>none
    |some st1=>match VM s (dst.getD 0) ((aI (Ea (Ri s tks (dst.getD 0))) 0 s.outs r).drop s.Zd) with
     |none=>none
     |some v=>if bT (jt st st1 (dst.getD 0) s pl tks r).heap (aC st.heap (Ri s tks (dst.getD 0)) tks s.keeps) (s.Fw x) st.tmps=true then
       some (v,jM st (jt st st1 (dst.getD 0) s pl tks r) (aC st.heap (Ri s tks (dst.getD 0)) tks s.keeps) (s.Fw x)) else none
   else none
def Mu:List Operand->St->Option St
 | [],st=>some st
 |x::r,st=>match settle st (st.ev x) with
  |some (_,st')=>Mu r st'
  |none=>none
def Ny (st:St) (p x:Operand):St:=match st.ev p with
 | .at (.Gr l _)=>match T.marks.contains (dS+l) with
  |true=>match Mu [x] st with
   |some s0=>s0
   |none=>st
  |false=>st
 |_=>st
def dy (s:Spec) (args:List AV):Bool:=!(s.fresh||s.res.flat||args.all (·.settled))
def evalOp (Γ:Env) (st:St) (o:Oper):Option (AV×St):=
 match o.op with
 | .assign x=>match st.ev x,o.dst,(T.elem o.type).bind λte=>(T.ty te).map λe=>(te,e) with
  | .at .Lo,some d,some (te,e)=>if d<Be then some (.at (.own d 0 0),st.new d (.arr (T.rU||e.flat) T.AA e te [])) else none
  |v,_,_=>some (v,st)
 | .alloc t=>match o.dst,T.ty t with
  |some d,some τ=>match T.marks.contains (cb+d) with
   |true=>qp st d t (Pl τ)
   |false=>mkVar T st d t τ (zeroCells τ)
  |_,_=>none
 | .box t x=>match o.dst,T.ty t with
  |some d,some τ=>match cellsOf τ (st.ev x) with
   |some cs=>match T.marks.contains (cb+d) with
    |true=>if cs.all (·.settled)=true then (Eo st τ cs).map λp=>(.at (.data false (.optr τ) (some p.2)),st) else none
    |false=>mkVar T st d t τ cs
   |none=>none
  |_,_=>none
 | .store t p x=>(Pb T (Ny T st p x) t ((Ny T st p x).ev p) ((Ny T st p x).ev x)).map λs=>(.undef,s)
 | .makeSlice t l c=>match o.dst with
  |some d=>Wn T st d t (st.ev l) (st.ev c)
  |none=>none
 | .makeMap t none=>match o.dst with
  |some d=>Tv T st d t
  |none=>none
 | .mapUpdate t m k x=>(Ik T st t (st.ev m) (st.ev k) (st.ev x)).map λs=>(.undef,s)
 | .insert t m k x=>(Ik T st t (st.ev m) (st.ev k) (st.ev x)).map λs=>(.undef,s)
 | .buildSlice t len parts=>match o.dst with
  |some d=>Ii T st d t len parts
  |none=>none
 | .build t parts=>(Wk T st t parts).map λv=>(v,st)
 | .call {callee:= .builtin .append,args,argTypes} =>match o.dst,args.toList,argTypes.toList with
  |some d,[x,y],[t,t']=>if t=t' then Qt T st d t x y else none
  |_,_,_=>none
 | .call {callee:= .builtin .copy,args,argTypes} =>match args.toList,argTypes.toList with
  | [x,y],[t,t']=>fH T st t t' (st.ev x) (st.ev y)
  |_,_=>none
 | .call {callee:= .builtin .clear,args,argTypes} =>match args.toList,argTypes.toList with
  | [x],[t]=>(evalClear T st t (st.ev x)).map λs=>(.undef,s)
  |_,_=>none
 | .call {callee:= .value (.func f),args, .. } =>match Γ f with
  |some (.m s)=>Wl st o.dst s (args.toList.map st.ev)
  |some (.q s)=>if dy s (args.toList.map st.ev) then (match Mu args.toList st with
   |some st1=>(Ep T Γ st1 o).map λv=>(v,st1)
   |none=>none) else (Ep T Γ st o).map λv=>(v,st)
  |_=>(Ep T Γ st o).map λv=>(v,st)
 |_=>(Ep T Γ st o).map λv=>(v,st)
def dB (e:Ty):Nat->List (Nat×Operand)->St->Option (Bool×List e.den)
 |_,[],_=>some (true,[])
 |i,(j,x)::r,st=>
  if i=j/\(st.ev x).settled=true then match Ez st e (st.ev x),dB e (i+1) r st with
   |some (fr,y),some (Uz,ys)=>some (fr&&Uz,y::ys)
   |_,_=>none
  else none
def an (st:St) (t:TypeId) (len:Nat) (parts:Array (Nat×Operand)):Option AV:=
 match T.elem t with
 |none=>none
 |some te=>match T.ty te with
  |none=>none
  |some e=>if parts.size=len/\len<=64/\e.size<=64 then (dB e 0 parts.toList st).map λp=> .at (.data p.1 (.slice e) p.2) else none
def Vz (Γ:Env) (st:St) (o:Oper):Option AV:=
 match o.op with
 | .buildSlice t len parts=>an T st t len parts
 | .build t parts=>Wk T st t parts
 |_=>Ep T Γ st o
def PU (q:Bool) (Γ:Env) (o:Oper):Bool:=
 match o.op with
 | .buildSlice _ _ _| .build _ _=>!q
 | .alloc _| .box _ _| .store _ _ _| .makeSlice _ _ _| .makeMap _ _| .mapUpdate _ _ _ _| .insert _ _ _ _=>true
 | .assign (.const _)=>true
 | .call {callee:= .builtin .append, .. } =>true
 | .call {callee:= .builtin .copy, .. } =>true
 | .call {callee:= .builtin .clear, .. } =>true
 | .call {callee:= .value (.func f), .. } =>match Γ f with
  |some (.m _)=>true
  |_=>false
 |_=>false
def Em (Γ:Env) (ops:Array Oper) (st:St) (o:Oper):Option St:=
 match o.guard with
 |none=>(evalOp T Γ st o).map λr=>r.2.put o.dst r.1
 |some (j,want)=>match Wf st ((ops[j]?).bind (·.dst)) with
  |some (some b)=>if b==want then (evalOp T Γ st o).map λr=>r.2.put o.dst r.1 else some (st.put o.dst (.at .skip))
  |some none=>some (st.put o.dst (.at .skip))
  |none=>none
def Zk (Γ:Env) (ops:Array Oper):List Oper->St->Option St
 | [],st=>some st
 |o::r,st=>match Em T Γ ops st o with
  |some st'=>Zk Γ ops r st'
  |none=>none
def Ix (q:Bool) (Γ:Env) (ops:Array Oper):List Nat:=
 (List.range ops.size).foldl (init:= []) λacc i=>match ops[i]? with
  |some o=>if PU q Γ o||o.after.any (λe=>Region.binds .any e&&acc.contains e.on) then acc++ [i] else acc
  |none=>acc
def bl (q:Bool) (Γ:Env) (ops:Array Oper):List Nat:=(List.range ops.size).filter λi=>!(Ix q Γ ops).contains i
def lb (ops:Array Oper) (hd tl:List Nat) (i:Nat):Bool:=
 match ops[i]? with
 |some o=>(match o.op,o.guard with
  | .move (.tmp _),none=>true
  |_,_=>false)&&!((tl.take 1++hd).any λj=>decide (i<j)&&Region.waitsFor .any ops j i)
 |none=>false
def Ux (q:Bool) (Γ:Env) (ops:Array Oper):List Nat:=(bl q Γ ops).filter λi=>lb ops (bl q Γ ops) (Ix q Γ ops) i
def Vb (q:Bool) (Γ:Env) (ops:Array Oper):List Nat:=(bl q Γ ops).filter λi=>!lb ops (bl q Γ ops) (Ix q Γ ops) i
def gU (q:Bool) (Γ:Env) (ops:Array Oper):List Nat:=Ux q Γ ops++Vb q Γ ops
def PJ (ops:Array Oper) (i:Nat):Bool:=match ops[i]? with
 |some o=>(match o.op,o.guard with
  | .extract _ _,none=>true
  |_,_=>false)
 |none=>false
def lL (ops:Array Oper):List Nat->Array Bool->Bool
 | [],Af=>(Region.ready .any ops Af).isEmpty
 |k::r,Af=>(decide (Region.ready .any ops Af= [k])||(PJ ops k&&((Region.ready .any ops Af).contains k&&Region.free .any ops Af k)))&&lL ops r (Af.setIfInBounds k true)
def mC (ops:Array Oper) (tl:List Nat):List Nat->Array Bool->Bool
 | [],Af=>lL ops tl Af
 |k::r,Af=>(Region.ready .any ops Af).contains k&&Region.free .any ops Af k&&mC ops tl r (Af.setIfInBounds k true)
def qR (ops:Array Oper) (hd:List Nat):List Nat->Bool
 | []=>true
 |f::r=>(hd.all λi=>(f::hd).any λj=>decide (i<j)&&Region.waitsFor .any ops j i)&&r.all λt=>(f::r).any λk=>Region.waitsFor .any ops t k
def kU (ops:Array Oper) (tl hd:List Nat):List Nat->Array Bool->Bool
 | [],Af=>mC ops tl hd Af
 |k::r,Af=>(Region.ready .any ops Af).contains k&&Region.free .any ops Af k&&kU ops tl hd r (Af.setIfInBounds k true)
def bq (q:Bool) (Γ:Env) (ops:Array Oper):Bool:=
 Region.noSelect ops&&((Ux q Γ ops).length+((Vb q Γ ops).length+(Ix q Γ ops).length)==ops.size)&&kU ops (Ix q Γ ops) (Vb q Γ ops) (Ux q Γ ops) (Array.replicate ops.size false)&&qR ops (Vb q Γ ops) (Ix q Γ ops)
def Vy (Γ:Env) (ops:Array Oper) (st:St) (o:Oper):Option AV:=
 match o.guard with
 |none=>Vz T Γ st o
 |some (j,want)=>match Wf st ((ops[j]?).bind (·.dst)) with
  |some (some b)=>if b==want then Vz T Γ st o else some (.at .skip)
  |some none=>some (.at .skip)
  |none=>none
def Fh (Γ:Env) (ops:Array Oper):List Nat->St->Option St
 | [],st=>some st
 |i::r,st=>match ops[i]? with
  |none=>none
  |some o=>match Vy T Γ ops st o with
   |some v=>Fh Γ ops r (st.put o.dst v)
   |none=>none
def Mk (Γ:Env) (ops:Array Oper):List Nat->St->Option St
 | [],st=>some st
 |i::r,st=>match ops[i]? with
  |none=>none
  |some o=>match Em T Γ ops st o with
   |some st'=>Mk Γ ops r st'
   |none=>none
def Qv (Γ:Env) (ops:Array Oper) (draw:Bool) (st:St):Option St:=
 if draw then (if bq false Γ ops then (match Fh T Γ ops (gU false Γ ops) st with
  |some st'=>Mk T Γ ops (Ix false Γ ops) st'
  |none=>none) else if bq true Γ ops then (match Fh T Γ ops (gU true Γ ops) st with
  |some st'=>Mk T Γ ops (Ix true Γ ops) st'
  |none=>none) else none)
 else Zk T Γ ops ops.toList st
def vO (ops:Array Oper) (i:Nat):Bool:=match ops[i]? with
 |some o=>(match o.op,o.guard with
  | .move (.tmp _),none=>true
  |_,_=>false)
 |none=>false
def gY (ops:Array Oper) (i:Nat):Bool:=match ops[i]? with
 |some o=>(match o.op,o.guard with
  | .move (.tmp _),none=>true
  | .nilCheck _,none=>true
  | .fieldAddr _ _ _,none=>true
  |_,_=>false)
 |none=>false
def Af6 (q:Bool) (ops:Array Oper) (i:Nat):Bool:=match q with
 |true=>gY ops i
 |false=>vO ops i
def Iu (q:Bool) (ops:Array Oper):List Nat->Array Bool->List Nat
 | [],_=> []
 |i::r,Af=>if Af6 q ops i&&((Region.ready .any ops Af).contains i&&Region.free .any ops Af i) then i::Iu q ops r (Af.setIfInBounds i true) else Iu q ops r Af
def PY (q:Bool) (ops:Array Oper):List Nat:=Iu q ops (List.range ops.size) (Array.replicate ops.size false)
def gS (q:Bool) (ops:Array Oper):Bool:=Nat.ble (ops.size-(PY q ops).length) 8
def Kb (ops:Array Oper):List Nat:=PY (!gS false ops) ops
def Ee:List Nat->Array Bool->Array Bool
 | [],Af=>Af
 |i::r,Af=>Ee r (Af.setIfInBounds i true)
def anyS (Γ:Env) (ops:Array Oper) (K:St->Prop):Nat->Array Bool->St->Prop
 |0,Af,st=>Region.ready .any ops Af= []/\K st
 |f+1,Af,st=>Region.ready .any ops Af≠ []/\ ∀i∈Region.ready .any ops Af,∃o st',ops[i]?=some o/\Em T Γ ops st o=some st'/\anyS Γ ops K f (Af.setIfInBounds i true) st'
def gZ (ops:Array Oper) (i:Nat):Bool:=match ops[i]? with
 |some o=>(match o.op,o.guard with
  | .move _,none=>true
  | .load _ _,none=>true
  | .indexAddr _ _ _,none=>true
  | .fieldAddr _ _ _,none=>true
  |_,_=>false)
 |none=>false
def ia (ops:Array Oper):List Nat->Array Bool->List Nat
 | [],_=> []
 |i::r,Af=>if gZ ops i&&((Region.ready .any ops Af).contains i&&Region.free .any ops Af i) then i::ia ops r (Af.setIfInBounds i true) else ia ops r Af
def nk (ops:Array Oper) (i j:Nat) (p:Oper->Oper->Bool):Bool:=match ops[i]?,ops[j]? with
 |some x,some y=>p x y
 |_,_=>false
def lZ (ops:Array Oper) (x y:Oper):Bool:=match x.dst with
 |some d=>!(y.looksAt ops).contains d
 |none=>true
def BW (x y:Oper):Bool:=match x.dst with
 |some d=>y.dst !=some d
 |none=>true
def gr (ops:Array Oper):List Nat->Array Bool->Bool
 | [],_=>true
 |r::E,Af=>(Region.ready .any ops Af).contains r&&gr ops E (Af.setIfInBounds r true)
def wz (ops:Array Oper):List Nat->Bool
 | []=>true
 |r::E=>(nk ops r r (lZ ops)&&E.all λq=>nk ops r q (λx y=>BW x y&&lZ ops y x)&&(Region.waitsFor .any ops q r||nk ops r q (lZ ops)))&&wz ops E
def TM (ops:Array Oper) (E:List Nat) (L0:Array Bool):Bool:=E.all λr=>(List.range ops.size).all λj=>E.contains j||L0.getD j false||Region.waitsFor .any ops j r||nk ops r j (λx y=>x.apart ops y)
def br (ops:Array Oper) (E:List Nat) (L0:Array Bool):Bool:=(E.all (gZ ops)&&gr ops E L0)&&(wz ops E&&TM ops E L0)
def oZ (ops:Array Oper) (E:List Nat) (Af:Array Bool) (r:Nat):Bool:=(List.range ops.size).any λj=>!E.contains j&&(Af.getD j false&&Region.waitsFor .any ops j r)
def RK (Γ:Env) (ops:Array Oper) (E:List Nat) (Af:Array Bool) (st:St):Prop:=
 ∀r∈E,oZ ops E Af r=true\/ ∃o v,ops[r]?=some o/\Vy T Γ ops st o=some v/\ ∀d,o.dst=some d->st.get d=v
def og (Γ:Env) (ops:Array Oper) (E:List Nat) (K:St->Prop):Nat->Array Bool->St->Prop
 |0,Af,st=>RK T Γ ops E Af st/\Region.ready .any ops Af= []/\K st
 |f+1,Af,st=>RK T Γ ops E Af st/\Region.ready .any ops Af≠ []/\ ∀i∈Region.ready .any ops Af,∃o st',ops[i]?=some o/\Em T Γ ops st o=some st'/\og Γ ops E K f (Af.setIfInBounds i true) st'
def TL (Γ:Env) (ops:Array Oper) (K:St->Prop) (n:Nat) (L0:Array Bool) (aW:St):Prop:=
 ∃E st1,br ops E L0=true/\E.length<=n/\Fh T Γ ops E aW=some st1/\og T Γ ops E K (n-E.length) (Ee E L0) st1
def wG (Γ:Env) (draw:Bool):Env:= λf=>match Γ f with
 |some (.b s m)=>some (if draw then .q s else .m m)
 |r=>r
inductive Ld where
 |normal
 |exit (id:Nat)
 |ret
def Hs (live:List Nat):Nat->List AV->List AV
 |_,[]=> []
 |i,v::r=>(if live.contains i then v else .undef)::Hs live (i+1) r
def AV.refs:AV->List Nat
 | .at a=>a.refs
 | .agg cs=>cs.flatMap AC.refs
 | .aa _ _ _=> []
 | .Mh l=>l.flatMap λp=>p.2.flatMap AC.refs
def OB.refs:OB->List Nat
 | .var _ vs=>vs.flatMap AC.refs
 |_=> []
def Zw:List Nat->St->St
 | [],st=>st
 |l::r,st=>Zw r (st.forget l)
def mS (l k m:Nat):Nat:=if m=l then k else m
def Ue (l k:Nat):AC->AC
 | .own m off len=> .own (mS l k m) off len
 | .Gr m i=> .Gr (mS l k m) i
 | .Jp m i=> .Jp (mS l k m) i
 | .clo f Eb=> .clo f (Eb.map λp=>(mS l k p.1,p.2))
 | .Ka m=> .Ka (mS l k m)
 | .sub m i c=> .sub (mS l k m) i c
 | .Jn m i c=> .Jn (mS l k m) i c
 |a=>a
def St.rename (l k:Nat) (st:St):St:=
 match As st.heap k,As st.heap l with
 |none,some b=>if (Nat.blt l Be&&Nat.blt k Be)=true then
   (let s:=st.Kr (Ue l k); {s with heap:=Nu (Yy s.heap l) k (b.map (Ue l k))}) else st
 |_,_=>st
def Mf:Nat->Nat->St->St
 |0,_,st=>st
 |n+1,t,st=>Mf n (t+1) (match st.get t with
  | .at (.own l _ _)=>match As st.heap l with
   |some (.arr _ _ _ _ _)=>if (st.tmps.take t).any (λv=>v.refs.contains l) then st else st.rename l (700000+t)
   |_=>st
  |_=>st)
def bw:Nat:=1000000007
def AC.XZ (flat:Bool):AC->AC
 | .data fr τ x=> .data (fr&&!(flat&&τ.flat)) τ x
 |c=>c
def OB.Ig (flat all one:Bool):OB->OB
 | .arr fr tr e tid xs=> .arr (fr&&!(all||(one||(flat&&e.flat)))) (tr&&!all) e tid xs
 | .var tid vs=> .var tid (vs.map (AC.XZ flat))
 |b=>b
def Ta:Nat:=1000000009
def AR:Nat:=1100000000
def SQ:Nat:=1200000000
def St.Ig (live:List Nat) (st:St):St:= {st with heap:=st.heap.map λp=>(p.1,p.2.Ig (live.contains Ta) (live.contains (AR+p.1)) (live.contains (SQ+p.1)))}
def aK:Nat:=900000000
def aJ (t:Nat) (st:St):St:=match st.get t with
 | .at (.own l off len)=>match As st.heap l with
  |some (.arr fr tr e tid xs)=>if Nat.blt l Be=true then (st.new l (.arr fr tr e tid ((xs.drop off).take len))).put (some t) (.at (.own l 0 ((xs.drop off).take len).length)) else st
  |_=>st
 |_=>st
def On:Nat:=1900000000
def NH:Nat:=950000000
def Pg (c:Nat) (st:St):St:=match As st.heap On with
 |some (.var _ vs)=>match vs[c]? with
  |some (.own l off len)=>match As st.heap l with
   |some (.arr fr tr e te xs)=>if Nat.blt l Be=true then match As (st.new l (.arr fr tr e te ((xs.drop off).take len))).heap On with
     |some (.var tid vs')=>(st.new l (.arr fr tr e te ((xs.drop off).take len))).Jm On (.var tid (vs'.set c (.own l 0 ((xs.drop off).take len).length)))
     |_=>st
    else st
   |_=>st
  |_=>st
 |_=>st
def Pa (live:List Nat):Nat->Nat->St->St
 |0,_,st=>st
 |n+1,c,st=>Pa live n (c+1) (if live.contains (NH+c) then Pg c st else st)
def Oj (live:List Nat):Nat->Nat->St->St
 |0,_,st=>Pa live 16 0 st
 |n+1,t,st=>Oj live n (t+1) (if live.contains (aK+t) then aJ t st else st)
def St.clean (live:List Nat) (st:St):St:=
 let s:St:= {st with tmps:=Hs live 0 st.tmps}
 let r1:=s.tmps.flatMap AV.refs
 let r2:=r1++(s.heap.filter λp=>r1.contains p.1).flatMap λp=>p.2.refs
 let s2:=Zw ((s.heap.map (·.1)).filter λl=>!r2.contains l&&Nat.blt l Be) s
 let s2:=if live.any (λt=>Nat.ble aK t&&Nat.blt t bw) then Oj live s2.tmps.length 0 s2 else s2
 let s3:=if live.contains bw then Mf s2.tmps.length 0 s2 else s2
 if live.any (λt=>Nat.ble Ta t) then s3.Ig live else s3
def En:Code->Nat
 | .region id _ _=>id
 | .seq a _=>En a
 | .cond _ a _=>En a
 | .block _ c=>En c
 | .loop c=>1000+En c
 |_=>0
def YG (a b:List Nat):List Nat:=a++b.filter λt=>!a.contains t
def w3:List Oper->List Nat->List Nat
 | [],out=>out
 |o::r,out=>YG (o.op.operands.toList.filterMap λ | .tmp t=>some t|_=>none) (match o.dst with|some d=>(w3 r out).filter (·!=d)|none=>w3 r out)
def BX:List (Nat×List Nat)->Nat->List Nat
 | [],_=> []
 |(k,l)::r,id=>if k=id then l else BX r id
def nN:Code->List (Nat×List Nat)->List Nat->List Nat->List Nat×List (Nat×List Nat)
 | .region _ ops _,_,_,out=>(w3 ops.toList out,[])
 | .seq a b,env,ret,out=>let rb:=nN b env ret out;let ra:=nN a env ret rb.1;(ra.1,ra.2++rb.2)
 | .cond c a b,env,ret,out=>let ra:=nN a env ret out;let rb:=nN b env ret out
  (YG (match c with| .tmp t=> [t]|_=> []) (YG ra.1 rb.1),ra.2++rb.2)
 | .block id c,env,ret,out=>nN c ((id,out)::env) ret out
 | .exit id,env,_,_=>(BX env id,[])
 | .ret,_,ret,_=>(ret,[])
 | .loop c,env,ret,_=>let l:=(nN c env ret []).1;let r:=nN c env ret l;(l,(En c,l)::r.2)
 |_,_,_,out=>(out,[])
def w4:List ResultVar->List Nat
 | []=> []
 | .tmp t::r=>t::w4 r
 | .cell p _::r=>p::w4 r
def vZ (marks:List Nat) (fn:Func) (c:Code):Nat->List Nat:=let ret:=w4 fn.results.toList;let g:=BX (nN c [] ret ret).2;match marks with
 | []=>g
 |m=> λid=>g id++m
def St.Pv (dead:List Nat) (st:St):St:=
 let s:St:= {st with tmps:=Hs ((List.range st.tmps.length).filter λt=>!dead.contains t) 0 st.tmps}
 let r1:=s.tmps.flatMap AV.refs
 let r2:=r1++(s.heap.filter λp=>r1.contains p.1).flatMap λp=>p.2.refs
 Zw ((s.heap.map (·.1)).filter λl=>!r2.contains l&&Nat.blt l Be) s
def Xf (ops:Array Oper) (t:Nat):Bool:=ops.toList.any λo=>o.dst==some t
def iC (Γ:Env) (ops:Array Oper) (draw:Bool) (st:St) (K:St->Prop):Prop:=
 (∃st',Qv T Γ ops draw st=some st'/\K st')\/
 (draw=true/\Region.noSelect ops=true/\ ∃aW,Fh T Γ ops (Kb ops) st=some aW/\
  (anyS T Γ ops K (ops.size-(Kb ops).length) (Ee (Kb ops) (Array.replicate ops.size false)) aW\/TL T Γ ops K (ops.size-(Kb ops).length) (Ee (Kb ops) (Array.replicate ops.size false)) aW))
def uQ (Γ:Env) (ops:Array Oper) (draw:Bool) (st:St) (K:St->Prop):Prop:=
 iC T Γ ops draw st K\/ ∃dead:List Nat,(dead.all (Xf ops))=true/\iC T Γ ops draw st λs=>K (s.Pv dead)
def DM (K:St->Prop) (Q:Ld->St->Prop):Ld->St->Prop
 | .normal,s=>K s
 |e,s=>Q e s
def tN (id:Nat) (Q:Ld->St->Prop):Ld->St->Prop
 | .exit JB,s=>if JB=id then Q .normal s else Q (.exit JB) s
 |e,s=>Q e s
def QX (ops:Array Oper) (t:Nat):Bool:=ops.toList.any λo=>match o.op with
 | .extract (.tmp s) _=>Nat.beq s t
 | .move (.tmp s)=>Nat.beq s t
 | .assign (.tmp s)=>Nat.beq s t
 |_=>false
def Oc (ops:Array Oper):Nat->List AV->List AV
 |_,[]=> []
 |i, .Mh l::r=>(if QX ops i=true then .Mh l else .undef)::Oc ops (i+1) r
 |i,v::r=>v::Oc ops (i+1) r
def St.kG (ops:Array Oper) (st:St):St:= {st with tmps:=Oc ops 0 st.tmps}
inductive Ns (Γ:Env) (live:Nat->List Nat):Code->St->(Ld->St->Prop)->Prop where
 |skip {st:St} {Q:Ld->St->Prop} :Q .normal st->Ns Γ live .skip st Q
 |label {l:Nat} {st:St} {Q:Ld->St->Prop} :Q .normal st->Ns Γ live (.label l) st Q
 |exit {id:Nat} {st:St} {Q:Ld->St->Prop} :Q (.exit id) st->Ns Γ live (.exit id) st Q
 |ret {st:St} {Q:Ld->St->Prop} :Q .ret st->Ns Γ live .ret st Q
 |region {id:Nat} {ops:Array Oper} {draw:Bool} {st:St} {Q:Ld->St->Prop} :uQ T (wG Γ draw) ops draw (st.kG ops) (Q .normal)->Ns Γ live (.region id ops draw) st Q
 |seq {x y:Code} {st:St} {Q:Ld->St->Prop} (Q1:Ld->St->Prop):Ns Γ live x st Q1->(∀s,Q1 .normal s->Ns Γ live y s Q)->(∀e s,e≠ .normal->Q1 e s->Q e s)->Ns Γ live (.seq x y) st Q
 |cond {c:Operand} {x y:Code} {st:St} {fr t:Bool} {Q:Ld->St->Prop} :st.ev c= .at (.data fr .bool t)->(t=true->Ns Γ live x st Q)->(t=false->Ns Γ live y st Q)->Ns Γ live (.cond c x y) st Q
 |block {id:Nat} {c:Code} {st:St} {Q:Ld->St->Prop} (Q1:Ld->St->Prop):Ns Γ live c st Q1->(∀e s,Q1 e s->tN id Q e s)->Ns Γ live (.block id c) st Q
 |loop {c:Code} {st:St} {Q:Ld->St->Prop} (Q1:Ld->St->Prop):Ns Γ live c (st.clean (live (En c))) Q1->(∀s,Q1 .normal s->Ns Γ live (.loop c) s Q)->(∀e s,e≠ .normal->Q1 e s->Q e s)->Ns Γ live (.loop c) st Q
def bR (st:St):List ResultVar->Option (List AV)
 | []=>some []
 | .tmp t::r=>(bR st r).map λl=>st.get t::l
 | .cell p t::r=>match Po T st t (st.get p),bR st r with
  |some v,some l=>some (v::l)
  |_,_=>none
def kR (s:Spec) (fn:Func) (st:St):Option (Bool×s.res.den):=
 match bR T st fn.results.toList with
 |some [v]=>if s.Hc then none else Ez st s.res v
 |some [v,u]=>if s.Hc then Dr st s.res [v,u] else none
 |some [v,u,t]=>if s.Hc then Dr st s.res [v,u,t] else none
 |_=>none
def Rx:(τ:Ty)->τ.den->List AV
 | .pair a r,x=> .at (.data a.flat a x.1)::Rx r x.2
 |_,_=> []
def iy (st:St):(c:CK)->AC->Option (c.den×List Nat)
 | .Gb τ,a=>if τ.flat||a.settled then (Dm st τ a).map λp=>(p.2,[]) else none
 | .row e te, .own l off len=>match st.at l with
  |some (.arr _ _ e' Qo xs)=>if h:e'=e/\Qo=te then some ((((h.1▸xs:List e.den).drop off).take len),[l]) else none
  |_=>none
 | .row _ _, .Lo=>some ([],[])
 | .Ha e te, .own l off len=>match st.at l with
  |some (.arr _ tr e' Qo xs)=>if h:e'=e/\Qo=te/\(tr||e.flat)=true then some ((((h.1▸xs:List e.den).drop off).take len),[l]) else none
  |some (.Gg e' Qo xs)=>if h:e'=e/\Qo=te then some ((((h.1▸xs:List e.den).drop off).take len),[l]) else none
  |_=>none
 | .Ha _ _, .Lo=>some ([],[])
 | .Bj e te _, .own l off len=>match st.at l with
  |some (.Bj e' Qo rows none _)=>if h:e'=e/\Qo=te/\off=0/\len=rows.length then some ((h.1▸rows:List (List e.den)),[l]) else none
  |_=>none
 |_,_=>none
def Uc (st:St):(cs:List CK)->List AC->Option (CKs.den cs×List Nat)
 | [],[]=>some ((),[])
 |c::r,a::as=>match iy st c a,Uc st r as with
  |some (x,t1),some (y,t2)=>some ((x,y),t1++t2)
  |_,_=>none
 |_,_=>none
def nv (st:St) (l:Nat):(c:CK)->Option c.den
 | .Gb _=>none
 | .row e te=>match st.at l with
  |some (.arr _ _ e' Qo xs)=>if h:e'=e/\Qo=te then some (h.1▸xs) else none
  |_=>none
 | .Ha e te=>match st.at l with
  |some (.Gg e' Qo xs)=>if h:e'=e/\Qo=te then some (h.1▸xs) else none
  |_=>none
 | .part _ _=>none
 | .Bj _ _ _=>none
def Oa (st:St):(k:Nat)->(cs:List (Bool×CK))->Option (IOs.den cs)
 |_,[]=>some ()
 |k,(true, .Gb _)::r=>Oa st (k+1) r
 |k,(true, .Bj _ _ _)::r=>Oa st (k+1) r
 |k,(true, .row e te)::r=>match nv st (Dt true k) (.row e te),Oa st (k+1) r with
  |some x,some y=>some (x,y)
  |_,_=>none
 |k,(true, .Ha e te)::r=>match nv st (Dt true k) (.Ha e te),Oa st (k+1) r with
  |some x,some y=>some (x,y)
  |_,_=>none
 |k,(true, .part e te)::r=>match nv st (Dt true k) (.row e te),Oa st (k+1) r with
  |some x,some y=>some (x,y)
  |_,_=>none
 |k,(false,_)::r=>Oa st (k+1) r
def Pd:(k:Nat)->List (Bool×CK)->List Nat
 |_,[]=> []
 |k,(true, .Gb _)::r=>Pd (k+1) r
 |k,(true, .Bj _ _ _)::r=>Pd (k+1) r
 |k,(true,_)::r=>Dt true k::Pd (k+1) r
 |k,(false,_)::r=>Pd (k+1) r
def Ir:(k:Nat)->List (Bool×CK)->List AC->Option (List AC)
 |_,_,[]=>some []
 |k,(true, .row _ _)::r, .own l _ _::as=>if Nat.beq l (Dt true k) then Ir (k+1) r as else none
 |k,(true, .Ha _ _)::r, .own l _ _::as=>if Nat.beq l (Dt true k) then Ir (k+1) r as else none
 |k,(false,_)::r,a::as=>(Ir (k+1) r as).map λl=>a::l
 |_,_,_=>none
def fZ (st:St):List AC->List (Bool×CK)->Prop
 | .own l off len::as,(true,_)::r=>(off=0/\match st.at l with
  |some (.arr _ _ _ _ xs)=>len=xs.length
  |some (.Gg _ _ xs)=>len=xs.length
  |_=>False)/\fZ st as r
 |_::as,(false,_)::r=>fZ st as r
 |_,_=>True
def EG (s:MSpec) (st:St) (l:List AV):Option (List AC×List Nat):=match s.rp with
 |none=>if s.Hc=Nat.blt 1 l.length then (ungroup s.Iw l).map λas=>(as,[]) else none
 |some tid=>match l with
  | [.at (.Gr m i)]=>match st.at m with
   |some (.var Tu vs)=>if Tu=tid/\i=0/\Nat.blt m Be=true then some (vs,[m]) else none
   |_=>none
  |_=>none
def tT (st:St) (n:Nat) (as:List AC):List (Nat×Nat)->Prop
 | []=>True
 |(k,j)::r=>(match as[j]? with
  |some (.own l _ _)=>match st.at l with
   |some (.Bj _ _ _ _ (some p))=>p.1=Dt false k/\n<=p.2/\Nat.blt k 1000=true
   |_=>False
  |_=>False)/\tT st n as r
def ic (s:MSpec) (fn:Func) (x:Ins.den s.ins) (st:St) (cs:List AC) (P:CKs.den s.outs×IOs.den s.ins->Prop):Prop:=
 match bR T st fn.results.toList with
 |none=>False
 |some l=>match EG s st l with
  |none=>False
  |some (as,ml)=>match Uc st s.outs (cs++as),Oa st 0 s.ins with
   |some (r,ls),some o=>(Yp (ml++ls++Pd 0 s.ins)&&Nat.blt s.ins.length 1000&&Nat.blt s.outs.length 1000&&s.PX)=true/\tT st (s.Fw x) (cs++as) s.keeps/\P (r,o)
   |_,_=>False
def MU (s:MSpec) (fn:Func) (x:Ins.den s.ins) (st:St) (P:CKs.den s.outs×IOs.den s.ins->Prop):Prop:=
 match s.ptr with
 |none=>ic T s fn x st [] P
 |some p=> ∃vs cs,st.at On=some (.var p.1 vs)/\vs.length=p.2/\Ir 0 s.ins vs=some cs/\fZ st vs s.ins/\ic T s fn x st cs P
def Za (s:MSpec) (as:List AC):List AV:=match s.ptr with
 |none=>Sa s.Ke as
 |some p=> .at (.Gr On 0)::Sa s.Ke (as.drop p.2)
def nJ (s:MSpec) (x:Ins.den s.ins):List (Nat×OB):=match s.ptr with
 |none=>Xz 0 s.ins x
 |some p=>Xz 0 s.ins x++ [(On, .var p.1 ((aA 0 s.ins x).take p.2))]
def Yd:List (Bool×CK)->Bool
 | []=>true
 |(true, .Bj _ _ _)::_=>false
 |_::r=>Yd r
def wB (s:MSpec):Bool:=Yd s.ins&&match s.ptr with
 |none=>true
 |some p=>Nat.ble p.2 s.ins.length
def WA (Γ:Env) (s:MSpec) (fn:Func) (x:Ins.den s.ins) (P:CKs.den s.outs×IOs.den s.ins->Prop):Prop:=
 (Nat.blt s.ins.length 1000&&wB s)=true/\ ∃c,fn.body=some c/\Ns T Γ (vZ T.marks fn c) c {tmps:=Za s (aA 0 s.ins x)++List.replicate (fn.ntmps-(Za s (aA 0 s.ins x)).length) .undef,heap:=nJ s x}
  (λe st=>(∀id,e≠ .exit id)/\MU T s fn x st P)
def MV (Γ:Env) (s:Spec) (fn:Func) (x:s.arg.den) (P:s.res.den->Prop):Prop:=
 ∃c,fn.body=some c/\Ns T Γ (vZ T.marks fn c) c {tmps:=Rx s.arg x++List.replicate (fn.ntmps-(Rx s.arg x).length) .undef,heap:= []}
  (λe st=>(∀id,e≠ .exit id)/\ ∃fr y,kR T s fn st=some (fr,y)/\(fr||!s.fresh)=true/\P y)
end Go.Proofs.Ytkkdpknjohcekaa
