/-
  Part 3 of the proof that the statement FnExactLowerBoundWithInverse holds.
-/
import Derived.Test.YtfolipnappekaaaGreatCLowerBoundWithInverse01
namespace Go.Proofs.YtfolipnappekaaaGreat
open Go.RowKit
def Dm:Nat->St->List AC->Option (List AC×St)
 |0,st,cs=>if cs.all (·.settled) then some (cs,st) else none
 |n+1,st,cs=>
  match cs.find? (λc=>!c.settled) with
  |none=>some (cs,st)
  |some (.own l _ _)=>match st.at l with
   |some (.arr fr _ e _ xs)=>Dm n (st.freeze l fr e xs) (cs.map (Bc l fr e xs))
   |some (.Da e _ xs)=>Dm n (st.freeze l false e xs) (cs.map (Bc l false e xs))
   |_=>none
  |some (.Fw l)=>match st.at l with
   |some (.Ok v m)=>Dm n (st.Eh l v m) (cs.map (Df l v m))
   |_=>none
  |some _=>none
def settle (st:St):AV->Option (AV×St)
 | .at (.own l off len)=>match st.at l with
  |some (.arr fr _ e _ xs)=>some (.at (.data fr (.slice e) ((xs.drop off).take len)),st.freeze l fr e xs)
  |some (.Da e _ xs)=>some (.at (.data false (.slice e) ((xs.drop off).take len)),st.freeze l false e xs)
  |_=>none
 | .at (.Fw l)=>match st.at l with
  |some (.Ok v m)=>some (.at (.data false (.smap v) m),st.Eh l v m)
  |_=>none
 | .at a=>if a.settled then some (.at a,st) else none
 | .agg cs=>(Dm cs.length st cs).map λp=>(.agg p.1,p.2)
 | .Uo fr τ x=>some (.Uo fr τ x,st)
 | .Hv _=>none
def AC.refs:AC->List Nat
 | .own l _ _| .Dp l _| .Fp l _| .Fw l| .sub l _ _| .Fl l _ _=> [l]
 | .clo _ Bv=>Bv.map (·.1)
 |_=> []
def Su:List Nat->Bool
 | []=>true
 |a::r=>!r.contains a&&Su r
def Ty.tree:Ty->Bool
 | .int _| .bool| .str| .unit=>true
 | .slice e=>e.tree
 | .pair a r=>a.tree&&r.tree
 |_=>false
def Lr (st:St):AC->Bool
 | .data _ τ _=>τ.flat
 | .Hi=>true
 | .own l _ _=>match st.at l with
  |some (.arr _ tr e _ _)=>tr||e.flat
  |some (.Da _ _ _)=>true
  |_=>false
 |_=>false
def Ms (st:St):AV->Bool
 | .at a=>Lr st a
 | .agg cs=>cs.all (Lr st)&&Su (cs.flatMap AC.refs)
 |_=>false
def Ak:Nat:=1000000000
variable (T:Tab)
def CW (t:TypeId) (τ:Ty) (i:Nat):Option TypeId:=
 if τ.Ab then (List.range 24).findSome? λf=>match T.off t f with
  |some (o,u)=>if o=i then some u else none
  |none=>none
 else some t
def Tab.DE (te:TypeId):Option Ty:=if T.JW.contains te then (match T.ty te with
 |some (.slice e)=>some e
 |_=>none) else none
def Yh (te:TypeId) (e:Ty):OB:=match T.DE te with
 |some e'=> .Ah e' te [] none none
 |none=> .arr (T.mY||e.flat) T.uQ e te []
def Nn (b:OB) (key l i:Nat) (st:St):St:=
 match st.at l with
 |some (.var _ vs)=>match vs[i]? with
  |some .Hi=>
   let s1:=st.new key b
   match s1.at l with
   |some (.var tid vs')=>s1.Fk l (.var tid (Nr vs' i (.own key 0 0)))
   |_=>s1
  |_=>st
 |_=>st
def aA (l:Nat) (t:TypeId) (τ:Ty):Nat->Nat->St->St
 |0,_,st=>st
 |n+1,i,st=>
  aA l t τ n (i+1) (match ((CW T t τ i).bind T.elem).bind λte=>(T.ty te).map λe=>(te,e) with
   |some (te,e)=>Nn (Yh T te e) (100000+l*100+i) l i st
   |none=>st)
def Zc (l off:Nat) (t:TypeId) (τ:Ty):Nat->Nat->St->St
 |0,_,st=>st
 |n+1,i,st=>
  Zc l off t τ n (i+1) (match ((CW T t τ i).bind T.elem).bind λte=>(T.ty te).map λe=>(te,e) with
   |some (te,e)=>Nn (Yh T te e) (100000+l*100+(off+i)) l (off+i) st
   |none=>st)
def zeroCells:(τ:Ty)->List AC
 | .unit=> []
 | .pair a r=>zeroCells a++zeroCells r
 | .slice _=> [.Hi]
 | .oslice _=> [.Hi]
 | .ptr _=> [.Pq]
 | .optr _=> [.Pq]
 | .clo _ _=> [.undef]
 |τ=> [.data true τ τ.zero]
def cellsOf (τ:Ty):AV->Option (List AC)
 | .agg cs=>if τ.Ab&&cs.length==τ.size then some cs else none
 | .at (.data fr Iw x)=>if Iw=τ then some (Lw fr Iw x) else none
 | .at .undef=>none
 | .at .skip=>none
 | .at a=>if τ.Ab then none else some [a]
 |_=>none
def mkVar (st:St) (l:Nat) (t:TypeId) (τ:Ty) (cs:List AC):Option (AV×St):=
 if Ak<=100000+l*100+cs.length then none else
 let s:=aA T l t τ cs.length 0 (st.new l (.var t (cs.map (Ay l))))
 match s.at l with
 |some (.var _ _)=>some (.at (.Dp l 0),s)
 |_=>none
def Bo {α:Type} (xs:List α) (i:Nat) (ys:List α):List α:=xs.take i++ys++xs.drop (i+ys.length)
def Nv (st:St) (t:TypeId) (p v:AV):Option St:=
 match T.ty t,p with
 |some τ, .at (.Dp l i)=>match st.at l,cellsOf τ v with
  |some (.var tid vs),some cs=>if i+cs.length<=vs.length then some (if τ.Ab&&Nat.blt (100000+l*100+(i+cs.length)) Ak then Zc T l i t τ cs.length 0 (st.Fk l (.var tid (Bo vs i cs))) else st.Fk l (.var tid (Bo vs i cs))) else none
  |_,_=>none
 |some τ, .at (.Fp l j)=>match settle st v with
  |some (v',st')=>match st'.at l,Cq st' τ v' with
   |some (.arr fr tr e tid xs),some (Ow,x)=>if h:τ=e then (if j<xs.length then some (st'.Fk l (.arr (fr&&Ow) (tr&&(Ms st v&&e.tree)) e tid (xs.set j (h▸x)))) else none) else none
   |_,_=>none
  |none=>none
 |_,_=>none
def Bj:Nat:=4294967296
def Iq (st:St) (dst:Nat) (t:TypeId) (x y:Operand):Option (AV×St):=
 match T.elem t with
 |none=>none
 |some te=>match T.ty te,settle st (st.ev y) with
  |some e,some (y',st')=>match Cq st' (.slice e) y' with
   |none=>none
   |some (m7,ys)=>
    let tr2:=e.flat||(Ms st (st.ev y)&&e.tree)
    match st'.ev x with
    | .at .Hi=>if ys.length<=Bj/\dst<Ak then some (.at (.own dst 0 (0+ys.length)),(st'.new dst (.arr (T.mY||e.flat) T.uQ e te [])).new dst (.arr ((T.mY||e.flat)&&(m7||e.flat)) (T.uQ&&tr2) e te (((([]:List e.den).drop 0).take 0)++ys))) else none
    | .at (.own l off len)=>match st'.at l with
     |some (.arr fr tr e' tid xs)=>if h:e'=e/\tid=te then
       (if len+ys.length<=Bj/\l<Ak then
        some (.at (.own l 0 (len+ys.length)),st'.new l (.arr (fr&&(m7||e.flat)) (tr&&tr2) e te ((((h.1▸xs:List e.den).drop off).take len)++ys))) else none)
      else none
     |_=>none
    |_=>none
  |_,_=>none
def Kh (st:St) (l i m:Nat) (e:Ty) (te tid:TypeId) (rows:List (List e.den)) (kp:Option (Nat×Nat)):St:=
 (st.Fk l (.Ah e te rows (some i) kp)).new m (.arr false false e tid (rows.getD i []))
def Lf (st:St) (dst:Nat) (t:TypeId) (x y:Operand):Option (AV×St):=
 match x with
 | .tmp tx=>match st.get tx with
  | .at (.sub l i _)=>match st.at l,T.elem t with
   |some (.Ah e te rows none kp),some tid=>if (Nat.blt l Ak&&(Nat.blt dst Ak&&!Nat.beq dst l))=true then Iq T ((Kh st l i dst e te tid rows kp).put (some tx) (.at (.own dst 0 (rows.getD i []).length))) dst t x y else none
   |_,_=>none
  |_=>Iq T st dst t x y
 |_=>Iq T st dst t x y
def gA:Ty->Bool
 | .int _| .bool| .str| .slice _| .oslice _=>true
 |_=>false
def aX:Ty->Bool
 | .unit=>true
 | .pair a r=>aX a&&aX r
 |e=>gA e
def Ux (st:St) (dst:Nat) (t:TypeId) (l c:AV):Option (AV×St):=
 match T.elem t,l,c with
 |some te, .at (.data _ (.int _) n), .at (.data _ (.int _) m)=>match T.ty te with
  |some e=>if TR n (Bj+1)=true/\n=m/\aX e=true/\dst<Ak then some (.at (.own dst 0 n.toNat),st.new dst (.arr (T.mY||e.flat) (T.uQ&&e.tree) e te (List.replicate n.toNat e.zero))) else none
  |none=>none
 |_,_,_=>none
def Gp (e:Ty):Nat->List (Nat×Operand)->St->Option (Bool×Bool×List e.den×St)
 |_,[],st=>some (true,true,[],st)
 |i,(j,x)::r,st=>
  if i=j then match settle st (st.ev x) with
   |some (v,st')=>match Cq st' e v with
    |some (fr,y)=>match Gp e (i+1) r st' with
     |some (Ow,OA,ys,Ahf)=>some (fr&&Ow,Ms st (st.ev x)&&e.tree&&OA,y::ys,Ahf)
     |none=>none
    |none=>none
   |none=>none
  else none
def Hl (st:St) (dst:Nat) (t:TypeId) (len:Nat) (parts:Array (Nat×Operand)):Option (AV×St):=
 match T.elem t with
 |none=>none
 |some te=>match T.ty te with
  |none=>none
  |some e=>if parts.size=len/\len<=64/\e.size<=64/\dst<Ak then (match Gp e 0 parts.toList st with
   |some (fr,tr,ys,st')=>some (.at (.own dst 0 len),st'.new dst (.arr ((T.mY||e.flat)&&fr) (T.uQ&&tr) e te ys))
   |none=>none) else none
def Nu (st:St) (dst:Nat) (t:TypeId):Option (AV×St):=
 match T.mapOf t with
 |some v=>if dst<Ak then some (.at (.Fw dst),st.new dst (.Ok v λ_=>none)) else none
 |none=>none
def dp {α:Type} (m:ByteArray->Option α) (k:ByteArray) (x:α):ByteArray->Option α:= λs=>if s=k then some x else m s
def Eo (st:St) (t:TypeId) (m k x:AV):Option St:=
 match T.mapOf t,m,k with
 |some v, .at (.Fw l), .at (.data _ .str s)=>match st.at l,Cq st v x with
  |some (.Ok v' f),some (_,y)=>if h:v'=v/\v.flat=true/\v.Ab=false then some (st.Fk l (.Ok v (dp (h.1▸f:ByteArray->Option v.den) s y))) else none
  |_,_=>none
 |_,_,_=>none
def cf (st:St) (t t':TypeId) (x y:AV):Option (AV×St):=
 match x,(T.elem t).bind T.ty with
 | .at (.own l off len),some e=>if T.elem t=T.elem t'/\e.flat=true/\e.size=1 then match st.at l,Cq st (.slice e) y with
  |some (.arr fr _ e' tid xs),some (_,ys)=>if h:e'=e/\T.elem t=some tid then
    some (.at (.data true (.int .i64) (min len ys.length:Nat)),st.Fk l (.arr fr false e tid (Bo (h.1▸xs:List e.den) off (ys.take len))))
   else none
  |_,_=>none
  else none
 |_,_=>none
def evalClear (st:St) (t:TypeId) (x:AV):Option St:=
 match x,(T.elem t).bind T.ty with
 | .at (.own l off len),some e=>if e.flat=true/\gA e=true then match st.at l with
  |some (.arr fr _ e' tid xs)=>if h:e'=e/\T.elem t=some tid then
    some (st.Fk l (.arr fr false e tid (Bo (h.1▸xs:List e.den) off (List.replicate len e.zero))))
   else none
  |_=>none
  else none
 |_,_=>none
def Hk (st:St) (t:TypeId):List (Nat×Operand)->List AC->Option (List AC)
 | [],cs=>some cs
 |(i,x)::r,cs=>
  match T.off t i with
  |some (o,u)=>match T.ty u with
   |some ρ=>match cellsOf ρ (st.ev x) with
    |some c=>if o+c.length<=cs.length then Hk st t r (Bo cs o c) else none
    |none=>none
   |none=>none
  |none=>none
def Qc (st:St) (t:TypeId) (parts:Array (Nat×Operand)):Option AV:=
 match T.ty t with
 |none=>none
 |some τ=>if τ.Ab then (Hk T st t parts.toList (zeroCells τ)).map .agg else none
def Bq (io:Bool) (k:Nat):Nat:=if io then 1000000000+k else 500000+k
def Fq (k:Nat):Nat:=600000+k
def MD (dst:Nat) (k:Nat):Nat:=1000000*(dst+1)+k
def Ml:List (Option Nat)->List AC->List AV
 |none::s,a::as=> .at a::Ml s as
 |some n::s,as=> .agg (as.take n)::Ml s (as.drop n)
 |_,_=> []
def Ge:List (Option Nat)->List Value->List Value
 |none::s,u::us=>u::Ge s us
 |some n::s,us=> .agg (us.take n).toArray::Ge s (us.drop n)
 |_,_=> []
def ungroup:List (Option Nat)->List AV->Option (List AC)
 | [],[]=>some []
 |none::s, .at a::as=>(ungroup s as).map λr=>a::r
 |some n::s, .agg cs::as=>if cs.length=n then (ungroup s as).map λr=>cs++r else none
 |some n::s, .at (.data fr τ x)::as=>if τ.Ab=true/\(Lw fr τ x).length=n then (ungroup s as).map λr=>Lw fr τ x++r else none
 |_,_=>none
def ef (l:Nat):(c:CK)->c.den->Option OB
 | .Ee _,_=>none
 | .row e te,xs=>some (.arr false false e te xs)
 | .Dq e te,xs=>some (.Da e te xs)
 | .part e te,x=>some (.arr false false e te x.1)
 | .Ah e te kp,xs=>some (.Ah e te xs none (if kp then some (l,List.length xs) else none))
def Aek (l:Nat):(c:CK)->c.den->AC
 | .Ee τ,x=> .data τ.flat τ x
 | .row _ _,xs=> .own l 0 (List.length xs)
 | .Dq _ _,xs=> .own l 0 (List.length xs)
 | .part _ _,x=> .own l x.2.1 x.2.2
 | .Ah _ _ _,xs=> .own l 0 (List.length xs)
def c8 {α:Type} (l:Nat):Option α->List (Nat×α)->List (Nat×α)
 |none,r=>r
 |some b,r=>(l,b)::r
def Sb:(k:Nat)->(cs:List (Bool×CK))->Ins.den cs->List (Nat×OB)
 |_,[],_=> []
 |k,p::r,x=>c8 (Bq p.1 k) (ef (Bq p.1 k) p.2 x.1) (Sb (k+1) r x.2)
def Vf:(k:Nat)->(cs:List (Bool×CK))->Ins.den cs->List AC
 |_,[],_=> []
 |k,p::r,x=>Aek (Bq p.1 k) p.2 x.1::Vf (k+1) r x.2
inductive Loc where
 |row (l:Nat)
 |sub (l i c:Nat)
 |view (l:Nat)
 deriving DecidableEq
def Loc.Pp:Loc->Nat
 | .row l=>l
 | .sub l _ _=>l
 | .view l=>l
def Loc.reads:Loc->Bool
 | .view _=>true
 |_=>false
def Vx (st:St) (ls:List Nat):Bool:=ls.all λl=>match st.at l with|some (.var _ vs)=>vs.all (·.settled)|_=>false
def views (k:Nat) (ls:List Nat):List (Nat×Loc):=ls.map λl=>(Bq false k, .view l)
def Hc (st:St) (io:Bool) (k:Nat):(c:CK)->AC->Option (c.den×List (Nat×Loc))
 | .Ee τ, .own l off len=>(Bl st τ (.own l off len)).map λp=>(p.2,[(Bq false k, .view l)])
 | .Ee τ, .clo g Bv=>if Vx st (Bv.map (·.1))&&!τ.Ab then (Ff st τ (.clo g Bv)).map λp=>(p.2,views k (Bv.map (·.1))) else none
 | .Ee τ, .Dp l i=>if Vx st [l]&&!τ.Ab then (Ff st τ (.Dp l i)).map λp=>(p.2,views k [l]) else none
 | .Ee τ, .sub l i c=>(Bl st τ (.sub l i c)).map λp=>(p.2,[(Bq false k, .view l)])
 | .Ee τ,a=>if τ.flat||a.settled then (Bl st τ a).map λp=>(p.2,[]) else none
 | .row e te, .own l off len=>match st.at l with
  |some (.arr _ _ e' La xs)=>if h:e'=e/\La=te/\off=0/\len=xs.length then some ((h.1▸xs:List e.den),[(Bq io k, .row l)]) else none
  |_=>none
 | .row e _, .sub l i c=>match st.at l with
  |some (.Da e' _ xs)=>if h:e'= .slice e/\e.flat=true/\io=true/\c=0 then xs[i]?.map λy=>((h.1▸y:(Ty.slice e).den),[(Bq io k, .sub l i c)]) else none
  |_=>none
 | .row _ _, .Hi=>some ([],[])
 | .Dq e te, .own l off len=>match st.at l with
  |some (.Da e' La xs)=>if h:e'=e/\La=te/\off=0/\len=xs.length then some ((h.1▸xs:List e.den),[(Bq io k, .row l)]) else none
  |_=>none
 | .Dq e _, .sub l i c=>match st.at l with
  |some (.Da e' _ xs)=>if h:e'= .slice e/\io=true/\c=0 then xs[i]?.map λy=>((h.1▸y:(Ty.slice e).den),[(Bq io k, .sub l i c)]) else none
  |_=>none
 | .Dq _ _, .Hi=>some ([],[])
 | .part e te, .own l off len=>match st.at l with
  |some (.arr _ _ e' La xs)=>if h:e'=e/\La=te/\e.flat=true/\io=true then some (((h.1▸xs:List e.den),off,len),[(Bq io k, .row l)]) else none
  |_=>none
 | .Ah e te _, .own l off len=>match st.at l with
  |some (.Ah e' La rows none _)=>if h:e'=e/\La=te/\off=0/\len=rows.length/\io=false then some ((h.1▸rows:List (List e.den)),[(Bq io k, .row l)]) else none
  |_=>none
 |_,_=>none
def aT (st:St):(k:Nat)->(cs:List (Bool×CK))->List AC->Option (Ins.den cs×List (Nat×Loc))
 |_,[],[]=>some ((),[])
 |k,p::r,a::as=>match Hc st p.1 k p.2 a,aT st (k+1) r as with
  |some (x,t1),some (y,t2)=>some ((x,y),t1++t2)
  |_,_=>none
 |_,_,_=>none
def Wc (st:St):(c:CK)->c.den->AC->Option St
 | .row e _,ys, .own l _ len=>match st.at l with
  |some (.arr fr tr e' te xs)=>if h:e=e'/\List.length ys=len/\xs.length=len then some (st.Fk l (.arr (fr&&e'.flat) (tr&&e'.flat) e' te (h.1▸ys))) else none
  |_=>none
 | .Dq e _,ys, .own l _ len=>match st.at l with
  |some (.Da e' te xs)=>if h:e=e'/\List.length ys=len/\xs.length=len then some (st.Fk l (.Da e' te (h.1▸ys))) else none
  |_=>none
 | .row e _,ys, .sub l i _=>match st.at l with
  |some (.Da e' te xs)=>if h: .slice e=e' then (match xs[i]? with
   |some y=>if List.length ys=List.length (h▸y:(Ty.slice e).den) then some (st.Fk l (.Da e' te (xs.set i (h▸(ys:(Ty.slice e).den))))) else none
   |none=>none) else none
  |_=>none
 | .Dq e _,ys, .sub l i _=>match st.at l with
  |some (.Da e' te xs)=>if h: .slice e=e' then (match xs[i]? with
   |some y=>if List.length ys=List.length (h▸y:(Ty.slice e).den) then some (st.Fk l (.Da e' te (xs.set i (h▸(ys:(Ty.slice e).den))))) else none
   |none=>none) else none
  |_=>none
 |_,_, .Hi=>some st
 |_,_,_=>none
def AM (st:St) (e:Ty) (ys:List e.den):AC->Option St
 | .own l _ _=>match st.at l with
  |some (.arr fr tr e' te xs)=>if h:e=e'/\List.length ys=xs.length then some (st.Fk l (.arr fr tr e' te (h.1▸ys))) else none
  |_=>none
 |_=>none
def Ea:(cs:List (Bool×CK))->IOs.den cs->List AC->St->Option St
 | [],_,_,st=>some st
 |(true, .Ee _)::r,x,_::as,st=>Ea r x as st
 |(true, .row e te)::r,x,a::as,st=>match Wc st (.row e te) x.1 a with
  |some st'=>Ea r x.2 as st'
  |none=>none
 |(true, .Dq e te)::r,x,a::as,st=>match Wc st (.Dq e te) x.1 a with
  |some st'=>Ea r x.2 as st'
  |none=>none
 |(true, .part e _)::r,x,a::as,st=>match AM st e x.1 a with
  |some st'=>Ea r x.2 as st'
  |none=>none
 |(true, .Ah _ _ _)::r,x,_::as,st=>Ea r x as st
 |(false,_)::r,x,_::as,st=>Ea r x as st
 |_,_,_,_=>none
def Ax (dead part:List Nat) (c:AC):AC:=if c.refs.any (λl=>dead.contains l) then .undef else match c with
 | .sub l i c=>if part.contains l then .undef else .sub l i c
 | .Fl l i c=>if part.contains l then .undef else .Fl l i c
 |c=>c
def Qa:List (Nat×OB)->List Nat->List (Nat×OB)
 | [],_=> []
 |(k,b)::r,dead=>if dead.contains k then Qa r dead else (k,b)::Qa r dead
def St.Wm (st:St) (dead part:List Nat):St:=let s:=st.Gh (Ax dead part); {s with heap:=Qa s.heap dead}
def Mw (st:St) (l j m:Nat) (e:Ty) (te:TypeId) (rows:List (List e.den)) (xs:List e.den) (kp:Option (Nat×Nat)):St:=
 (st.Wm [m] [l]).Fk l (.Ah e te (rows.set j xs) none kp)
def Vi (j:Nat):Option (Nat×Nat)->Option (Nat×Nat)
 |none=>none
 |some p=>some (p.1,min p.2 j)
def Va (st:St) (t:TypeId) (p v:AV):Option St:=
 match T.ty t,p with
 |some τ, .at (.Fl l i j)=>match settle st v with
  |some (v',st')=>match st'.at l,Cq st' τ v' with
   |some (.Ah e te rows none kp),some (_,x)=>if h:τ=e then some (st'.Fk l (.Ah e te (rows.set i ((rows.getD i []).set j (h▸x))) none kp)) else none
   |_,_=>none
  |none=>none
 |some τ, .at (.Fp l j)=>match st.at l,v with
  |some (.Ah e te rows out kp), .at (.own m off len)=>match st.at m with
   |some (.arr _ _ e' _ xs)=>if h:e'=e/\(Nat.blt l Ak&&(!Nat.beq m l&&!τ.Ab))=true/\off=0/\len=xs.length/\(out=none\/out=some j) then some (Mw st l j m e te rows (h.1▸xs) (Vi j kp)) else none
   |_=>none
  |_,_=>none
 |_,_=>none
def DF (st:St):AV->Bool
 | .at (.Fl _ _ _)=>true
 | .at (.Fp l _)=>match st.at l with
  |some (.Ah _ _ _ _ _)=>true
  |_=>false
 |_=>false
def Jy (st:St) (t:TypeId) (p v:AV):Option St:=match DF st p with
 |true=>Va T st t p v
 |false=>Nv T st t p v
def Kv (st:St) (k m:Nat) (b:OB):St:=let s:=st.Wm [m,k] []; {s with heap:=Iy s.heap k b}
def Yp (t:TypeId):Option (TypeId×Ty):=(T.elem t).bind λte=>(T.DE te).map λe=>(te,e)
def Qf (st:St) (dst:Nat) (t:TypeId) (l c:AV):Option (AV×St):=
 match Yp T t with
 |none=>Ux T st dst t l c
 |some (te,e)=>match l,c with
  | .at (.data _ (.int _) n), .at (.data _ (.int _) m)=>if TR n (Bj+1)=true/\n=m/\dst<Ak then some (.at (.own dst 0 n.toNat),Kv st dst dst (.Ah e te (List.replicate n.toNat []) none none)) else none
  |_,_=>none
def Em (st:St) (dst:Nat) (t:TypeId) (len:Nat) (parts:Array (Nat×Operand)):Option (AV×St):=
 match Yp T t with
 |none=>Hl T st dst t len parts
 |some (te,e)=>match parts.toList with
  | [(0,x)]=>match st.ev x with
   | .at (.own m off ln)=>match st.at m with
    |some (.arr _ _ e' _ xs)=>if h:e'=e/\(Nat.beq len 1&&(Nat.blt dst Ak&&Nat.blt m Ak))=true/\off=0/\ln=xs.length then some (.at (.own dst 0 1),Kv st dst m (.Ah e te [h.1▸xs] none none)) else none
    |_=>none
   |_=>none
  |_=>none
def Lg (st:St) (dst:Nat) (t:TypeId) (x y:Operand):Option (AV×St):=
 match Yp T t with
 |none=>Lf T st dst t x y
 |some (te,e)=>match st.ev x,st.ev y with
  | .at (.own l off len), .at (.own m ME nE)=>match st.at l,st.at m with
   |some (.Ah e1 te1 A none _),some (.Ah e2 qC B none _)=>
    if h:(e1=e/\e2=e)/\(decide (te1=te)&&decide (qC=te)&&(Nat.blt l Ak&&(Nat.blt m Ak&&!Nat.beq m l)))=true/\(off=0/\len=A.length)/\(ME=0/\nE=B.length)/\0<B.length/\A.length+B.length<=Bj then
     some (.at (.own l 0 (A.length+B.length)),Kv st l m (.Ah e te ((h.1.1▸A:List (List e.den))++(h.1.2▸B:List (List e.den))) none none))
    else none
   |_,_=>none
  |_,_=>none
def pR (fr:Bool):(c:CK)->c.den->Option OB
 | .Ee _,_=>none
 | .row e te,xs=>some (.arr (fr&&e.flat) false e te xs)
 | .Dq e te,xs=>some (.Da e te xs)
 | .part e te,x=>some (.arr (fr&&e.flat) false e te x.1)
 | .Ah e te _,xs=>some (.Ah e te xs none none)
def wQ (H:List (Nat×OB)) (l:Nat):Option OB->List (Nat×OB)
 |some b=>Iy H l b
 |none=>H
def Qo (fr:Bool) (key:Nat->Nat):(k:Nat)->(cs:List CK)->CKs.den cs->List (Nat×OB)->List (Nat×OB)
 |_,[],_,H=>H
 |k,c::r,x,H=>Qo fr key (k+1) r x.2 (wQ H (key k) (pR fr c x.1))
def Vm (key:Nat->Nat):(k:Nat)->(cs:List CK)->CKs.den cs->List AC
 |_,[],_=> []
 |k,c::r,x=>(match c,x.1 with
  | .Ee τ,y=> .data τ.flat τ y
  | .row _ _,xs=> .own (key k) 0 (List.length xs)
  | .Dq _ _,xs=> .own (key k) 0 (List.length xs)
  | .Ah _ _ _,xs=> .own (key k) 0 (List.length xs)
  | .part _ _,_=> .undef)::Vm key (k+1) r x.2
def Sv:List (Option Nat)->List AC->List (Bool×List AC)
 |none::s,a::as=>(false,[a])::Sv s as
 |some n::s,as=>(true,as.take n)::Sv s (as.drop n)
 |_,_=> []
def Acd (Dh:Bool) (sh:List (Option Nat)) (as:List AC):Option AV:=
 if Dh then some (.Hv (Sv sh as)) else match Ml sh as with
  | [v]=>some v
  | []=>some .undef
  |_=>none
def gQ (tks:List (Nat×Loc)):List Nat:=(tks.filter λt=>Nat.blt t.1 Ak&&!t.2.reads).map λt=>t.2.Pp
def whole (tks:List (Nat×Loc)):List Nat:=tks.flatMap λt=>match t.2 with| .row l=> [l]|_=> []
def uV (tks:List (Nat×Loc)):List Nat:=(tks.filter λt=>t.2.reads).map λt=>t.2.Pp
def x4 (ins:List (Bool×CK)) (te:TypeId) (used:List Nat):List (Nat×Loc)->Option Nat
 | []=>none
 |(k, .row l)::r=>if Nat.blt k Ak&&(!used.contains l&&(match ins[k-500000]? with
   |some (false, .row _ La)=>decide (La=te)
   |some (false, .Dq _ La)=>decide (La=te)
   |some (false, .Ah _ La _)=>decide (La=te)
   |_=>false)) then some l else x4 ins te used r
 |_::r=>x4 ins te used r
def zD (ins:List (Bool×CK)) (tks:List (Nat×Loc)) (d:Nat):(k:Nat)->(used:List Nat)->List CK->List Nat
 |_,_,[]=> []
 |k,used,c::r=>match (match c with
   | .row _ te=>x4 ins te used tks
   | .Dq _ te=>x4 ins te used tks
   | .Ah _ te _=>x4 ins te used tks
   |_=>none) with
  |some l=>l::zD ins tks d (k+1) (l::used) r
  |none=>MD d k::zD ins tks d (k+1) used r
def gM (s:MSpec) (tks:List (Nat×Loc)) (d:Nat):List Nat:=zD s.ins tks d 0 [] s.outs
def Bu (ks:List Nat) (j:Nat):Nat:=match ks[j]? with
 |some l=>l
 |none=>Ak+j
def tF (ks:List Nat) (n:Nat):Bool:=Nat.beq ks.length n&&(Su ks&&ks.all λl=>Nat.blt l Ak)
def DA (st:St) (l:List Nat):Bool:=l.all λk=>match st.at k with|some (.arr fr _ _ _ _)=>fr|_=>false
def DZ (st:St) (s:MSpec) (args:List AV):Option (List Nat×List AC×List AV):=
 match s.ptr with
 |none=>some ([],[],args)
 |some p=>match args with
  | .at (.Dp l i)::rest=>match st.at l with
   |some (.var tid vs)=>if tid=p.1/\vs.length=p.2/\i=0 then some ([l],vs,rest) else none
   |_=>none
  |_=>none
def Oz:List (Bool×CK)->List AC->Bool
 |(true, .row _ _)::r, .own _ _ _::as=>Oz r as
 |(true, .Dq _ _)::r, .own _ _ _::as=>Oz r as
 |(true,_)::_,_::_=>false
 |(false,_)::r,_::as=>Oz r as
 |_,as=>as.isEmpty
def bt {α:Type} :List (Bool×CK)->List α->List α->List α
 |(true,_)::r,v::vs,as=>v::bt r vs as
 |(false,_)::r,_::vs,a::as=>a::bt r vs as
 |_,vs,_=>vs
def oa:List (Bool×CK)->Nat->Nat
 |(true,_)::r,n+1=>oa r n
 |(false,_)::r,n+1=>oa r n+1
 |_,_=>0
def MSpec.Tf (s:MSpec):Nat:=match s.ptr with|none=>0|some p=>oa s.ins p.2
def lI (ins:List (Bool×CK)) (as:List AC) (pl:List Nat) (st:St):St:=
 match pl with
 | []=>st
 |l::_=>match st.at l with
  |some (.var tid vs)=>st.Fk l (.var tid (bt ins vs as))
  |_=>st
def Mt (d:Nat):Nat:=MD d 999
def gf (s:MSpec) (d:Nat):List Nat:=match s.rp with|none=> []|some _=> [Mt d]
def Lu (s:MSpec) (tks:List (Nat×Loc)) (d:Nat):List Nat:=gM s tks d++gf s d
def ir (H:List (Nat×OB)) (l:Nat):Bool:=match Ad H l with
 |some (.Ah _ _ _ _ _)=>true
 |_=>false
def Vh (H:List (Nat×OB)) (ks:List Nat) (tks:List (Nat×Loc)):List (Nat×Nat)->List Nat
 | []=> []
 |(k,j)::r=>match tks.find? (λt=>Nat.beq t.1 (Bq false k)),ks[j]? with
  |some (_, .row l),some l'=>if Nat.beq l' l&&ir H l then l::Vh H ks tks r else Vh H ks tks r
  |_,_=>Vh H ks tks r
def m8 (H:List (Nat×OB)) (l:Nat):Nat:=match Ad H l with
 |some (.Ah _ _ rows _ _)=>rows.length
 |_=>0
def Xy (H:List (Nat×OB)) (ls:List Nat) (n:Nat):List AV->Bool
 | []=>true
 | .at (.sub l i _)::r=>(!ls.contains l||(Nat.blt i n&&Nat.blt i (m8 H l)))&&Xy H ls n r
 |_::r=>Xy H ls n r
def Gv (ls:List Nat):List AV->List AV->List AV
 | .at (.sub l i c)::r,v::vs=>(if ls.contains l then .at (.sub l i c) else v)::Gv ls r vs
 |_::r,v::vs=>v::Gv ls r vs
 |_,vs=>vs
def XB:Option OB->Option (Nat×Nat)
 |some (.Ah _ _ _ _ kp)=>kp
 |_=>none
def OB.xO (b:OB) (kp:Option (Nat×Nat)):OB:=match b with
 | .Ah e te rows out _=> .Ah e te rows out kp
 |b=>b
def Xs (H0:List (Nat×OB)) (ls:List Nat) (n:Nat):List (Nat×OB)->List (Nat×OB)
 | []=> []
 |(l,b)::r=>(l,if ls.contains l then b.xO (Vi n (XB (Ad H0 l))) else b)::Xs H0 ls n r
def fR (bx st:St) (ls:List Nat) (n:Nat):St:=match ls with
 | []=>st
 |_=> {tmps:=Gv ls bx.tmps st.tmps,heap:=Xs bx.heap ls n st.heap}
def RE (s:MSpec) (d:Nat) (as:List AC):Option AV:=match s.rp with
 |none=>Acd s.Dh s.Ef as
 |some _=>some (.at (.Dp (Mt d) 0))
def fw (st st1:St) (d:Nat) (s:MSpec) (pl:List Nat) (tks:List (Nat×Loc)) (r:CKs.den s.outs):St:=
 let ks:=Lu s tks d
 let key:=Bu ks
 let st2:=lI s.ins (Vm key 0 s.outs r) pl (st1.Wm (gQ tks++ks++(if s.flat then [] else uV tks)) (whole tks))
 {st2 with heap:=Qo (DA st (gQ tks)) key 0 s.outs r (wQ st2.heap (Mt d) (s.rp.map λtid=> .var tid ((Vm key 0 s.outs r).drop s.Tf)))}
def Qd (st:St) (dst:Option Nat) (s:MSpec) (args:List AV):Option (AV×St):=
 match DZ st s args with
 |none=>none
 |some (pl,vs,rest)=>match ungroup s.Fc rest with
 |none=>none
 |some ja=>match aT st 0 s.ins (vs++ja) with
  |none=>none
  |some (x,tks)=>if Su (tks.map λt=>t.2.Pp)&&tF (Lu s tks (dst.getD 0)) (s.outs.length+(gf s (dst.getD 0)).length)&&Nat.blt s.outs.length 1000&&Nat.blt s.ins.length 1000&&(Oz s.ins vs&&pl.all λl=>!((tks.map λt=>t.2.Pp)++Lu s tks (dst.getD 0)).contains l) then match s.fn x with
   |none=>none
   |some (r,o)=>match Ea s.ins o (vs++ja) st with
    |none=>none
    |some st1=>match RE s (dst.getD 0) ((Vm (Bu (Lu s tks (dst.getD 0))) 0 s.outs r).drop s.Tf) with
     |none=>none
     |some v=>if Xy (fw st st1 (dst.getD 0) s pl tks r).heap (Vh st.heap (Lu s tks (dst.getD 0)) tks s.keeps) (s.Cj x) st.tmps=true then
       some (v,fR st (fw st st1 (dst.getD 0) s pl tks r) (Vh st.heap (Lu s tks (dst.getD 0)) tks s.keeps) (s.Cj x)) else none
   else none
def Jk:List Operand->St->Option St
 | [],st=>some st
 |x::r,st=>match settle st (st.ev x) with
  |some (_,st')=>Jk r st'
  |none=>none
def ar (s:Spec) (args:List AV):Bool:=!(s.fresh||s.res.flat||args.all (·.settled))
def evalOp (Γ:Env) (st:St) (o:Oper):Option (AV×St):=
 match o.op with
 | .assign x=>match st.ev x,o.dst,(T.elem o.type).bind λte=>(T.ty te).map λe=>(te,e) with
  | .at .Hi,some d,some (te,e)=>if d<Ak then some (.at (.own d 0 0),st.new d (.arr (T.mY||e.flat) T.uQ e te [])) else none
  |v,_,_=>some (v,st)
 | .alloc t=>match o.dst,T.ty t with
  |some d,some τ=>mkVar T st d t τ (zeroCells τ)
  |_,_=>none
 | .box t x=>match o.dst,T.ty t with
  |some d,some τ=>match cellsOf τ (st.ev x) with
   |some cs=>mkVar T st d t τ cs
   |none=>none
  |_,_=>none
 | .store t p x=>(Jy T st t (st.ev p) (st.ev x)).map λs=>(.undef,s)
 | .makeSlice t l c=>match o.dst with
  |some d=>Qf T st d t (st.ev l) (st.ev c)
  |none=>none
 | .makeMap t none=>match o.dst with
  |some d=>Nu T st d t
  |none=>none
 | .mapUpdate t m k x=>(Eo T st t (st.ev m) (st.ev k) (st.ev x)).map λs=>(.undef,s)
 | .insert t m k x=>(Eo T st t (st.ev m) (st.ev k) (st.ev x)).map λs=>(.undef,s)
 | .buildSlice t len parts=>match o.dst with
  |some d=>Em T st d t len parts
  |none=>none
 | .build t parts=>(Qc T st t parts).map λv=>(v,st)
 | .call {callee:= .builtin .append,args,argTypes} =>match o.dst,args.toList,argTypes.toList with
  |some d,[x,y],[t,t']=>if t=t' then Lg T st d t x y else none
  |_,_,_=>none
 | .call {callee:= .builtin .copy,args,argTypes} =>match args.toList,argTypes.toList with
  | [x,y],[t,t']=>cf T st t t' (st.ev x) (st.ev y)
  |_,_=>none
 | .call {callee:= .builtin .clear,args,argTypes} =>match args.toList,argTypes.toList with
  | [x],[t]=>(evalClear T st t (st.ev x)).map λs=>(.undef,s)
  |_,_=>none
 | .call {callee:= .value (.func f),args, .. } =>match Γ f with
  |some (.m s)=>Qd st o.dst s (args.toList.map st.ev)
  |some (.q s)=>if ar s (args.toList.map st.ev) then (match Jk args.toList st with
   |some st1=>(Ch T Γ st1 o).map λv=>(v,st1)
   |none=>none) else (Ch T Γ st o).map λv=>(v,st)
  |_=>(Ch T Γ st o).map λv=>(v,st)
 |_=>(Ch T Γ st o).map λv=>(v,st)
def ay (e:Ty):Nat->List (Nat×Operand)->St->Option (Bool×List e.den)
 |_,[],_=>some (true,[])
 |i,(j,x)::r,st=>
  if i=j/\(st.ev x).settled=true then match Cq st e (st.ev x),ay e (i+1) r st with
   |some (fr,y),some (Ow,ys)=>some (fr&&Ow,y::ys)
   |_,_=>none
  else none
def Uw (st:St) (t:TypeId) (len:Nat) (parts:Array (Nat×Operand)):Option AV:=
 match T.elem t with
 |none=>none
 |some te=>match T.ty te with
  |none=>none
  |some e=>if parts.size=len/\len<=64/\e.size<=64 then (ay e 0 parts.toList st).map λp=> .at (.data p.1 (.slice e) p.2) else none
def Ru (Γ:Env) (st:St) (o:Oper):Option AV:=
 match o.op with
 | .buildSlice t len parts=>Uw T st t len parts
 | .build t parts=>Qc T st t parts
 |_=>Ch T Γ st o
def LS (q:Bool) (Γ:Env) (o:Oper):Bool:=
 match o.op with
 | .buildSlice _ _ _| .build _ _=>!q
 | .alloc _| .box _ _| .store _ _ _| .makeSlice _ _ _| .makeMap _ _| .mapUpdate _ _ _ _| .insert _ _ _ _=>true
 | .assign (.const _)=>true
 | .call {callee:= .builtin .append, .. } =>true
 | .call {callee:= .builtin .copy, .. } =>true
 | .call {callee:= .builtin .clear, .. } =>true
 | .call {callee:= .value (.func f), .. } =>match Γ f with
  |some (.m _)=>true
  |_=>false
 |_=>false
def Ci (Γ:Env) (ops:Array Oper) (st:St) (o:Oper):Option St:=
 match o.guard with
 |none=>(evalOp T Γ st o).map λr=>r.2.put o.dst r.1
 |some (j,want)=>match Px st ((ops[j]?).bind (·.dst)) with
  |some (some b)=>if b==want then (evalOp T Γ st o).map λr=>r.2.put o.dst r.1 else some (st.put o.dst (.at .skip))
  |some none=>some (st.put o.dst (.at .skip))
  |none=>none
def Tn (Γ:Env) (ops:Array Oper):List Oper->St->Option St
 | [],st=>some st
 |o::r,st=>match Ci T Γ ops st o with
  |some st'=>Tn Γ ops r st'
  |none=>none
def Ex (q:Bool) (Γ:Env) (ops:Array Oper):List Nat:=
 (List.range ops.size).foldl (init:= []) λacc i=>match ops[i]? with
  |some o=>if LS q Γ o||o.after.any (λe=>Region.binds .any e&&acc.contains e.on) then acc++ [i] else acc
  |none=>acc
def Wp (q:Bool) (Γ:Env) (ops:Array Oper):List Nat:=(List.range ops.size).filter λi=>!(Ex q Γ ops).contains i
def iq (ops:Array Oper) (hd tl:List Nat) (i:Nat):Bool:=
 match ops[i]? with
 |some o=>(match o.op,o.guard with
  | .move (.tmp _),none=>true
  |_,_=>false)&&!((tl.take 1++hd).any λj=>decide (i<j)&&Region.waitsFor .any ops j i)
 |none=>false
def Ov (q:Bool) (Γ:Env) (ops:Array Oper):List Nat:=(Wp q Γ ops).filter λi=>iq ops (Wp q Γ ops) (Ex q Γ ops) i
def Ox (q:Bool) (Γ:Env) (ops:Array Oper):List Nat:=(Wp q Γ ops).filter λi=>!iq ops (Wp q Γ ops) (Ex q Γ ops) i
def dF (q:Bool) (Γ:Env) (ops:Array Oper):List Nat:=Ov q Γ ops++Ox q Γ ops
def LJ (ops:Array Oper) (i:Nat):Bool:=match ops[i]? with
 |some o=>(match o.op,o.guard with
  | .extract _ _,none=>true
  |_,_=>false)
 |none=>false
def iO (ops:Array Oper):List Nat->Array Bool->Bool
 | [],Ac=>(Region.ready .any ops Ac).isEmpty
 |k::r,Ac=>(decide (Region.ready .any ops Ac= [k])||(LJ ops k&&((Region.ready .any ops Ac).contains k&&Region.free .any ops Ac k)))&&iO ops r (Ac.setIfInBounds k true)
def jB (ops:Array Oper) (tl:List Nat):List Nat->Array Bool->Bool
 | [],Ac=>iO ops tl Ac
 |k::r,Ac=>(Region.ready .any ops Ac).contains k&&Region.free .any ops Ac k&&jB ops tl r (Ac.setIfInBounds k true)
def ov (ops:Array Oper) (hd:List Nat):List Nat->Bool
 | []=>true
 |f::r=>(hd.all λi=>(f::hd).any λj=>decide (i<j)&&Region.waitsFor .any ops j i)&&r.all λt=>(f::r).any λk=>Region.waitsFor .any ops t k
def hI (ops:Array Oper) (tl hd:List Nat):List Nat->Array Bool->Bool
 | [],Ac=>jB ops tl hd Ac
 |k::r,Ac=>(Region.ready .any ops Ac).contains k&&Region.free .any ops Ac k&&hI ops tl hd r (Ac.setIfInBounds k true)
def dQ (q:Bool) (Γ:Env) (ops:Array Oper):Bool:=
 Region.noSelect ops&&((Ov q Γ ops).length+((Ox q Γ ops).length+(Ex q Γ ops).length)==ops.size)&&hI ops (Ex q Γ ops) (Ox q Γ ops) (Ov q Γ ops) (Array.replicate ops.size false)&&ov ops (Ox q Γ ops) (Ex q Γ ops)
def bK (Γ:Env) (ops:Array Oper) (st:St) (o:Oper):Option AV:=
 match o.guard with
 |none=>Ru T Γ st o
 |some (j,want)=>match Px st ((ops[j]?).bind (·.dst)) with
  |some (some b)=>if b==want then Ru T Γ st o else some (.at .skip)
  |some none=>some (.at .skip)
  |none=>none
def Dz (Γ:Env) (ops:Array Oper):List Nat->St->Option St
 | [],st=>some st
 |i::r,st=>match ops[i]? with
  |none=>none
  |some o=>match bK T Γ ops st o with
   |some v=>Dz Γ ops r (st.put o.dst v)
   |none=>none
def Iz (Γ:Env) (ops:Array Oper):List Nat->St->Option St
 | [],st=>some st
 |i::r,st=>match ops[i]? with
  |none=>none
  |some o=>match Ci T Γ ops st o with
   |some st'=>Iz Γ ops r st'
   |none=>none
def Lh (Γ:Env) (ops:Array Oper) (draw:Bool) (st:St):Option St:=
 if draw then (if dQ false Γ ops then (match Dz T Γ ops (dF false Γ ops) st with
  |some st'=>Iz T Γ ops (Ex false Γ ops) st'
  |none=>none) else if dQ true Γ ops then (match Dz T Γ ops (dF true Γ ops) st with
  |some st'=>Iz T Γ ops (Ex true Γ ops) st'
  |none=>none) else none)
 else Tn T Γ ops ops.toList st
def tz (ops:Array Oper) (i:Nat):Bool:=match ops[i]? with
 |some o=>(match o.op,o.guard with
  | .move (.tmp _),none=>true
  |_,_=>false)
 |none=>false
def dM (ops:Array Oper) (i:Nat):Bool:=match ops[i]? with
 |some o=>(match o.op,o.guard with
  | .move (.tmp _),none=>true
  | .nilCheck _,none=>true
  | .fieldAddr _ _ _,none=>true
  |_,_=>false)
 |none=>false
def Acl (q:Bool) (ops:Array Oper) (i:Nat):Bool:=match q with
 |true=>dM ops i
 |false=>tz ops i
def Et (q:Bool) (ops:Array Oper):List Nat->Array Bool->List Nat
 | [],_=> []
 |i::r,Ac=>if Acl q ops i&&((Region.ready .any ops Ac).contains i&&Region.free .any ops Ac i) then i::Et q ops r (Ac.setIfInBounds i true) else Et q ops r Ac
def LZ (q:Bool) (ops:Array Oper):List Nat:=Et q ops (List.range ops.size) (Array.replicate ops.size false)
def dB (q:Bool) (ops:Array Oper):Bool:=Nat.ble (ops.size-(LZ q ops).length) 8
def Kc (ops:Array Oper):List Nat:=LZ (!dB false ops) ops
def Ec:List Nat->Array Bool->Array Bool
 | [],Ac=>Ac
 |i::r,Ac=>Ec r (Ac.setIfInBounds i true)
def anyS (Γ:Env) (ops:Array Oper) (K:St->Prop):Nat->Array Bool->St->Prop
 |0,Ac,st=>Region.ready .any ops Ac= []/\K st
 |f+1,Ac,st=>Region.ready .any ops Ac≠ []/\ ∀i∈Region.ready .any ops Ac,∃o st',ops[i]?=some o/\Ci T Γ ops st o=some st'/\anyS Γ ops K f (Ac.setIfInBounds i true) st'
def sB (Γ:Env) (ops:Array Oper) (draw:Bool) (st:St) (K:St->Prop):Prop:=
 (∃st',Lh T Γ ops draw st=some st'/\K st')\/
 (draw=true/\Region.noSelect ops=true/\ ∃bx,Dz T Γ ops (Kc ops) st=some bx/\anyS T Γ ops K (ops.size-(Kc ops).length) (Ec (Kc ops) (Array.replicate ops.size false)) bx)
def uf (Γ:Env) (draw:Bool):Env:= λf=>match Γ f with
 |some (.b s m)=>some (if draw then .q s else .m m)
 |r=>r
inductive Gt where
 |normal
 |exit (id:Nat)
 |ret
def Fu (live:List Nat):Nat->List AV->List AV
 |_,[]=> []
 |i,v::r=>(if live.contains i then v else .undef)::Fu live (i+1) r
def AV.refs:AV->List Nat
 | .at a=>a.refs
 | .agg cs=>cs.flatMap AC.refs
 | .Uo _ _ _=> []
 | .Hv l=>l.flatMap λp=>p.2.flatMap AC.refs
def OB.refs:OB->List Nat
 | .var _ vs=>vs.flatMap AC.refs
 |_=> []
def Yn:List Nat->St->St
 | [],st=>st
 |l::r,st=>Yn r (st.forget l)
def jT (l k m:Nat):Nat:=if m=l then k else m
def Ob (l k:Nat):AC->AC
 | .own m off len=> .own (jT l k m) off len
 | .Dp m i=> .Dp (jT l k m) i
 | .Fp m i=> .Fp (jT l k m) i
 | .clo f Bv=> .clo f (Bv.map λp=>(jT l k p.1,p.2))
 | .Fw m=> .Fw (jT l k m)
 | .sub m i c=> .sub (jT l k m) i c
 | .Fl m i c=> .Fl (jT l k m) i c
 |a=>a
def St.rename (l k:Nat) (st:St):St:=
 match Ad st.heap k,Ad st.heap l with
 |none,some b=>if (Nat.blt l Ak&&Nat.blt k Ak)=true then
   (let s:=st.Gh (Ob l k); {s with heap:=Iy (Tc s.heap l) k (b.map (Ob l k))}) else st
 |_,_=>st
def Hs:Nat->Nat->St->St
 |0,_,st=>st
 |n+1,t,st=>Hs n (t+1) (match st.get t with
  | .at (.own l _ _)=>match Ad st.heap l with
   |some (.arr _ _ _ _ _)=>if (st.tmps.take t).any (λv=>v.refs.contains l) then st else st.rename l (700000+t)
   |_=>st
  |_=>st)
def Wy:Nat:=1000000007
def OB.El (flat all one:Bool):OB->OB
 | .arr fr tr e tid xs=> .arr (fr&&!(all||(one||(flat&&e.flat)))) (tr&&!all) e tid xs
 |b=>b
def Sn:Nat:=1000000009
def Sm:Nat:=1100000000
def pj:Nat:=1200000000
def St.El (live:List Nat) (st:St):St:= {st with heap:=st.heap.map λp=>(p.1,p.2.El (live.contains Sn) (live.contains (Sm+p.1)) (live.contains (pj+p.1)))}
def Lo:Nat:=900000000
def Vn (t:Nat) (st:St):St:=match st.get t with
 | .at (.own l off len)=>match Ad st.heap l with
  |some (.arr fr tr e tid xs)=>if Nat.blt l Ak=true then (st.new l (.arr fr tr e tid ((xs.drop off).take len))).put (some t) (.at (.own l 0 ((xs.drop off).take len).length)) else st
  |_=>st
 |_=>st
def Jm:Nat:=1900000000
def JQ:Nat:=950000000
def Ke (c:Nat) (st:St):St:=match Ad st.heap Jm with
 |some (.var _ vs)=>match vs[c]? with
  |some (.own l off len)=>match Ad st.heap l with
   |some (.arr fr tr e te xs)=>if Nat.blt l Ak=true then match Ad (st.new l (.arr fr tr e te ((xs.drop off).take len))).heap Jm with
     |some (.var tid vs')=>(st.new l (.arr fr tr e te ((xs.drop off).take len))).Fk Jm (.var tid (vs'.set c (.own l 0 ((xs.drop off).take len).length)))
     |_=>st
    else st
   |_=>st
  |_=>st
 |_=>st
def Jv (live:List Nat):Nat->Nat->St->St
 |0,_,st=>st
 |n+1,c,st=>Jv live n (c+1) (if live.contains (JQ+c) then Ke c st else st)
def Jj (live:List Nat):Nat->Nat->St->St
 |0,_,st=>Jv live 16 0 st
 |n+1,t,st=>Jj live n (t+1) (if live.contains (Lo+t) then Vn t st else st)
def St.clean (live:List Nat) (st:St):St:=
 let s:St:= {st with tmps:=Fu live 0 st.tmps}
 let r1:=s.tmps.flatMap AV.refs
 let r2:=r1++(s.heap.filter λp=>r1.contains p.1).flatMap λp=>p.2.refs
 let s2:=Yn ((s.heap.map (·.1)).filter λl=>!r2.contains l&&Nat.blt l Ak) s
 let s2:=if live.any (λt=>Nat.ble Lo t&&Nat.blt t Wy) then Jj live s2.tmps.length 0 s2 else s2
 let s3:=if live.contains Wy then Hs s2.tmps.length 0 s2 else s2
 if live.any (λt=>Nat.ble Sn t) then s3.El live else s3
def Cd:Code->Nat
 | .region id _ _=>id
 | .seq a _=>Cd a
 | .cond _ a _=>Cd a
 | .block _ c=>Cd c
 | .loop c=>1000+Cd c
 |_=>0
def UM (a b:List Nat):List Nat:=a++b.filter λt=>!a.contains t
def tM:List Oper->List Nat->List Nat
 | [],out=>out
 |o::r,out=>UM (o.op.operands.toList.filterMap λ | .tmp t=>some t|_=>none) (match o.dst with|some d=>(tM r out).filter (·!=d)|none=>tM r out)
def za:List (Nat×List Nat)->Nat->List Nat
 | [],_=> []
 |(k,l)::r,id=>if k=id then l else za r id
def kS:Code->List (Nat×List Nat)->List Nat->List Nat->List Nat×List (Nat×List Nat)
 | .region _ ops _,_,_,out=>(tM ops.toList out,[])
 | .seq a b,env,ret,out=>let rb:=kS b env ret out;let ra:=kS a env ret rb.1;(ra.1,ra.2++rb.2)
 | .cond c a b,env,ret,out=>let ra:=kS a env ret out;let rb:=kS b env ret out
  (UM (match c with| .tmp t=> [t]|_=> []) (UM ra.1 rb.1),ra.2++rb.2)
 | .block id c,env,ret,out=>kS c ((id,out)::env) ret out
 | .exit id,env,_,_=>(za env id,[])
 | .ret,_,ret,_=>(ret,[])
 | .loop c,env,ret,_=>let l:=(kS c env ret []).1;let r:=kS c env ret l;(l,(Cd c,l)::r.2)
 |_,_,_,out=>(out,[])
def tN:List ResultVar->List Nat
 | []=> []
 | .tmp t::r=>t::tN r
 | .cell p _::r=>p::tN r
def tK (marks:List Nat) (fn:Func) (c:Code):Nat->List Nat:=let ret:=tN fn.results.toList;let g:=za (kS c [] ret ret).2;match marks with
 | []=>g
 |m=> λid=>g id++m
def zT (K:St->Prop) (Q:Gt->St->Prop):Gt->St->Prop
 | .normal,s=>K s
 |e,s=>Q e s
def rE (id:Nat) (Q:Gt->St->Prop):Gt->St->Prop
 | .exit FM,s=>if FM=id then Q .normal s else Q (.exit FM) s
 |e,s=>Q e s
def MS (ops:Array Oper) (t:Nat):Bool:=ops.toList.any λo=>match o.op with
 | .extract (.tmp s) _=>Nat.beq s t
 | .move (.tmp s)=>Nat.beq s t
 | .assign (.tmp s)=>Nat.beq s t
 |_=>false
def Jf (ops:Array Oper):Nat->List AV->List AV
 |_,[]=> []
 |i, .Hv l::r=>(if MS ops i=true then .Hv l else .undef)::Jf ops (i+1) r
 |i,v::r=>v::Jf ops (i+1) r
def St.gP (ops:Array Oper) (st:St):St:= {st with tmps:=Jf ops 0 st.tmps}
inductive Ix (Γ:Env) (live:Nat->List Nat):Code->St->(Gt->St->Prop)->Prop where
 |skip {st:St} {Q:Gt->St->Prop} :Q .normal st->Ix Γ live .skip st Q
 |label {l:Nat} {st:St} {Q:Gt->St->Prop} :Q .normal st->Ix Γ live (.label l) st Q
 |exit {id:Nat} {st:St} {Q:Gt->St->Prop} :Q (.exit id) st->Ix Γ live (.exit id) st Q
 |ret {st:St} {Q:Gt->St->Prop} :Q .ret st->Ix Γ live .ret st Q
 |region {id:Nat} {ops:Array Oper} {draw:Bool} {st:St} {Q:Gt->St->Prop} :sB T (uf Γ draw) ops draw (st.gP ops) (Q .normal)->Ix Γ live (.region id ops draw) st Q
 |seq {x y:Code} {st:St} {Q:Gt->St->Prop} (Q1:Gt->St->Prop):Ix Γ live x st Q1->(∀s,Q1 .normal s->Ix Γ live y s Q)->(∀e s,e≠ .normal->Q1 e s->Q e s)->Ix Γ live (.seq x y) st Q
 |cond {c:Operand} {x y:Code} {st:St} {fr t:Bool} {Q:Gt->St->Prop} :st.ev c= .at (.data fr .bool t)->(t=true->Ix Γ live x st Q)->(t=false->Ix Γ live y st Q)->Ix Γ live (.cond c x y) st Q
 |block {id:Nat} {c:Code} {st:St} {Q:Gt->St->Prop} (Q1:Gt->St->Prop):Ix Γ live c st Q1->(∀e s,Q1 e s->rE id Q e s)->Ix Γ live (.block id c) st Q
 |loop {c:Code} {st:St} {Q:Gt->St->Prop} (Q1:Gt->St->Prop):Ix Γ live c (st.clean (live (Cd c))) Q1->(∀s,Q1 .normal s->Ix Γ live (.loop c) s Q)->(∀e s,e≠ .normal->Q1 e s->Q e s)->Ix Γ live (.loop c) st Q
def Xv (st:St):List ResultVar->Option (List AV)
 | []=>some []
 | .tmp t::r=>(Xv st r).map λl=>st.get t::l
 | .cell p t::r=>match Ki T st t (st.get p),Xv st r with
  |some v,some l=>some (v::l)
  |_,_=>none
def gY (s:Spec) (fn:Func) (st:St):Option (Bool×s.res.den):=
 match Xv T st fn.results.toList with
 |some [v]=>if s.Dh then none else Cq st s.res v
 |some [v,u]=>if s.Dh then Bp st s.res [v,u] else none
 |some [v,u,t]=>if s.Dh then Bp st s.res [v,u,t] else none
 |_=>none
def Mi:(τ:Ty)->τ.den->List AV
 | .pair a r,x=> .at (.data a.flat a x.1)::Mi r x.2
 |_,_=> []
def ej (st:St):(c:CK)->AC->Option (c.den×List Nat)
 | .Ee τ,a=>if τ.flat||a.settled then (Bl st τ a).map λp=>(p.2,[]) else none
 | .row e te, .own l off len=>match st.at l with
  |some (.arr _ _ e' La xs)=>if h:e'=e/\La=te then some ((((h.1▸xs:List e.den).drop off).take len),[l]) else none
  |_=>none
 | .row _ _, .Hi=>some ([],[])
 | .Dq e te, .own l off len=>match st.at l with
  |some (.arr _ tr e' La xs)=>if h:e'=e/\La=te/\(tr||e.flat)=true then some ((((h.1▸xs:List e.den).drop off).take len),[l]) else none
  |some (.Da e' La xs)=>if h:e'=e/\La=te then some ((((h.1▸xs:List e.den).drop off).take len),[l]) else none
  |_=>none
 | .Dq _ _, .Hi=>some ([],[])
 | .Ah e te _, .own l off len=>match st.at l with
  |some (.Ah e' La rows none _)=>if h:e'=e/\La=te/\off=0/\len=rows.length then some ((h.1▸rows:List (List e.den)),[l]) else none
  |_=>none
 |_,_=>none
def Oa (st:St):(cs:List CK)->List AC->Option (CKs.den cs×List Nat)
 | [],[]=>some ((),[])
 |c::r,a::as=>match ej st c a,Oa st r as with
  |some (x,t1),some (y,t2)=>some ((x,y),t1++t2)
  |_,_=>none
 |_,_=>none
def kB (st:St) (l:Nat):(c:CK)->Option c.den
 | .Ee _=>none
 | .row e te=>match st.at l with
  |some (.arr _ _ e' La xs)=>if h:e'=e/\La=te then some (h.1▸xs) else none
  |_=>none
 | .Dq e te=>match st.at l with
  |some (.Da e' La xs)=>if h:e'=e/\La=te then some (h.1▸xs) else none
  |_=>none
 | .part _ _=>none
 | .Ah _ _ _=>none
def Jd (st:St):(k:Nat)->(cs:List (Bool×CK))->Option (IOs.den cs)
 |_,[]=>some ()
 |k,(true, .Ee _)::r=>Jd st (k+1) r
 |k,(true, .Ah _ _ _)::r=>Jd st (k+1) r
 |k,(true, .row e te)::r=>match kB st (Bq true k) (.row e te),Jd st (k+1) r with
  |some x,some y=>some (x,y)
  |_,_=>none
 |k,(true, .Dq e te)::r=>match kB st (Bq true k) (.Dq e te),Jd st (k+1) r with
  |some x,some y=>some (x,y)
  |_,_=>none
 |k,(true, .part e te)::r=>match kB st (Bq true k) (.row e te),Jd st (k+1) r with
  |some x,some y=>some (x,y)
  |_,_=>none
 |k,(false,_)::r=>Jd st (k+1) r
def Kb:(k:Nat)->List (Bool×CK)->List Nat
 |_,[]=> []
 |k,(true, .Ee _)::r=>Kb (k+1) r
 |k,(true, .Ah _ _ _)::r=>Kb (k+1) r
 |k,(true,_)::r=>Bq true k::Kb (k+1) r
 |k,(false,_)::r=>Kb (k+1) r
def Es:(k:Nat)->List (Bool×CK)->List AC->Option (List AC)
 |_,_,[]=>some []
 |k,(true, .row _ _)::r, .own l _ _::as=>if Nat.beq l (Bq true k) then Es (k+1) r as else none
 |k,(true, .Dq _ _)::r, .own l _ _::as=>if Nat.beq l (Bq true k) then Es (k+1) r as else none
 |k,(false,_)::r,a::as=>(Es (k+1) r as).map λl=>a::l
 |_,_,_=>none
def cC (st:St):List AC->List (Bool×CK)->Prop
 | .own l off len::as,(true,_)::r=>(off=0/\match st.at l with
  |some (.arr _ _ _ _ xs)=>len=xs.length
  |some (.Da _ _ xs)=>len=xs.length
  |_=>False)/\cC st as r
 |_::as,(false,_)::r=>cC st as r
 |_,_=>True
def AS (s:MSpec) (st:St) (l:List AV):Option (List AC×List Nat):=match s.rp with
 |none=>if s.Dh=Nat.blt 1 l.length then (ungroup s.Ef l).map λas=>(as,[]) else none
 |some tid=>match l with
  | [.at (.Dp m i)]=>match st.at m with
   |some (.var Ns vs)=>if Ns=tid/\i=0/\Nat.blt m Ak=true then some (vs,[m]) else none
   |_=>none
  |_=>none
def rJ (st:St) (n:Nat) (as:List AC):List (Nat×Nat)->Prop
 | []=>True
 |(k,j)::r=>(match as[j]? with
  |some (.own l _ _)=>match st.at l with
   |some (.Ah _ _ _ _ (some p))=>p.1=Bq false k/\n<=p.2/\Nat.blt k 1000=true
   |_=>False
  |_=>False)/\rJ st n as r
def dS (s:MSpec) (fn:Func) (x:Ins.den s.ins) (st:St) (cs:List AC) (P:CKs.den s.outs×IOs.den s.ins->Prop):Prop:=
 match Xv T st fn.results.toList with
 |none=>False
 |some l=>match AS s st l with
  |none=>False
  |some (as,ml)=>match Oa st s.outs (cs++as),Jd st 0 s.ins with
   |some (r,ls),some o=>(Su (ml++ls++Kb 0 s.ins)&&Nat.blt s.ins.length 1000&&Nat.blt s.outs.length 1000&&s.LY)=true/\rJ st (s.Cj x) (cs++as) s.keeps/\P (r,o)
   |_,_=>False
def JD (s:MSpec) (fn:Func) (x:Ins.den s.ins) (st:St) (P:CKs.den s.outs×IOs.den s.ins->Prop):Prop:=
 match s.ptr with
 |none=>dS T s fn x st [] P
 |some p=> ∃vs cs,st.at Jm=some (.var p.1 vs)/\vs.length=p.2/\Es 0 s.ins vs=some cs/\cC st vs s.ins/\dS T s fn x st cs P
def Te (s:MSpec) (as:List AC):List AV:=match s.ptr with
 |none=>Ml s.Fc as
 |some p=> .at (.Dp Jm 0)::Ml s.Fc (as.drop p.2)
def kP (s:MSpec) (x:Ins.den s.ins):List (Nat×OB):=match s.ptr with
 |none=>Sb 0 s.ins x
 |some p=>Sb 0 s.ins x++ [(Jm, .var p.1 ((Vf 0 s.ins x).take p.2))]
def Sh:List (Bool×CK)->Bool
 | []=>true
 |(true, .Ah _ _ _)::_=>false
 |_::r=>Sh r
def ub (s:MSpec):Bool:=Sh s.ins&&match s.ptr with
 |none=>true
 |some p=>Nat.ble p.2 s.ins.length
def RY (Γ:Env) (s:MSpec) (fn:Func) (x:Ins.den s.ins) (P:CKs.den s.outs×IOs.den s.ins->Prop):Prop:=
 (Nat.blt s.ins.length 1000&&ub s)=true/\ ∃c,fn.body=some c/\Ix T Γ (tK T.marks fn c) c {tmps:=Te s (Vf 0 s.ins x)++List.replicate (fn.ntmps-(Te s (Vf 0 s.ins x)).length) .undef,heap:=kP s x}
  (λe st=>(∀id,e≠ .exit id)/\JD T s fn x st P)
def JE (Γ:Env) (s:Spec) (fn:Func) (x:s.arg.den) (P:s.res.den->Prop):Prop:=
 ∃c,fn.body=some c/\Ix T Γ (tK T.marks fn c) c {tmps:=Mi s.arg x++List.replicate (fn.ntmps-(Mi s.arg x).length) .undef,heap:= []}
  (λe st=>(∀id,e≠ .exit id)/\ ∃fr y,gY T s fn st=some (fr,y)/\(fr||!s.fresh)=true/\P y)
end Go.Proofs.YtfolipnappekaaaGreat
