/-
  Part 3 of the proof that the statement FnExactBestTableIndex holds.
-/
import Derived.Test.YtfolipnappekaaaGreatCBestTableIndex01
namespace Go.Proofs.YtfolipnappekaaaGreat
open Go.RowKit
def Dl:Nat->St->List AC->Option (List AC×St)
 |0,st,cs=>if cs.all (·.settled) then some (cs,st) else none
 |n+1,st,cs=>
  match cs.find? (λc=>!c.settled) with
  |none=>some (cs,st)
  |some (.own l _ _)=>match st.at l with
   |some (.arr fr _ e _ xs)=>Dl n (st.freeze l fr e xs) (cs.map (Bc l fr e xs))
   |some (.Cz e _ xs)=>Dl n (st.freeze l false e xs) (cs.map (Bc l false e xs))
   |_=>none
  |some (.Fw l)=>match st.at l with
   |some (.Ol v m)=>Dl n (st.Eh l v m) (cs.map (Df l v m))
   |_=>none
  |some _=>none
def settle (st:St):AV->Option (AV×St)
 | .at (.own l off len)=>match st.at l with
  |some (.arr fr _ e _ xs)=>some (.at (.data fr (.slice e) ((xs.drop off).take len)),st.freeze l fr e xs)
  |some (.Cz e _ xs)=>some (.at (.data false (.slice e) ((xs.drop off).take len)),st.freeze l false e xs)
  |_=>none
 | .at (.Fw l)=>match st.at l with
  |some (.Ol v m)=>some (.at (.data false (.smap v) m),st.Eh l v m)
  |_=>none
 | .at a=>if a.settled then some (.at a,st) else none
 | .agg cs=>(Dl cs.length st cs).map λp=>(.agg p.1,p.2)
 | .Uo fr τ x=>some (.Uo fr τ x,st)
 | .Ht _=>none
def AC.refs:AC->List Nat
 | .own l _ _| .Dn l _| .Fo l _| .Fw l| .sub l _ _| .Fk l _ _=> [l]
 | .clo _ Bu=>Bu.map (·.1)
 |_=> []
def Sw:List Nat->Bool
 | []=>true
 |a::r=>!r.contains a&&Sw r
def Ty.tree:Ty->Bool
 | .int _| .bool| .str| .unit=>true
 | .slice e=>e.tree
 | .pair a r=>a.tree&&r.tree
 |_=>false
def Lr (st:St):AC->Bool
 | .data _ τ _=>τ.flat
 | .Hf=>true
 | .own l _ _=>match st.at l with
  |some (.arr _ tr e _ _)=>tr||e.flat
  |some (.Cz _ _ _)=>true
  |_=>false
 |_=>false
def Ms (st:St):AV->Bool
 | .at a=>Lr st a
 | .agg cs=>cs.all (Lr st)&&Sw (cs.flatMap AC.refs)
 |_=>false
def Ak:Nat:=1000000000
variable (T:Tab)
def CY (t:TypeId) (τ:Ty) (i:Nat):Option TypeId:=
 if τ.Ab then (List.range 24).findSome? λf=>match T.off t f with
  |some (o,u)=>if o=i then some u else none
  |none=>none
 else some t
def Tab.DG (te:TypeId):Option Ty:=if T.JS.contains te then (match T.ty te with
 |some (.slice e)=>some e
 |_=>none) else none
def Yf (te:TypeId) (e:Ty):OB:=match T.DG te with
 |some e'=> .Ai e' te [] none none
 |none=> .arr (T.ng||e.flat) T.uP e te []
def No (b:OB) (key l i:Nat) (st:St):St:=
 match st.at l with
 |some (.var _ vs)=>match vs[i]? with
  |some .Hf=>
   let s1:=st.new key b
   match s1.at l with
   |some (.var tid vs')=>s1.Fh l (.var tid (Ns vs' i (.own key 0 0)))
   |_=>s1
  |_=>st
 |_=>st
def ay (l:Nat) (t:TypeId) (τ:Ty):Nat->Nat->St->St
 |0,_,st=>st
 |n+1,i,st=>
  ay l t τ n (i+1) (match ((CY T t τ i).bind T.elem).bind λte=>(T.ty te).map λe=>(te,e) with
   |some (te,e)=>No (Yf T te e) (100000+l*100+i) l i st
   |none=>st)
def Yz (l off:Nat) (t:TypeId) (τ:Ty):Nat->Nat->St->St
 |0,_,st=>st
 |n+1,i,st=>
  Yz l off t τ n (i+1) (match ((CY T t τ i).bind T.elem).bind λte=>(T.ty te).map λe=>(te,e) with
   |some (te,e)=>No (Yf T te e) (100000+l*100+(off+i)) l (off+i) st
   |none=>st)
def zeroCells:(τ:Ty)->List AC
 | .unit=> []
 | .pair a r=>zeroCells a++zeroCells r
 | .slice _=> [.Hf]
 | .oslice _=> [.Hf]
 | .ptr _=> [.Pr]
 | .optr _=> [.Pr]
 | .clo _ _=> [.undef]
 |τ=> [.data true τ τ.zero]
def cellsOf (τ:Ty):AV->Option (List AC)
 | .agg cs=>if τ.Ab&&cs.length==τ.size then some cs else none
 | .at (.data fr Iu x)=>if Iu=τ then some (Lw fr Iu x) else none
 | .at .undef=>none
 | .at .skip=>none
 | .at a=>if τ.Ab then none else some [a]
 |_=>none
def mkVar (st:St) (l:Nat) (t:TypeId) (τ:Ty) (cs:List AC):Option (AV×St):=
 if Ak<=100000+l*100+cs.length then none else
 let s:=ay T l t τ cs.length 0 (st.new l (.var t (cs.map (Ay l))))
 match s.at l with
 |some (.var _ _)=>some (.at (.Dn l 0),s)
 |_=>none
def Bo {α:Type} (xs:List α) (i:Nat) (ys:List α):List α:=xs.take i++ys++xs.drop (i+ys.length)
def Nw (st:St) (t:TypeId) (p v:AV):Option St:=
 match T.ty t,p with
 |some τ, .at (.Dn l i)=>match st.at l,cellsOf τ v with
  |some (.var tid vs),some cs=>if i+cs.length<=vs.length then some (if τ.Ab&&Nat.blt (100000+l*100+(i+cs.length)) Ak then Yz T l i t τ cs.length 0 (st.Fh l (.var tid (Bo vs i cs))) else st.Fh l (.var tid (Bo vs i cs))) else none
  |_,_=>none
 |some τ, .at (.Fo l j)=>match settle st v with
  |some (v',st')=>match st'.at l,Cq st' τ v' with
   |some (.arr fr tr e tid xs),some (Ox,x)=>if h:τ=e then (if j<xs.length then some (st'.Fh l (.arr (fr&&Ox) (tr&&(Ms st v&&e.tree)) e tid (xs.set j (h▸x)))) else none) else none
   |_,_=>none
  |none=>none
 |_,_=>none
def Bj:Nat:=4294967296
def Io (st:St) (dst:Nat) (t:TypeId) (x y:Operand):Option (AV×St):=
 match T.elem t with
 |none=>none
 |some te=>match T.ty te,settle st (st.ev y) with
  |some e,some (y',st')=>match Cq st' (.slice e) y' with
   |none=>none
   |some (mb,ys)=>
    let tr2:=e.flat||(Ms st (st.ev y)&&e.tree)
    match st'.ev x with
    | .at .Hf=>if ys.length<=Bj/\dst<Ak then some (.at (.own dst 0 (0+ys.length)),(st'.new dst (.arr (T.ng||e.flat) T.uP e te [])).new dst (.arr ((T.ng||e.flat)&&(mb||e.flat)) (T.uP&&tr2) e te (((([]:List e.den).drop 0).take 0)++ys))) else none
    | .at (.own l off len)=>match st'.at l with
     |some (.arr fr tr e' tid xs)=>if h:e'=e/\tid=te then
       (if len+ys.length<=Bj/\l<Ak then
        some (.at (.own l 0 (len+ys.length)),st'.new l (.arr (fr&&(mb||e.flat)) (tr&&tr2) e te ((((h.1▸xs:List e.den).drop off).take len)++ys))) else none)
      else none
     |_=>none
    |_=>none
  |_,_=>none
def Kg (st:St) (l i m:Nat) (e:Ty) (te tid:TypeId) (rows:List (List e.den)) (kp:Option (Nat×Nat)):St:=
 (st.Fh l (.Ai e te rows (some i) kp)).new m (.arr false false e tid (rows.getD i []))
def Le (st:St) (dst:Nat) (t:TypeId) (x y:Operand):Option (AV×St):=
 match x with
 | .tmp tx=>match st.get tx with
  | .at (.sub l i _)=>match st.at l,T.elem t with
   |some (.Ai e te rows none kp),some tid=>if (Nat.blt l Ak&&(Nat.blt dst Ak&&!Nat.beq dst l))=true then Io T ((Kg st l i dst e te tid rows kp).put (some tx) (.at (.own dst 0 (rows.getD i []).length))) dst t x y else none
   |_,_=>none
  |_=>Io T st dst t x y
 |_=>Io T st dst t x y
def gC:Ty->Bool
 | .int _| .bool| .str| .slice _| .oslice _=>true
 |_=>false
def aT:Ty->Bool
 | .unit=>true
 | .pair a r=>aT a&&aT r
 |e=>gC e
def Uw (st:St) (dst:Nat) (t:TypeId) (l c:AV):Option (AV×St):=
 match T.elem t,l,c with
 |some te, .at (.data _ (.int _) n), .at (.data _ (.int _) m)=>match T.ty te with
  |some e=>if TS n (Bj+1)=true/\n=m/\aT e=true/\dst<Ak then some (.at (.own dst 0 n.toNat),st.new dst (.arr (T.ng||e.flat) (T.uP&&e.tree) e te (List.replicate n.toNat e.zero))) else none
  |none=>none
 |_,_,_=>none
def Gl (e:Ty):Nat->List (Nat×Operand)->St->Option (Bool×Bool×List e.den×St)
 |_,[],st=>some (true,true,[],st)
 |i,(j,x)::r,st=>
  if i=j then match settle st (st.ev x) with
   |some (v,st')=>match Cq st' e v with
    |some (fr,y)=>match Gl e (i+1) r st' with
     |some (Ox,NY,ys,Ahe)=>some (fr&&Ox,Ms st (st.ev x)&&e.tree&&NY,y::ys,Ahe)
     |none=>none
    |none=>none
   |none=>none
  else none
def Hj (st:St) (dst:Nat) (t:TypeId) (len:Nat) (parts:Array (Nat×Operand)):Option (AV×St):=
 match T.elem t with
 |none=>none
 |some te=>match T.ty te with
  |none=>none
  |some e=>if parts.size=len/\len<=64/\e.size<=64/\dst<Ak then (match Gl e 0 parts.toList st with
   |some (fr,tr,ys,st')=>some (.at (.own dst 0 len),st'.new dst (.arr ((T.ng||e.flat)&&fr) (T.uP&&tr) e te ys))
   |none=>none) else none
def Nv (st:St) (dst:Nat) (t:TypeId):Option (AV×St):=
 match T.mapOf t with
 |some v=>if dst<Ak then some (.at (.Fw dst),st.new dst (.Ol v λ_=>none)) else none
 |none=>none
def dp {α:Type} (m:ByteArray->Option α) (k:ByteArray) (x:α):ByteArray->Option α:= λs=>if s=k then some x else m s
def En (st:St) (t:TypeId) (m k x:AV):Option St:=
 match T.mapOf t,m,k with
 |some v, .at (.Fw l), .at (.data _ .str s)=>match st.at l,Cq st v x with
  |some (.Ol v' f),some (_,y)=>if h:v'=v/\v.flat=true/\v.Ab=false then some (st.Fh l (.Ol v (dp (h.1▸f:ByteArray->Option v.den) s y))) else none
  |_,_=>none
 |_,_,_=>none
def ca (st:St) (t t':TypeId) (x y:AV):Option (AV×St):=
 match x,(T.elem t).bind T.ty with
 | .at (.own l off len),some e=>if T.elem t=T.elem t'/\e.flat=true/\e.size=1 then match st.at l,Cq st (.slice e) y with
  |some (.arr fr _ e' tid xs),some (_,ys)=>if h:e'=e/\T.elem t=some tid then
    some (.at (.data true (.int .i64) (min len ys.length:Nat)),st.Fh l (.arr fr false e tid (Bo (h.1▸xs:List e.den) off (ys.take len))))
   else none
  |_,_=>none
  else none
 |_,_=>none
def evalClear (st:St) (t:TypeId) (x:AV):Option St:=
 match x,(T.elem t).bind T.ty with
 | .at (.own l off len),some e=>if e.flat=true/\gC e=true then match st.at l with
  |some (.arr fr _ e' tid xs)=>if h:e'=e/\T.elem t=some tid then
    some (st.Fh l (.arr fr false e tid (Bo (h.1▸xs:List e.den) off (List.replicate len e.zero))))
   else none
  |_=>none
  else none
 |_,_=>none
def Hi (st:St) (t:TypeId):List (Nat×Operand)->List AC->Option (List AC)
 | [],cs=>some cs
 |(i,x)::r,cs=>
  match T.off t i with
  |some (o,u)=>match T.ty u with
   |some ρ=>match cellsOf ρ (st.ev x) with
    |some c=>if o+c.length<=cs.length then Hi st t r (Bo cs o c) else none
    |none=>none
   |none=>none
  |none=>none
def Qd (st:St) (t:TypeId) (parts:Array (Nat×Operand)):Option AV:=
 match T.ty t with
 |none=>none
 |some τ=>if τ.Ab then (Hi T st t parts.toList (zeroCells τ)).map .agg else none
def Bq (io:Bool) (k:Nat):Nat:=if io then 1000000000+k else 500000+k
def Fp (k:Nat):Nat:=600000+k
def MA (dst:Nat) (k:Nat):Nat:=1000000*(dst+1)+k
def Ml:List (Option Nat)->List AC->List AV
 |none::s,a::as=> .at a::Ml s as
 |some n::s,as=> .agg (as.take n)::Ml s (as.drop n)
 |_,_=> []
def Gd:List (Option Nat)->List Value->List Value
 |none::s,u::us=>u::Gd s us
 |some n::s,us=> .agg (us.take n).toArray::Gd s (us.drop n)
 |_,_=> []
def ungroup:List (Option Nat)->List AV->Option (List AC)
 | [],[]=>some []
 |none::s, .at a::as=>(ungroup s as).map λr=>a::r
 |some n::s, .agg cs::as=>if cs.length=n then (ungroup s as).map λr=>cs++r else none
 |some n::s, .at (.data fr τ x)::as=>if τ.Ab=true/\(Lw fr τ x).length=n then (ungroup s as).map λr=>Lw fr τ x++r else none
 |_,_=>none
def ei (l:Nat):(c:CK)->c.den->Option OB
 | .Ee _,_=>none
 | .row e te,xs=>some (.arr false false e te xs)
 | .Dp e te,xs=>some (.Cz e te xs)
 | .part e te,x=>some (.arr false false e te x.1)
 | .Ai e te kp,xs=>some (.Ai e te xs none (if kp then some (l,List.length xs) else none))
def Aej (l:Nat):(c:CK)->c.den->AC
 | .Ee τ,x=> .data τ.flat τ x
 | .row _ _,xs=> .own l 0 (List.length xs)
 | .Dp _ _,xs=> .own l 0 (List.length xs)
 | .part _ _,x=> .own l x.2.1 x.2.2
 | .Ai _ _ _,xs=> .own l 0 (List.length xs)
def bZ {α:Type} (l:Nat):Option α->List (Nat×α)->List (Nat×α)
 |none,r=>r
 |some b,r=>(l,b)::r
def Sd:(k:Nat)->(cs:List (Bool×CK))->Ins.den cs->List (Nat×OB)
 |_,[],_=> []
 |k,p::r,x=>bZ (Bq p.1 k) (ei (Bq p.1 k) p.2 x.1) (Sd (k+1) r x.2)
def Ve:(k:Nat)->(cs:List (Bool×CK))->Ins.den cs->List AC
 |_,[],_=> []
 |k,p::r,x=>Aej (Bq p.1 k) p.2 x.1::Ve (k+1) r x.2
inductive Loc where
 |row (l:Nat)
 |sub (l i c:Nat)
 |view (l:Nat)
 deriving DecidableEq
def Loc.Pq:Loc->Nat
 | .row l=>l
 | .sub l _ _=>l
 | .view l=>l
def Loc.reads:Loc->Bool
 | .view _=>true
 |_=>false
def Vw (st:St) (ls:List Nat):Bool:=ls.all λl=>match st.at l with|some (.var _ vs)=>vs.all (·.settled)|_=>false
def views (k:Nat) (ls:List Nat):List (Nat×Loc):=ls.map λl=>(Bq false k, .view l)
def Ha (st:St) (io:Bool) (k:Nat):(c:CK)->AC->Option (c.den×List (Nat×Loc))
 | .Ee τ, .own l off len=>(Bm st τ (.own l off len)).map λp=>(p.2,[(Bq false k, .view l)])
 | .Ee τ, .clo g Bu=>if Vw st (Bu.map (·.1))&&!τ.Ab then (Fe st τ (.clo g Bu)).map λp=>(p.2,views k (Bu.map (·.1))) else none
 | .Ee τ, .Dn l i=>if Vw st [l]&&!τ.Ab then (Fe st τ (.Dn l i)).map λp=>(p.2,views k [l]) else none
 | .Ee τ, .sub l i c=>(Bm st τ (.sub l i c)).map λp=>(p.2,[(Bq false k, .view l)])
 | .Ee τ,a=>if τ.flat||a.settled then (Bm st τ a).map λp=>(p.2,[]) else none
 | .row e te, .own l off len=>match st.at l with
  |some (.arr _ _ e' Kz xs)=>if h:e'=e/\Kz=te/\off=0/\len=xs.length then some ((h.1▸xs:List e.den),[(Bq io k, .row l)]) else none
  |_=>none
 | .row e _, .sub l i c=>match st.at l with
  |some (.Cz e' _ xs)=>if h:e'= .slice e/\e.flat=true/\io=true/\c=0 then xs[i]?.map λy=>((h.1▸y:(Ty.slice e).den),[(Bq io k, .sub l i c)]) else none
  |_=>none
 | .row _ _, .Hf=>some ([],[])
 | .Dp e te, .own l off len=>match st.at l with
  |some (.Cz e' Kz xs)=>if h:e'=e/\Kz=te/\off=0/\len=xs.length then some ((h.1▸xs:List e.den),[(Bq io k, .row l)]) else none
  |_=>none
 | .Dp e _, .sub l i c=>match st.at l with
  |some (.Cz e' _ xs)=>if h:e'= .slice e/\io=true/\c=0 then xs[i]?.map λy=>((h.1▸y:(Ty.slice e).den),[(Bq io k, .sub l i c)]) else none
  |_=>none
 | .Dp _ _, .Hf=>some ([],[])
 | .part e te, .own l off len=>match st.at l with
  |some (.arr _ _ e' Kz xs)=>if h:e'=e/\Kz=te/\e.flat=true/\io=true then some (((h.1▸xs:List e.den),off,len),[(Bq io k, .row l)]) else none
  |_=>none
 | .Ai e te _, .own l off len=>match st.at l with
  |some (.Ai e' Kz rows none _)=>if h:e'=e/\Kz=te/\off=0/\len=rows.length/\io=false then some ((h.1▸rows:List (List e.den)),[(Bq io k, .row l)]) else none
  |_=>none
 |_,_=>none
def aP (st:St):(k:Nat)->(cs:List (Bool×CK))->List AC->Option (Ins.den cs×List (Nat×Loc))
 |_,[],[]=>some ((),[])
 |k,p::r,a::as=>match Ha st p.1 k p.2 a,aP st (k+1) r as with
  |some (x,t1),some (y,t2)=>some ((x,y),t1++t2)
  |_,_=>none
 |_,_,_=>none
def Wa (st:St):(c:CK)->c.den->AC->Option St
 | .row e _,ys, .own l _ len=>match st.at l with
  |some (.arr fr tr e' te xs)=>if h:e=e'/\List.length ys=len/\xs.length=len then some (st.Fh l (.arr (fr&&e'.flat) (tr&&e'.flat) e' te (h.1▸ys))) else none
  |_=>none
 | .Dp e _,ys, .own l _ len=>match st.at l with
  |some (.Cz e' te xs)=>if h:e=e'/\List.length ys=len/\xs.length=len then some (st.Fh l (.Cz e' te (h.1▸ys))) else none
  |_=>none
 | .row e _,ys, .sub l i _=>match st.at l with
  |some (.Cz e' te xs)=>if h: .slice e=e' then (match xs[i]? with
   |some y=>if List.length ys=List.length (h▸y:(Ty.slice e).den) then some (st.Fh l (.Cz e' te (xs.set i (h▸(ys:(Ty.slice e).den))))) else none
   |none=>none) else none
  |_=>none
 | .Dp e _,ys, .sub l i _=>match st.at l with
  |some (.Cz e' te xs)=>if h: .slice e=e' then (match xs[i]? with
   |some y=>if List.length ys=List.length (h▸y:(Ty.slice e).den) then some (st.Fh l (.Cz e' te (xs.set i (h▸(ys:(Ty.slice e).den))))) else none
   |none=>none) else none
  |_=>none
 |_,_, .Hf=>some st
 |_,_,_=>none
def AP (st:St) (e:Ty) (ys:List e.den):AC->Option St
 | .own l _ _=>match st.at l with
  |some (.arr fr tr e' te xs)=>if h:e=e'/\List.length ys=xs.length then some (st.Fh l (.arr fr tr e' te (h.1▸ys))) else none
  |_=>none
 |_=>none
def Dz:(cs:List (Bool×CK))->IOs.den cs->List AC->St->Option St
 | [],_,_,st=>some st
 |(true, .Ee _)::r,x,_::as,st=>Dz r x as st
 |(true, .row e te)::r,x,a::as,st=>match Wa st (.row e te) x.1 a with
  |some st'=>Dz r x.2 as st'
  |none=>none
 |(true, .Dp e te)::r,x,a::as,st=>match Wa st (.Dp e te) x.1 a with
  |some st'=>Dz r x.2 as st'
  |none=>none
 |(true, .part e _)::r,x,a::as,st=>match AP st e x.1 a with
  |some st'=>Dz r x.2 as st'
  |none=>none
 |(true, .Ai _ _ _)::r,x,_::as,st=>Dz r x as st
 |(false,_)::r,x,_::as,st=>Dz r x as st
 |_,_,_,_=>none
def Ax (dead part:List Nat) (c:AC):AC:=if c.refs.any (λl=>dead.contains l) then .undef else match c with
 | .sub l i c=>if part.contains l then .undef else .sub l i c
 | .Fk l i c=>if part.contains l then .undef else .Fk l i c
 |c=>c
def Qb:List (Nat×OB)->List Nat->List (Nat×OB)
 | [],_=> []
 |(k,b)::r,dead=>if dead.contains k then Qb r dead else (k,b)::Qb r dead
def St.Wk (st:St) (dead part:List Nat):St:=let s:=st.Gg (Ax dead part); {s with heap:=Qb s.heap dead}
def Mw (st:St) (l j m:Nat) (e:Ty) (te:TypeId) (rows:List (List e.den)) (xs:List e.den) (kp:Option (Nat×Nat)):St:=
 (st.Wk [m] [l]).Fh l (.Ai e te (rows.set j xs) none kp)
def Vh (j:Nat):Option (Nat×Nat)->Option (Nat×Nat)
 |none=>none
 |some p=>some (p.1,min p.2 j)
def Uz (st:St) (t:TypeId) (p v:AV):Option St:=
 match T.ty t,p with
 |some τ, .at (.Fk l i j)=>match settle st v with
  |some (v',st')=>match st'.at l,Cq st' τ v' with
   |some (.Ai e te rows none kp),some (_,x)=>if h:τ=e then some (st'.Fh l (.Ai e te (rows.set i ((rows.getD i []).set j (h▸x))) none kp)) else none
   |_,_=>none
  |none=>none
 |some τ, .at (.Fo l j)=>match st.at l,v with
  |some (.Ai e te rows out kp), .at (.own m off len)=>match st.at m with
   |some (.arr _ _ e' _ xs)=>if h:e'=e/\(Nat.blt l Ak&&(!Nat.beq m l&&!τ.Ab))=true/\off=0/\len=xs.length/\(out=none\/out=some j) then some (Mw st l j m e te rows (h.1▸xs) (Vh j kp)) else none
   |_=>none
  |_,_=>none
 |_,_=>none
def DH (st:St):AV->Bool
 | .at (.Fk _ _ _)=>true
 | .at (.Fo l _)=>match st.at l with
  |some (.Ai _ _ _ _ _)=>true
  |_=>false
 |_=>false
def Jw (st:St) (t:TypeId) (p v:AV):Option St:=match DH st p with
 |true=>Uz T st t p v
 |false=>Nw T st t p v
def Kv (st:St) (k m:Nat) (b:OB):St:=let s:=st.Wk [m,k] []; {s with heap:=Iw s.heap k b}
def Yn (t:TypeId):Option (TypeId×Ty):=(T.elem t).bind λte=>(T.DG te).map λe=>(te,e)
def Qg (st:St) (dst:Nat) (t:TypeId) (l c:AV):Option (AV×St):=
 match Yn T t with
 |none=>Uw T st dst t l c
 |some (te,e)=>match l,c with
  | .at (.data _ (.int _) n), .at (.data _ (.int _) m)=>if TS n (Bj+1)=true/\n=m/\dst<Ak then some (.at (.own dst 0 n.toNat),Kv st dst dst (.Ai e te (List.replicate n.toNat []) none none)) else none
  |_,_=>none
def El (st:St) (dst:Nat) (t:TypeId) (len:Nat) (parts:Array (Nat×Operand)):Option (AV×St):=
 match Yn T t with
 |none=>Hj T st dst t len parts
 |some (te,e)=>match parts.toList with
  | [(0,x)]=>match st.ev x with
   | .at (.own m off ln)=>match st.at m with
    |some (.arr _ _ e' _ xs)=>if h:e'=e/\(Nat.beq len 1&&(Nat.blt dst Ak&&Nat.blt m Ak))=true/\off=0/\ln=xs.length then some (.at (.own dst 0 1),Kv st dst m (.Ai e te [h.1▸xs] none none)) else none
    |_=>none
   |_=>none
  |_=>none
def Lf (st:St) (dst:Nat) (t:TypeId) (x y:Operand):Option (AV×St):=
 match Yn T t with
 |none=>Le T st dst t x y
 |some (te,e)=>match st.ev x,st.ev y with
  | .at (.own l off len), .at (.own m MB nL)=>match st.at l,st.at m with
   |some (.Ai e1 te1 A none _),some (.Ai e2 qE B none _)=>
    if h:(e1=e/\e2=e)/\(decide (te1=te)&&decide (qE=te)&&(Nat.blt l Ak&&(Nat.blt m Ak&&!Nat.beq m l)))=true/\(off=0/\len=A.length)/\(MB=0/\nL=B.length)/\0<B.length/\A.length+B.length<=Bj then
     some (.at (.own l 0 (A.length+B.length)),Kv st l m (.Ai e te ((h.1.1▸A:List (List e.den))++(h.1.2▸B:List (List e.den))) none none))
    else none
   |_,_=>none
  |_,_=>none
def pU (fr:Bool):(c:CK)->c.den->Option OB
 | .Ee _,_=>none
 | .row e te,xs=>some (.arr (fr&&e.flat) false e te xs)
 | .Dp e te,xs=>some (.Cz e te xs)
 | .part e te,x=>some (.arr (fr&&e.flat) false e te x.1)
 | .Ai e te _,xs=>some (.Ai e te xs none none)
def wP (H:List (Nat×OB)) (l:Nat):Option OB->List (Nat×OB)
 |some b=>Iw H l b
 |none=>H
def Qp (fr:Bool) (key:Nat->Nat):(k:Nat)->(cs:List CK)->CKs.den cs->List (Nat×OB)->List (Nat×OB)
 |_,[],_,H=>H
 |k,c::r,x,H=>Qp fr key (k+1) r x.2 (wP H (key k) (pU fr c x.1))
def Vl (key:Nat->Nat):(k:Nat)->(cs:List CK)->CKs.den cs->List AC
 |_,[],_=> []
 |k,c::r,x=>(match c,x.1 with
  | .Ee τ,y=> .data τ.flat τ y
  | .row _ _,xs=> .own (key k) 0 (List.length xs)
  | .Dp _ _,xs=> .own (key k) 0 (List.length xs)
  | .Ai _ _ _,xs=> .own (key k) 0 (List.length xs)
  | .part _ _,_=> .undef)::Vl key (k+1) r x.2
def Sx:List (Option Nat)->List AC->List (Bool×List AC)
 |none::s,a::as=>(false,[a])::Sx s as
 |some n::s,as=>(true,as.take n)::Sx s (as.drop n)
 |_,_=> []
def Acb (Dh:Bool) (sh:List (Option Nat)) (as:List AC):Option AV:=
 if Dh then some (.Ht (Sx sh as)) else match Ml sh as with
  | [v]=>some v
  | []=>some .undef
  |_=>none
def gR (tks:List (Nat×Loc)):List Nat:=(tks.filter λt=>Nat.blt t.1 Ak&&!t.2.reads).map λt=>t.2.Pq
def whole (tks:List (Nat×Loc)):List Nat:=tks.flatMap λt=>match t.2 with| .row l=> [l]|_=> []
def uU (tks:List (Nat×Loc)):List Nat:=(tks.filter λt=>t.2.reads).map λt=>t.2.Pq
def wZ (ins:List (Bool×CK)) (te:TypeId) (used:List Nat):List (Nat×Loc)->Option Nat
 | []=>none
 |(k, .row l)::r=>if Nat.blt k Ak&&(!used.contains l&&(match ins[k-500000]? with
   |some (false, .row _ Kz)=>decide (Kz=te)
   |some (false, .Dp _ Kz)=>decide (Kz=te)
   |some (false, .Ai _ Kz _)=>decide (Kz=te)
   |_=>false)) then some l else wZ ins te used r
 |_::r=>wZ ins te used r
def zH (ins:List (Bool×CK)) (tks:List (Nat×Loc)) (d:Nat):(k:Nat)->(used:List Nat)->List CK->List Nat
 |_,_,[]=> []
 |k,used,c::r=>match (match c with
   | .row _ te=>wZ ins te used tks
   | .Dp _ te=>wZ ins te used tks
   | .Ai _ te _=>wZ ins te used tks
   |_=>none) with
  |some l=>l::zH ins tks d (k+1) (l::used) r
  |none=>MA d k::zH ins tks d (k+1) used r
def gN (s:MSpec) (tks:List (Nat×Loc)) (d:Nat):List Nat:=zH s.ins tks d 0 [] s.outs
def Bt (ks:List Nat) (j:Nat):Nat:=match ks[j]? with
 |some l=>l
 |none=>Ak+j
def tG (ks:List Nat) (n:Nat):Bool:=Nat.beq ks.length n&&(Sw ks&&ks.all λl=>Nat.blt l Ak)
def DC (st:St) (l:List Nat):Bool:=l.all λk=>match st.at k with|some (.arr fr _ _ _ _)=>fr|_=>false
def EB (st:St) (s:MSpec) (args:List AV):Option (List Nat×List AC×List AV):=
 match s.ptr with
 |none=>some ([],[],args)
 |some p=>match args with
  | .at (.Dn l i)::rest=>match st.at l with
   |some (.var tid vs)=>if tid=p.1/\vs.length=p.2/\i=0 then some ([l],vs,rest) else none
   |_=>none
  |_=>none
def Pa:List (Bool×CK)->List AC->Bool
 |(true, .row _ _)::r, .own _ _ _::as=>Pa r as
 |(true, .Dp _ _)::r, .own _ _ _::as=>Pa r as
 |(true,_)::_,_::_=>false
 |(false,_)::r,_::as=>Pa r as
 |_,as=>as.isEmpty
def bo {α:Type} :List (Bool×CK)->List α->List α->List α
 |(true,_)::r,v::vs,as=>v::bo r vs as
 |(false,_)::r,_::vs,a::as=>a::bo r vs as
 |_,vs,_=>vs
def og:List (Bool×CK)->Nat->Nat
 |(true,_)::r,n+1=>og r n
 |(false,_)::r,n+1=>og r n+1
 |_,_=>0
def MSpec.Tg (s:MSpec):Nat:=match s.ptr with|none=>0|some p=>og s.ins p.2
def lK (ins:List (Bool×CK)) (as:List AC) (pl:List Nat) (st:St):St:=
 match pl with
 | []=>st
 |l::_=>match st.at l with
  |some (.var tid vs)=>st.Fh l (.var tid (bo ins vs as))
  |_=>st
def Mt (d:Nat):Nat:=MA d 999
def gk (s:MSpec) (d:Nat):List Nat:=match s.rp with|none=> []|some _=> [Mt d]
def Lu (s:MSpec) (tks:List (Nat×Loc)) (d:Nat):List Nat:=gN s tks d++gk s d
def iq (H:List (Nat×OB)) (l:Nat):Bool:=match Ad H l with
 |some (.Ai _ _ _ _ _)=>true
 |_=>false
def Vg (H:List (Nat×OB)) (ks:List Nat) (tks:List (Nat×Loc)):List (Nat×Nat)->List Nat
 | []=> []
 |(k,j)::r=>match tks.find? (λt=>Nat.beq t.1 (Bq false k)),ks[j]? with
  |some (_, .row l),some l'=>if Nat.beq l' l&&iq H l then l::Vg H ks tks r else Vg H ks tks r
  |_,_=>Vg H ks tks r
def mc (H:List (Nat×OB)) (l:Nat):Nat:=match Ad H l with
 |some (.Ai _ _ rows _ _)=>rows.length
 |_=>0
def Xw (H:List (Nat×OB)) (ls:List Nat) (n:Nat):List AV->Bool
 | []=>true
 | .at (.sub l i _)::r=>(!ls.contains l||(Nat.blt i n&&Nat.blt i (mc H l)))&&Xw H ls n r
 |_::r=>Xw H ls n r
def Gt (ls:List Nat):List AV->List AV->List AV
 | .at (.sub l i c)::r,v::vs=>(if ls.contains l then .at (.sub l i c) else v)::Gt ls r vs
 |_::r,v::vs=>v::Gt ls r vs
 |_,vs=>vs
def XB:Option OB->Option (Nat×Nat)
 |some (.Ai _ _ _ _ kp)=>kp
 |_=>none
def OB.xP (b:OB) (kp:Option (Nat×Nat)):OB:=match b with
 | .Ai e te rows out _=> .Ai e te rows out kp
 |b=>b
def Xq (H0:List (Nat×OB)) (ls:List Nat) (n:Nat):List (Nat×OB)->List (Nat×OB)
 | []=> []
 |(l,b)::r=>(l,if ls.contains l then b.xP (Vh n (XB (Ad H0 l))) else b)::Xq H0 ls n r
def fV (br st:St) (ls:List Nat) (n:Nat):St:=match ls with
 | []=>st
 |_=> {tmps:=Gt ls br.tmps st.tmps,heap:=Xq br.heap ls n st.heap}
def RE (s:MSpec) (d:Nat) (as:List AC):Option AV:=match s.rp with
 |none=>Acb s.Dh s.Ef as
 |some _=>some (.at (.Dn (Mt d) 0))
def fE (st st1:St) (d:Nat) (s:MSpec) (pl:List Nat) (tks:List (Nat×Loc)) (r:CKs.den s.outs):St:=
 let ks:=Lu s tks d
 let key:=Bt ks
 let st2:=lK s.ins (Vl key 0 s.outs r) pl (st1.Wk (gR tks++ks++(if s.flat then [] else uU tks)) (whole tks))
 {st2 with heap:=Qp (DC st (gR tks)) key 0 s.outs r (wP st2.heap (Mt d) (s.rp.map λtid=> .var tid ((Vl key 0 s.outs r).drop s.Tg)))}
def Qe (st:St) (dst:Option Nat) (s:MSpec) (args:List AV):Option (AV×St):=
 match EB st s args with
 |none=>none
 |some (pl,vs,rest)=>match ungroup s.Fb rest with
 |none=>none
 |some jd=>match aP st 0 s.ins (vs++jd) with
  |none=>none
  |some (x,tks)=>if Sw (tks.map λt=>t.2.Pq)&&tG (Lu s tks (dst.getD 0)) (s.outs.length+(gk s (dst.getD 0)).length)&&Nat.blt s.outs.length 1000&&Nat.blt s.ins.length 1000&&(Pa s.ins vs&&pl.all λl=>!((tks.map λt=>t.2.Pq)++Lu s tks (dst.getD 0)).contains l) then match s.fn x with
   |none=>none
   |some (r,o)=>match Dz s.ins o (vs++jd) st with
    |none=>none
    |some st1=>match RE s (dst.getD 0) ((Vl (Bt (Lu s tks (dst.getD 0))) 0 s.outs r).drop s.Tg) with
     |none=>none
     |some v=>if Xw (fE st st1 (dst.getD 0) s pl tks r).heap (Vg st.heap (Lu s tks (dst.getD 0)) tks s.keeps) (s.Ci x) st.tmps=true then
       some (v,fV st (fE st st1 (dst.getD 0) s pl tks r) (Vg st.heap (Lu s tks (dst.getD 0)) tks s.keeps) (s.Ci x)) else none
   else none
def Ji:List Operand->St->Option St
 | [],st=>some st
 |x::r,st=>match settle st (st.ev x) with
  |some (_,st')=>Ji r st'
  |none=>none
def ao (s:Spec) (args:List AV):Bool:=!(s.fresh||s.res.flat||args.all (·.settled))
def evalOp (Γ:Env) (st:St) (o:Oper):Option (AV×St):=
 match o.op with
 | .assign x=>match st.ev x,o.dst,(T.elem o.type).bind λte=>(T.ty te).map λe=>(te,e) with
  | .at .Hf,some d,some (te,e)=>if d<Ak then some (.at (.own d 0 0),st.new d (.arr (T.ng||e.flat) T.uP e te [])) else none
  |v,_,_=>some (v,st)
 | .alloc t=>match o.dst,T.ty t with
  |some d,some τ=>mkVar T st d t τ (zeroCells τ)
  |_,_=>none
 | .box t x=>match o.dst,T.ty t with
  |some d,some τ=>match cellsOf τ (st.ev x) with
   |some cs=>mkVar T st d t τ cs
   |none=>none
  |_,_=>none
 | .store t p x=>(Jw T st t (st.ev p) (st.ev x)).map λs=>(.undef,s)
 | .makeSlice t l c=>match o.dst with
  |some d=>Qg T st d t (st.ev l) (st.ev c)
  |none=>none
 | .makeMap t none=>match o.dst with
  |some d=>Nv T st d t
  |none=>none
 | .mapUpdate t m k x=>(En T st t (st.ev m) (st.ev k) (st.ev x)).map λs=>(.undef,s)
 | .insert t m k x=>(En T st t (st.ev m) (st.ev k) (st.ev x)).map λs=>(.undef,s)
 | .buildSlice t len parts=>match o.dst with
  |some d=>El T st d t len parts
  |none=>none
 | .build t parts=>(Qd T st t parts).map λv=>(v,st)
 | .call {callee:= .builtin .append,args,argTypes} =>match o.dst,args.toList,argTypes.toList with
  |some d,[x,y],[t,t']=>if t=t' then Lf T st d t x y else none
  |_,_,_=>none
 | .call {callee:= .builtin .copy,args,argTypes} =>match args.toList,argTypes.toList with
  | [x,y],[t,t']=>ca T st t t' (st.ev x) (st.ev y)
  |_,_=>none
 | .call {callee:= .builtin .clear,args,argTypes} =>match args.toList,argTypes.toList with
  | [x],[t]=>(evalClear T st t (st.ev x)).map λs=>(.undef,s)
  |_,_=>none
 | .call {callee:= .value (.func f),args, .. } =>match Γ f with
  |some (.m s)=>Qe st o.dst s (args.toList.map st.ev)
  |some (.q s)=>if ao s (args.toList.map st.ev) then (match Ji args.toList st with
   |some st1=>(Cg T Γ st1 o).map λv=>(v,st1)
   |none=>none) else (Cg T Γ st o).map λv=>(v,st)
  |_=>(Cg T Γ st o).map λv=>(v,st)
 |_=>(Cg T Γ st o).map λv=>(v,st)
def au (e:Ty):Nat->List (Nat×Operand)->St->Option (Bool×List e.den)
 |_,[],_=>some (true,[])
 |i,(j,x)::r,st=>
  if i=j/\(st.ev x).settled=true then match Cq st e (st.ev x),au e (i+1) r st with
   |some (fr,y),some (Ox,ys)=>some (fr&&Ox,y::ys)
   |_,_=>none
  else none
def Uv (st:St) (t:TypeId) (len:Nat) (parts:Array (Nat×Operand)):Option AV:=
 match T.elem t with
 |none=>none
 |some te=>match T.ty te with
  |none=>none
  |some e=>if parts.size=len/\len<=64/\e.size<=64 then (au e 0 parts.toList st).map λp=> .at (.data p.1 (.slice e) p.2) else none
def Rv (Γ:Env) (st:St) (o:Oper):Option AV:=
 match o.op with
 | .buildSlice t len parts=>Uv T st t len parts
 | .build t parts=>Qd T st t parts
 |_=>Cg T Γ st o
def LO (q:Bool) (Γ:Env) (o:Oper):Bool:=
 match o.op with
 | .buildSlice _ _ _| .build _ _=>!q
 | .alloc _| .box _ _| .store _ _ _| .makeSlice _ _ _| .makeMap _ _| .mapUpdate _ _ _ _| .insert _ _ _ _=>true
 | .assign (.const _)=>true
 | .call {callee:= .builtin .append, .. } =>true
 | .call {callee:= .builtin .copy, .. } =>true
 | .call {callee:= .builtin .clear, .. } =>true
 | .call {callee:= .value (.func f), .. } =>match Γ f with
  |some (.m _)=>true
  |_=>false
 |_=>false
def Ch (Γ:Env) (ops:Array Oper) (st:St) (o:Oper):Option St:=
 match o.guard with
 |none=>(evalOp T Γ st o).map λr=>r.2.put o.dst r.1
 |some (j,want)=>match Py st ((ops[j]?).bind (·.dst)) with
  |some (some b)=>if b==want then (evalOp T Γ st o).map λr=>r.2.put o.dst r.1 else some (st.put o.dst (.at .skip))
  |some none=>some (st.put o.dst (.at .skip))
  |none=>none
def To (Γ:Env) (ops:Array Oper):List Oper->St->Option St
 | [],st=>some st
 |o::r,st=>match Ch T Γ ops st o with
  |some st'=>To Γ ops r st'
  |none=>none
def Ew (q:Bool) (Γ:Env) (ops:Array Oper):List Nat:=
 (List.range ops.size).foldl (init:= []) λacc i=>match ops[i]? with
  |some o=>if LO q Γ o||o.after.any (λe=>Region.binds .any e&&acc.contains e.on) then acc++ [i] else acc
  |none=>acc
def Wn (q:Bool) (Γ:Env) (ops:Array Oper):List Nat:=(List.range ops.size).filter λi=>!(Ew q Γ ops).contains i
def im (ops:Array Oper) (hd tl:List Nat) (i:Nat):Bool:=
 match ops[i]? with
 |some o=>(match o.op,o.guard with
  | .move (.tmp _),none=>true
  |_,_=>false)&&!((tl.take 1++hd).any λj=>decide (i<j)&&Region.waitsFor .any ops j i)
 |none=>false
def Ow (q:Bool) (Γ:Env) (ops:Array Oper):List Nat:=(Wn q Γ ops).filter λi=>im ops (Wn q Γ ops) (Ew q Γ ops) i
def Oy (q:Bool) (Γ:Env) (ops:Array Oper):List Nat:=(Wn q Γ ops).filter λi=>!im ops (Wn q Γ ops) (Ew q Γ ops) i
def dF (q:Bool) (Γ:Env) (ops:Array Oper):List Nat:=Ow q Γ ops++Oy q Γ ops
def LF (ops:Array Oper) (i:Nat):Bool:=match ops[i]? with
 |some o=>(match o.op,o.guard with
  | .extract _ _,none=>true
  |_,_=>false)
 |none=>false
def iP (ops:Array Oper):List Nat->Array Bool->Bool
 | [],Ac=>(Region.ready .any ops Ac).isEmpty
 |k::r,Ac=>(decide (Region.ready .any ops Ac= [k])||(LF ops k&&((Region.ready .any ops Ac).contains k&&Region.free .any ops Ac k)))&&iP ops r (Ac.setIfInBounds k true)
def jE (ops:Array Oper) (tl:List Nat):List Nat->Array Bool->Bool
 | [],Ac=>iP ops tl Ac
 |k::r,Ac=>(Region.ready .any ops Ac).contains k&&Region.free .any ops Ac k&&jE ops tl r (Ac.setIfInBounds k true)
def oB (ops:Array Oper) (hd:List Nat):List Nat->Bool
 | []=>true
 |f::r=>(hd.all λi=>(f::hd).any λj=>decide (i<j)&&Region.waitsFor .any ops j i)&&r.all λt=>(f::r).any λk=>Region.waitsFor .any ops t k
def hJ (ops:Array Oper) (tl hd:List Nat):List Nat->Array Bool->Bool
 | [],Ac=>jE ops tl hd Ac
 |k::r,Ac=>(Region.ready .any ops Ac).contains k&&Region.free .any ops Ac k&&hJ ops tl hd r (Ac.setIfInBounds k true)
def dQ (q:Bool) (Γ:Env) (ops:Array Oper):Bool:=
 Region.noSelect ops&&((Ow q Γ ops).length+((Oy q Γ ops).length+(Ew q Γ ops).length)==ops.size)&&hJ ops (Ew q Γ ops) (Oy q Γ ops) (Ow q Γ ops) (Array.replicate ops.size false)&&oB ops (Oy q Γ ops) (Ew q Γ ops)
def bG (Γ:Env) (ops:Array Oper) (st:St) (o:Oper):Option AV:=
 match o.guard with
 |none=>Rv T Γ st o
 |some (j,want)=>match Py st ((ops[j]?).bind (·.dst)) with
  |some (some b)=>if b==want then Rv T Γ st o else some (.at .skip)
  |some none=>some (.at .skip)
  |none=>none
def Dx (Γ:Env) (ops:Array Oper):List Nat->St->Option St
 | [],st=>some st
 |i::r,st=>match ops[i]? with
  |none=>none
  |some o=>match bG T Γ ops st o with
   |some v=>Dx Γ ops r (st.put o.dst v)
   |none=>none
def Ix (Γ:Env) (ops:Array Oper):List Nat->St->Option St
 | [],st=>some st
 |i::r,st=>match ops[i]? with
  |none=>none
  |some o=>match Ch T Γ ops st o with
   |some st'=>Ix Γ ops r st'
   |none=>none
def Lg (Γ:Env) (ops:Array Oper) (draw:Bool) (st:St):Option St:=
 if draw then (if dQ false Γ ops then (match Dx T Γ ops (dF false Γ ops) st with
  |some st'=>Ix T Γ ops (Ew false Γ ops) st'
  |none=>none) else if dQ true Γ ops then (match Dx T Γ ops (dF true Γ ops) st with
  |some st'=>Ix T Γ ops (Ew true Γ ops) st'
  |none=>none) else none)
 else To T Γ ops ops.toList st
def tA (ops:Array Oper) (i:Nat):Bool:=match ops[i]? with
 |some o=>(match o.op,o.guard with
  | .move (.tmp _),none=>true
  |_,_=>false)
 |none=>false
def dM (ops:Array Oper) (i:Nat):Bool:=match ops[i]? with
 |some o=>(match o.op,o.guard with
  | .move (.tmp _),none=>true
  | .nilCheck _,none=>true
  | .fieldAddr _ _ _,none=>true
  |_,_=>false)
 |none=>false
def Ack (q:Bool) (ops:Array Oper) (i:Nat):Bool:=match q with
 |true=>dM ops i
 |false=>tA ops i
def Es (q:Bool) (ops:Array Oper):List Nat->Array Bool->List Nat
 | [],_=> []
 |i::r,Ac=>if Ack q ops i&&((Region.ready .any ops Ac).contains i&&Region.free .any ops Ac i) then i::Es q ops r (Ac.setIfInBounds i true) else Es q ops r Ac
def LV (q:Bool) (ops:Array Oper):List Nat:=Es q ops (List.range ops.size) (Array.replicate ops.size false)
def dB (q:Bool) (ops:Array Oper):Bool:=Nat.ble (ops.size-(LV q ops).length) 8
def Kb (ops:Array Oper):List Nat:=LV (!dB false ops) ops
def Ec:List Nat->Array Bool->Array Bool
 | [],Ac=>Ac
 |i::r,Ac=>Ec r (Ac.setIfInBounds i true)
def anyS (Γ:Env) (ops:Array Oper) (K:St->Prop):Nat->Array Bool->St->Prop
 |0,Ac,st=>Region.ready .any ops Ac= []/\K st
 |f+1,Ac,st=>Region.ready .any ops Ac≠ []/\ ∀i∈Region.ready .any ops Ac,∃o st',ops[i]?=some o/\Ch T Γ ops st o=some st'/\anyS Γ ops K f (Ac.setIfInBounds i true) st'
def sC (Γ:Env) (ops:Array Oper) (draw:Bool) (st:St) (K:St->Prop):Prop:=
 (∃st',Lg T Γ ops draw st=some st'/\K st')\/
 (draw=true/\Region.noSelect ops=true/\ ∃br,Dx T Γ ops (Kb ops) st=some br/\anyS T Γ ops K (ops.size-(Kb ops).length) (Ec (Kb ops) (Array.replicate ops.size false)) br)
def uf (Γ:Env) (draw:Bool):Env:= λf=>match Γ f with
 |some (.b s m)=>some (if draw then .q s else .m m)
 |r=>r
inductive Gr where
 |normal
 |exit (id:Nat)
 |ret
def Fu (live:List Nat):Nat->List AV->List AV
 |_,[]=> []
 |i,v::r=>(if live.contains i then v else .undef)::Fu live (i+1) r
def AV.refs:AV->List Nat
 | .at a=>a.refs
 | .agg cs=>cs.flatMap AC.refs
 | .Uo _ _ _=> []
 | .Ht l=>l.flatMap λp=>p.2.flatMap AC.refs
def OB.refs:OB->List Nat
 | .var _ vs=>vs.flatMap AC.refs
 |_=> []
def Yl:List Nat->St->St
 | [],st=>st
 |l::r,st=>Yl r (st.forget l)
def jW (l k m:Nat):Nat:=if m=l then k else m
def Oc (l k:Nat):AC->AC
 | .own m off len=> .own (jW l k m) off len
 | .Dn m i=> .Dn (jW l k m) i
 | .Fo m i=> .Fo (jW l k m) i
 | .clo f Bu=> .clo f (Bu.map λp=>(jW l k p.1,p.2))
 | .Fw m=> .Fw (jW l k m)
 | .sub m i c=> .sub (jW l k m) i c
 | .Fk m i c=> .Fk (jW l k m) i c
 |a=>a
def St.rename (l k:Nat) (st:St):St:=
 match Ad st.heap k,Ad st.heap l with
 |none,some b=>if (Nat.blt l Ak&&Nat.blt k Ak)=true then
   (let s:=st.Gg (Oc l k); {s with heap:=Iw (Td s.heap l) k (b.map (Oc l k))}) else st
 |_,_=>st
def Hq:Nat->Nat->St->St
 |0,_,st=>st
 |n+1,t,st=>Hq n (t+1) (match st.get t with
  | .at (.own l _ _)=>match Ad st.heap l with
   |some (.arr _ _ _ _ _)=>if (st.tmps.take t).any (λv=>v.refs.contains l) then st else st.rename l (700000+t)
   |_=>st
  |_=>st)
def Ww:Nat:=1000000007
def OB.Ek (flat all one:Bool):OB->OB
 | .arr fr tr e tid xs=> .arr (fr&&!(all||(one||(flat&&e.flat)))) (tr&&!all) e tid xs
 |b=>b
def So:Nat:=1000000009
def Sn:Nat:=1100000000
def po:Nat:=1200000000
def St.Ek (live:List Nat) (st:St):St:= {st with heap:=st.heap.map λp=>(p.1,p.2.Ek (live.contains So) (live.contains (Sn+p.1)) (live.contains (po+p.1)))}
def Lo:Nat:=900000000
def Vm (t:Nat) (st:St):St:=match st.get t with
 | .at (.own l off len)=>match Ad st.heap l with
  |some (.arr fr tr e tid xs)=>if Nat.blt l Ak=true then (st.new l (.arr fr tr e tid ((xs.drop off).take len))).put (some t) (.at (.own l 0 ((xs.drop off).take len).length)) else st
  |_=>st
 |_=>st
def Jk:Nat:=1900000000
def JN:Nat:=950000000
def Kd (c:Nat) (st:St):St:=match Ad st.heap Jk with
 |some (.var _ vs)=>match vs[c]? with
  |some (.own l off len)=>match Ad st.heap l with
   |some (.arr fr tr e te xs)=>if Nat.blt l Ak=true then match Ad (st.new l (.arr fr tr e te ((xs.drop off).take len))).heap Jk with
     |some (.var tid vs')=>(st.new l (.arr fr tr e te ((xs.drop off).take len))).Fh Jk (.var tid (vs'.set c (.own l 0 ((xs.drop off).take len).length)))
     |_=>st
    else st
   |_=>st
  |_=>st
 |_=>st
def Jt (live:List Nat):Nat->Nat->St->St
 |0,_,st=>st
 |n+1,c,st=>Jt live n (c+1) (if live.contains (JN+c) then Kd c st else st)
def Jh (live:List Nat):Nat->Nat->St->St
 |0,_,st=>Jt live 16 0 st
 |n+1,t,st=>Jh live n (t+1) (if live.contains (Lo+t) then Vm t st else st)
def St.clean (live:List Nat) (st:St):St:=
 let s:St:= {st with tmps:=Fu live 0 st.tmps}
 let r1:=s.tmps.flatMap AV.refs
 let r2:=r1++(s.heap.filter λp=>r1.contains p.1).flatMap λp=>p.2.refs
 let s2:=Yl ((s.heap.map (·.1)).filter λl=>!r2.contains l&&Nat.blt l Ak) s
 let s2:=if live.any (λt=>Nat.ble Lo t&&Nat.blt t Ww) then Jh live s2.tmps.length 0 s2 else s2
 let s3:=if live.contains Ww then Hq s2.tmps.length 0 s2 else s2
 if live.any (λt=>Nat.ble So t) then s3.Ek live else s3
def Cd:Code->Nat
 | .region id _ _=>id
 | .seq a _=>Cd a
 | .cond _ a _=>Cd a
 | .block _ c=>Cd c
 | .loop c=>1000+Cd c
 |_=>0
def UN (a b:List Nat):List Nat:=a++b.filter λt=>!a.contains t
def tN:List Oper->List Nat->List Nat
 | [],out=>out
 |o::r,out=>UN (o.op.operands.toList.filterMap λ | .tmp t=>some t|_=>none) (match o.dst with|some d=>(tN r out).filter (·!=d)|none=>tN r out)
def ze:List (Nat×List Nat)->Nat->List Nat
 | [],_=> []
 |(k,l)::r,id=>if k=id then l else ze r id
def kU:Code->List (Nat×List Nat)->List Nat->List Nat->List Nat×List (Nat×List Nat)
 | .region _ ops _,_,_,out=>(tN ops.toList out,[])
 | .seq a b,env,ret,out=>let rb:=kU b env ret out;let ra:=kU a env ret rb.1;(ra.1,ra.2++rb.2)
 | .cond c a b,env,ret,out=>let ra:=kU a env ret out;let rb:=kU b env ret out
  (UN (match c with| .tmp t=> [t]|_=> []) (UN ra.1 rb.1),ra.2++rb.2)
 | .block id c,env,ret,out=>kU c ((id,out)::env) ret out
 | .exit id,env,_,_=>(ze env id,[])
 | .ret,_,ret,_=>(ret,[])
 | .loop c,env,ret,_=>let l:=(kU c env ret []).1;let r:=kU c env ret l;(l,(Cd c,l)::r.2)
 |_,_,_,out=>(out,[])
def tP:List ResultVar->List Nat
 | []=> []
 | .tmp t::r=>t::tP r
 | .cell p _::r=>p::tP r
def tM (marks:List Nat) (fn:Func) (c:Code):Nat->List Nat:=let ret:=tP fn.results.toList;let g:=ze (kU c [] ret ret).2;match marks with
 | []=>g
 |m=> λid=>g id++m
def zX (K:St->Prop) (Q:Gr->St->Prop):Gr->St->Prop
 | .normal,s=>K s
 |e,s=>Q e s
def rG (id:Nat) (Q:Gr->St->Prop):Gr->St->Prop
 | .exit FO,s=>if FO=id then Q .normal s else Q (.exit FO) s
 |e,s=>Q e s
def MQ (ops:Array Oper) (t:Nat):Bool:=ops.toList.any λo=>match o.op with
 | .extract (.tmp s) _=>Nat.beq s t
 | .move (.tmp s)=>Nat.beq s t
 | .assign (.tmp s)=>Nat.beq s t
 |_=>false
def Jd (ops:Array Oper):Nat->List AV->List AV
 |_,[]=> []
 |i, .Ht l::r=>(if MQ ops i=true then .Ht l else .undef)::Jd ops (i+1) r
 |i,v::r=>v::Jd ops (i+1) r
def St.gQ (ops:Array Oper) (st:St):St:= {st with tmps:=Jd ops 0 st.tmps}
inductive Iv (Γ:Env) (live:Nat->List Nat):Code->St->(Gr->St->Prop)->Prop where
 |skip {st:St} {Q:Gr->St->Prop} :Q .normal st->Iv Γ live .skip st Q
 |label {l:Nat} {st:St} {Q:Gr->St->Prop} :Q .normal st->Iv Γ live (.label l) st Q
 |exit {id:Nat} {st:St} {Q:Gr->St->Prop} :Q (.exit id) st->Iv Γ live (.exit id) st Q
 |ret {st:St} {Q:Gr->St->Prop} :Q .ret st->Iv Γ live .ret st Q
 |region {id:Nat} {ops:Array Oper} {draw:Bool} {st:St} {Q:Gr->St->Prop} :sC T (uf Γ draw) ops draw (st.gQ ops) (Q .normal)->Iv Γ live (.region id ops draw) st Q
 |seq {x y:Code} {st:St} {Q:Gr->St->Prop} (Q1:Gr->St->Prop):Iv Γ live x st Q1->(∀s,Q1 .normal s->Iv Γ live y s Q)->(∀e s,e≠ .normal->Q1 e s->Q e s)->Iv Γ live (.seq x y) st Q
 |cond {c:Operand} {x y:Code} {st:St} {fr t:Bool} {Q:Gr->St->Prop} :st.ev c= .at (.data fr .bool t)->(t=true->Iv Γ live x st Q)->(t=false->Iv Γ live y st Q)->Iv Γ live (.cond c x y) st Q
 |block {id:Nat} {c:Code} {st:St} {Q:Gr->St->Prop} (Q1:Gr->St->Prop):Iv Γ live c st Q1->(∀e s,Q1 e s->rG id Q e s)->Iv Γ live (.block id c) st Q
 |loop {c:Code} {st:St} {Q:Gr->St->Prop} (Q1:Gr->St->Prop):Iv Γ live c (st.clean (live (Cd c))) Q1->(∀s,Q1 .normal s->Iv Γ live (.loop c) s Q)->(∀e s,e≠ .normal->Q1 e s->Q e s)->Iv Γ live (.loop c) st Q
def Xt (st:St):List ResultVar->Option (List AV)
 | []=>some []
 | .tmp t::r=>(Xt st r).map λl=>st.get t::l
 | .cell p t::r=>match Kh T st t (st.get p),Xt st r with
  |some v,some l=>some (v::l)
  |_,_=>none
def gZ (s:Spec) (fn:Func) (st:St):Option (Bool×s.res.den):=
 match Xt T st fn.results.toList with
 |some [v]=>if s.Dh then none else Cq st s.res v
 |some [v,u]=>if s.Dh then Bp st s.res [v,u] else none
 |some [v,u,t]=>if s.Dh then Bp st s.res [v,u,t] else none
 |_=>none
def Mi:(τ:Ty)->τ.den->List AV
 | .pair a r,x=> .at (.data a.flat a x.1)::Mi r x.2
 |_,_=> []
def er (st:St):(c:CK)->AC->Option (c.den×List Nat)
 | .Ee τ,a=>if τ.flat||a.settled then (Bm st τ a).map λp=>(p.2,[]) else none
 | .row e te, .own l off len=>match st.at l with
  |some (.arr _ _ e' Kz xs)=>if h:e'=e/\Kz=te then some ((((h.1▸xs:List e.den).drop off).take len),[l]) else none
  |_=>none
 | .row _ _, .Hf=>some ([],[])
 | .Dp e te, .own l off len=>match st.at l with
  |some (.arr _ tr e' Kz xs)=>if h:e'=e/\Kz=te/\(tr||e.flat)=true then some ((((h.1▸xs:List e.den).drop off).take len),[l]) else none
  |some (.Cz e' Kz xs)=>if h:e'=e/\Kz=te then some ((((h.1▸xs:List e.den).drop off).take len),[l]) else none
  |_=>none
 | .Dp _ _, .Hf=>some ([],[])
 | .Ai e te _, .own l off len=>match st.at l with
  |some (.Ai e' Kz rows none _)=>if h:e'=e/\Kz=te/\off=0/\len=rows.length then some ((h.1▸rows:List (List e.den)),[l]) else none
  |_=>none
 |_,_=>none
def Ob (st:St):(cs:List CK)->List AC->Option (CKs.den cs×List Nat)
 | [],[]=>some ((),[])
 |c::r,a::as=>match er st c a,Ob st r as with
  |some (x,t1),some (y,t2)=>some ((x,y),t1++t2)
  |_,_=>none
 |_,_=>none
def kE (st:St) (l:Nat):(c:CK)->Option c.den
 | .Ee _=>none
 | .row e te=>match st.at l with
  |some (.arr _ _ e' Kz xs)=>if h:e'=e/\Kz=te then some (h.1▸xs) else none
  |_=>none
 | .Dp e te=>match st.at l with
  |some (.Cz e' Kz xs)=>if h:e'=e/\Kz=te then some (h.1▸xs) else none
  |_=>none
 | .part _ _=>none
 | .Ai _ _ _=>none
def Jb (st:St):(k:Nat)->(cs:List (Bool×CK))->Option (IOs.den cs)
 |_,[]=>some ()
 |k,(true, .Ee _)::r=>Jb st (k+1) r
 |k,(true, .Ai _ _ _)::r=>Jb st (k+1) r
 |k,(true, .row e te)::r=>match kE st (Bq true k) (.row e te),Jb st (k+1) r with
  |some x,some y=>some (x,y)
  |_,_=>none
 |k,(true, .Dp e te)::r=>match kE st (Bq true k) (.Dp e te),Jb st (k+1) r with
  |some x,some y=>some (x,y)
  |_,_=>none
 |k,(true, .part e te)::r=>match kE st (Bq true k) (.row e te),Jb st (k+1) r with
  |some x,some y=>some (x,y)
  |_,_=>none
 |k,(false,_)::r=>Jb st (k+1) r
def Jz:(k:Nat)->List (Bool×CK)->List Nat
 |_,[]=> []
 |k,(true, .Ee _)::r=>Jz (k+1) r
 |k,(true, .Ai _ _ _)::r=>Jz (k+1) r
 |k,(true,_)::r=>Bq true k::Jz (k+1) r
 |k,(false,_)::r=>Jz (k+1) r
def Er:(k:Nat)->List (Bool×CK)->List AC->Option (List AC)
 |_,_,[]=>some []
 |k,(true, .row _ _)::r, .own l _ _::as=>if Nat.beq l (Bq true k) then Er (k+1) r as else none
 |k,(true, .Dp _ _)::r, .own l _ _::as=>if Nat.beq l (Bq true k) then Er (k+1) r as else none
 |k,(false,_)::r,a::as=>(Er (k+1) r as).map λl=>a::l
 |_,_,_=>none
def cy (st:St):List AC->List (Bool×CK)->Prop
 | .own l off len::as,(true,_)::r=>(off=0/\match st.at l with
  |some (.arr _ _ _ _ xs)=>len=xs.length
  |some (.Cz _ _ xs)=>len=xs.length
  |_=>False)/\cy st as r
 |_::as,(false,_)::r=>cy st as r
 |_,_=>True
def AW (s:MSpec) (st:St) (l:List AV):Option (List AC×List Nat):=match s.rp with
 |none=>if s.Dh=Nat.blt 1 l.length then (ungroup s.Ef l).map λas=>(as,[]) else none
 |some tid=>match l with
  | [.at (.Dn m i)]=>match st.at m with
   |some (.var Nt vs)=>if Nt=tid/\i=0/\Nat.blt m Ak=true then some (vs,[m]) else none
   |_=>none
  |_=>none
def rM (st:St) (n:Nat) (as:List AC):List (Nat×Nat)->Prop
 | []=>True
 |(k,j)::r=>(match as[j]? with
  |some (.own l _ _)=>match st.at l with
   |some (.Ai _ _ _ _ (some p))=>p.1=Bq false k/\n<=p.2/\Nat.blt k 1000=true
   |_=>False
  |_=>False)/\rM st n as r
def dS (s:MSpec) (fn:Func) (x:Ins.den s.ins) (st:St) (cs:List AC) (P:CKs.den s.outs×IOs.den s.ins->Prop):Prop:=
 match Xt T st fn.results.toList with
 |none=>False
 |some l=>match AW s st l with
  |none=>False
  |some (as,ml)=>match Ob st s.outs (cs++as),Jb st 0 s.ins with
   |some (r,ls),some o=>(Sw (ml++ls++Jz 0 s.ins)&&Nat.blt s.ins.length 1000&&Nat.blt s.outs.length 1000&&s.LU)=true/\rM st (s.Ci x) (cs++as) s.keeps/\P (r,o)
   |_,_=>False
def JA (s:MSpec) (fn:Func) (x:Ins.den s.ins) (st:St) (P:CKs.den s.outs×IOs.den s.ins->Prop):Prop:=
 match s.ptr with
 |none=>dS T s fn x st [] P
 |some p=> ∃vs cs,st.at Jk=some (.var p.1 vs)/\vs.length=p.2/\Er 0 s.ins vs=some cs/\cy st vs s.ins/\dS T s fn x st cs P
def Tf (s:MSpec) (as:List AC):List AV:=match s.ptr with
 |none=>Ml s.Fb as
 |some p=> .at (.Dn Jk 0)::Ml s.Fb (as.drop p.2)
def kR (s:MSpec) (x:Ins.den s.ins):List (Nat×OB):=match s.ptr with
 |none=>Sd 0 s.ins x
 |some p=>Sd 0 s.ins x++ [(Jk, .var p.1 ((Ve 0 s.ins x).take p.2))]
def Si:List (Bool×CK)->Bool
 | []=>true
 |(true, .Ai _ _ _)::_=>false
 |_::r=>Si r
def ub (s:MSpec):Bool:=Si s.ins&&match s.ptr with
 |none=>true
 |some p=>Nat.ble p.2 s.ins.length
def RZ (Γ:Env) (s:MSpec) (fn:Func) (x:Ins.den s.ins) (P:CKs.den s.outs×IOs.den s.ins->Prop):Prop:=
 (Nat.blt s.ins.length 1000&&ub s)=true/\ ∃c,fn.body=some c/\Iv T Γ (tM T.marks fn c) c {tmps:=Tf s (Ve 0 s.ins x)++List.replicate (fn.ntmps-(Tf s (Ve 0 s.ins x)).length) .undef,heap:=kR s x}
  (λe st=>(∀id,e≠ .exit id)/\JA T s fn x st P)
def JB (Γ:Env) (s:Spec) (fn:Func) (x:s.arg.den) (P:s.res.den->Prop):Prop:=
 ∃c,fn.body=some c/\Iv T Γ (tM T.marks fn c) c {tmps:=Mi s.arg x++List.replicate (fn.ntmps-(Mi s.arg x).length) .undef,heap:= []}
  (λe st=>(∀id,e≠ .exit id)/\ ∃fr y,gZ T s fn st=some (fr,y)/\(fr||!s.fresh)=true/\P y)
end Go.Proofs.YtfolipnappekaaaGreat
