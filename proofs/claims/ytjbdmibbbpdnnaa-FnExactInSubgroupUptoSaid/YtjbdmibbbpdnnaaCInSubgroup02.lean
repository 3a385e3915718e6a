/-
  Part 3 of the proof that the statement FnExactInSubgroup holds.
-/
import Derived.Test.YtjbdmibbbpdnnaaCInSubgroup01
namespace Go.Proofs.Ytjbdmibbbpdnnaa
open Go.RowKit
def Dd:Nat->St->List AC->Option (List AC×St)
 |0,st,cs=>if cs.all (·.settled) then some (cs,st) else none
 |n+1,st,cs=>
  match cs.find? (λc=>!c.settled) with
  |none=>some (cs,st)
  |some (.own l _ _)=>match st.at l with
   |some (.arr fr _ e _ xs)=>Dd n (st.freeze l fr e xs) (cs.map (At l fr e xs))
   |some (.Cu e _ xs)=>Dd n (st.freeze l false e xs) (cs.map (At l false e xs))
   |_=>none
  |some (.Fq l)=>match st.at l with
   |some (.Nd v m)=>Dd n (st.Eb l v m) (cs.map (Cw l v m))
   |_=>none
  |some _=>none
def settle (st:St):AV->Option (AV×St)
 | .at (.own l off len)=>match st.at l with
  |some (.arr fr _ e _ xs)=>some (.at (.data fr (.slice e) ((xs.drop off).take len)),st.freeze l fr e xs)
  |some (.Cu e _ xs)=>some (.at (.data false (.slice e) ((xs.drop off).take len)),st.freeze l false e xs)
  |_=>none
 | .at (.Fq l)=>match st.at l with
  |some (.Nd v m)=>some (.at (.data false (.smap v) m),st.Eb l v m)
  |_=>none
 | .at a=>if a.settled then some (.at a,st) else none
 | .agg cs=>(Dd cs.length st cs).map λp=>(.agg p.1,p.2)
 | .Sv fr τ x=>some (.Sv fr τ x,st)
 | .Hz _=>none
def AC.refs:AC->List Nat
 | .own l _ _| .Dj l _| .Fc l _| .Fq l| .sub l _ _| .Fa l _ _=> [l]
 | .clo _ Bp=>Bp.map (·.1)
 |_=> []
def Rd:List Nat->Bool
 | []=>true
 |a::r=>!r.contains a&&Rd r
def Ty.tree:Ty->Bool
 | .int _| .bool| .str| .unit=>true
 | .slice e=>e.tree
 | .pair a r=>a.tree&&r.tree
 |_=>false
def Kp (st:St):AC->Bool
 | .data _ τ _=>τ.flat
 | .Gw=>true
 | .own l _ _=>match st.at l with
  |some (.arr _ tr e _ _)=>tr||e.flat
  |some (.Cu _ _ _)=>true
  |_=>false
 |_=>false
def Lo (st:St):AV->Bool
 | .at a=>Kp st a
 | .agg cs=>cs.all (Kp st)&&Rd (cs.flatMap AC.refs)
 |_=>false
def Ah:Nat:=1000000000
variable (T:Tab)
def xf (t:TypeId) (τ:Ty) (i:Nat):Option TypeId:=
 if τ.Ab then (List.range 24).findSome? λf=>match T.off t f with
  |some (o,u)=>if o=i then some u else none
  |none=>none
 else some t
def Tab.xq (te:TypeId):Option Ty:=if T.IF.contains te then (match T.ty te with
 |some (.slice e)=>some e
 |_=>none) else none
def Vw (te:TypeId) (e:Ty):OB:=match T.xq te with
 |some e'=> .Ai e' te [] none none
 |none=> .arr (T.mi||e.flat) T.rm e te []
def Mm (b:OB) (key l i:Nat) (st:St):St:=
 match st.at l with
 |some (.var _ vs)=>match vs[i]? with
  |some .Gw=>
   let s1:=st.new key b
   match s1.at l with
   |some (.var tid rq)=>s1.Ff l (.var tid (Mo rq i (.own key 0 0)))
   |_=>s1
  |_=>st
 |_=>st
def Ym (l:Nat) (t:TypeId) (τ:Ty):Nat->Nat->St->St
 |0,_,st=>st
 |n+1,i,st=>
  Ym l t τ n (i+1) (match ((xf T t τ i).bind T.elem).bind λte=>(T.ty te).map λe=>(te,e) with
   |some (te,e)=>Mm (Vw T te e) (100000+l*100+i) l i st
   |none=>st)
def Wt (l off:Nat) (t:TypeId) (τ:Ty):Nat->Nat->St->St
 |0,_,st=>st
 |n+1,i,st=>
  Wt l off t τ n (i+1) (match ((xf T t τ i).bind T.elem).bind λte=>(T.ty te).map λe=>(te,e) with
   |some (te,e)=>Mm (Vw T te e) (100000+l*100+(off+i)) l (off+i) st
   |none=>st)
def zeroCells:(τ:Ty)->List AC
 | .unit=> []
 | .pair a r=>zeroCells a++zeroCells r
 | .slice _=> [.Gw]
 | .oslice _=> [.Gw]
 | .ptr _=> [.Pf]
 | .optr _=> [.Pf]
 | .clo _ _=> [.undef]
 |τ=> [.data true τ τ.zero]
def cellsOf (τ:Ty):AV->Option (List AC)
 | .agg cs=>if τ.Ab&&cs.length==τ.size then some cs else none
 | .at (.data fr Ie x)=>if Ie=τ then some (Py fr Ie x) else none
 | .at .undef=>none
 | .at .skip=>none
 | .at a=>if τ.Ab then none else some [a]
 |_=>none
def mkVar (st:St) (l:Nat) (t:TypeId) (τ:Ty) (cs:List AC):Option (AV×St):=
 if Ah<=100000+l*100+cs.length then none else
 let s:=Ym T l t τ cs.length 0 (st.new l (.var t (cs.map (As l))))
 match s.at l with
 |some (.var _ _)=>some (.at (.Dj l 0),s)
 |_=>none
def Bk {α:Type} (xs:List α) (i:Nat) (ys:List α):List α:=xs.take i++ys++xs.drop (i+ys.length)
def Mr (st:St) (t:TypeId) (p v:AV):Option St:=
 match T.ty t,p with
 |some τ, .at (.Dj l i)=>match st.at l,cellsOf τ v with
  |some (.var tid vs),some cs=>if i+cs.length<=vs.length then some (if τ.Ab&&Nat.blt (100000+l*100+(i+cs.length)) Ah then Wt T l i t τ cs.length 0 (st.Ff l (.var tid (Bk vs i cs))) else st.Ff l (.var tid (Bk vs i cs))) else none
  |_,_=>none
 |some τ, .at (.Fc l j)=>match settle st v with
  |some (v',st')=>match st'.at l,Ci st' τ v' with
   |some (.arr fr tr e tid xs),some (Nj,x)=>if h:τ=e then (if j<xs.length then some (st'.Ff l (.arr (fr&&Nj) (tr&&(Lo st v&&e.tree)) e tid (xs.set j (h▸x)))) else none) else none
   |_,_=>none
  |none=>none
 |_,_=>none
def Bs:Nat:=4294967296
def Ht (st:St) (dst:Nat) (t:TypeId) (x y:Operand):Option (AV×St):=
 match T.elem t with
 |none=>none
 |some te=>match T.ty te,settle st (st.ev y) with
  |some e,some (y',st')=>match Ci st' (.slice e) y' with
   |none=>none
   |some (jI,ys)=>
    let tr2:=e.flat||(Lo st (st.ev y)&&e.tree)
    match st'.ev x with
    | .at .Gw=>if ys.length<=Bs/\dst<Ah then some (.at (.own dst 0 (0+ys.length)),(st'.new dst (.arr (T.mi||e.flat) T.rm e te [])).new dst (.arr ((T.mi||e.flat)&&(jI||e.flat)) (T.rm&&tr2) e te (((([]:List e.den).drop 0).take 0)++ys))) else none
    | .at (.own l off len)=>match st'.at l with
     |some (.arr fr tr e' tid xs)=>if h:e'=e/\tid=te then
       (if len+ys.length<=Bs/\l<Ah then
        some (.at (.own l 0 (len+ys.length)),st'.new l (.arr (fr&&(jI||e.flat)) (tr&&tr2) e te ((((h.1▸xs:List e.den).drop off).take len)++ys))) else none)
      else none
     |_=>none
    |_=>none
  |_,_=>none
def Jh (st:St) (l i m:Nat) (e:Ty) (te tid:TypeId) (rows:List (List e.den)) (kp:Option (Nat×Nat)):St:=
 (st.Ff l (.Ai e te rows (some i) kp)).new m (.arr false false e tid (rows.getD i []))
def Kg (st:St) (dst:Nat) (t:TypeId) (x y:Operand):Option (AV×St):=
 match x with
 | .tmp tx=>match st.get tx with
  | .at (.sub l i _)=>match st.at l,T.elem t with
   |some (.Ai e te rows none kp),some tid=>if (Nat.blt l Ah&&(Nat.blt dst Ah&&!Nat.beq dst l))=true then Ht T ((Jh st l i dst e te tid rows kp).put (some tx) (.at (.own dst 0 (rows.getD i []).length))) dst t x y else none
   |_,_=>none
  |_=>Ht T st dst t x y
 |_=>Ht T st dst t x y
def eu:Ty->Bool
 | .int _| .bool| .str| .slice _| .oslice _=>true
 |_=>false
def Zi:Ty->Bool
 | .unit=>true
 | .pair a r=>Zi a&&Zi r
 |e=>eu e
def Te (st:St) (dst:Nat) (t:TypeId) (l c:AV):Option (AV×St):=
 match T.elem t,l,c with
 |some te, .at (.data _ (.int _) n), .at (.data _ (.int _) m)=>match T.ty te with
  |some e=>if JO n (Bs+1)=true/\n=m/\Zi e=true/\dst<Ah then some (.at (.own dst 0 n.toNat),st.new dst (.arr (T.mi||e.flat) (T.rm&&e.tree) e te (List.replicate n.toNat e.zero))) else none
  |none=>none
 |_,_,_=>none
def Fz (e:Ty):Nat->List (Nat×Operand)->St->Option (Bool×Bool×List e.den×St)
 |_,[],st=>some (true,true,[],st)
 |i,(j,x)::r,st=>
  if i=j then match settle st (st.ev x) with
   |some (v,st')=>match Ci st' e v with
    |some (fr,y)=>match Fz e (i+1) r st' with
     |some (Nj,EE,ys,ZW)=>some (fr&&Nj,Lo st (st.ev x)&&e.tree&&EE,y::ys,ZW)
     |none=>none
    |none=>none
   |none=>none
  else none
def Gr (st:St) (dst:Nat) (t:TypeId) (len:Nat) (parts:Array (Nat×Operand)):Option (AV×St):=
 match T.elem t with
 |none=>none
 |some te=>match T.ty te with
  |none=>none
  |some e=>if parts.size=len/\len<=64/\e.size<=64/\dst<Ah then (match Fz e 0 parts.toList st with
   |some (fr,tr,ys,st')=>some (.at (.own dst 0 len),st'.new dst (.arr ((T.mi||e.flat)&&fr) (T.rm&&tr) e te ys))
   |none=>none) else none
def Mq (st:St) (dst:Nat) (t:TypeId):Option (AV×St):=
 match T.mapOf t with
 |some v=>if dst<Ah then some (.at (.Fq dst),st.new dst (.Nd v λ_=>none)) else none
 |none=>none
def Zf {α:Type} (m:ByteArray->Option α) (k:ByteArray) (x:α):ByteArray->Option α:= λs=>if s=k then some x else m s
def Ej (st:St) (t:TypeId) (m k x:AV):Option St:=
 match T.mapOf t,m,k with
 |some v, .at (.Fq l), .at (.data _ .str s)=>match st.at l,Ci st v x with
  |some (.Nd v' f),some (_,y)=>if h:v'=v/\v.flat=true/\v.Ab=false then some (st.Ff l (.Nd v (Zf (h.1▸f:ByteArray->Option v.den) s y))) else none
  |_,_=>none
 |_,_,_=>none
def aK (st:St) (t t':TypeId) (x y:AV):Option (AV×St):=
 match x,(T.elem t).bind T.ty with
 | .at (.own l off len),some e=>if T.elem t=T.elem t'/\e.flat=true/\e.size=1 then match st.at l,Ci st (.slice e) y with
  |some (.arr fr _ e' tid xs),some (_,ys)=>if h:e'=e/\T.elem t=some tid then
    some (.at (.data true (.int .i64) (min len ys.length:Nat)),st.Ff l (.arr fr false e tid (Bk (h.1▸xs:List e.den) off (ys.take len))))
   else none
  |_,_=>none
  else none
 |_,_=>none
def evalClear (st:St) (t:TypeId) (x:AV):Option St:=
 match x,(T.elem t).bind T.ty with
 | .at (.own l off len),some e=>if e.flat=true/\eu e=true then match st.at l with
  |some (.arr fr _ e' tid xs)=>if h:e'=e/\T.elem t=some tid then
    some (st.Ff l (.arr fr false e tid (Bk (h.1▸xs:List e.den) off (List.replicate len e.zero))))
   else none
  |_=>none
  else none
 |_,_=>none
def Gq (st:St) (t:TypeId):List (Nat×Operand)->List AC->Option (List AC)
 | [],cs=>some cs
 |(i,x)::r,cs=>
  match T.off t i with
  |some (o,u)=>match T.ty u with
   |some ρ=>match cellsOf ρ (st.ev x) with
    |some c=>if o+c.length<=cs.length then Gq st t r (Bk cs o c) else none
    |none=>none
   |none=>none
  |none=>none
def Ou (st:St) (t:TypeId) (parts:Array (Nat×Operand)):Option AV:=
 match T.ty t with
 |none=>none
 |some τ=>if τ.Ab then (Gq T st t parts.toList (zeroCells τ)).map .agg else none
def Bm (io:Bool) (k:Nat):Nat:=if io then 1000000000+k else 500000+k
def Ey (k:Nat):Nat:=600000+k
def CO (dst:Nat) (k:Nat):Nat:=1000000*(dst+1)+k
def Li:List (Option Nat)->List AC->List AV
 |none::s,a::as=> .at a::Li s as
 |some n::s,as=> .agg (as.take n)::Li s (as.drop n)
 |_,_=> []
def Ga:List (Option Nat)->List Value->List Value
 |none::s,u::us=>u::Ga s us
 |some n::s,us=> .agg (us.take n).toArray::Ga s (us.drop n)
 |_,_=> []
def ungroup:List (Option Nat)->List AV->Option (List AC)
 | [],[]=>some []
 |none::s, .at a::as=>(ungroup s as).map λr=>a::r
 |some n::s, .agg cs::as=>if cs.length=n then (ungroup s as).map λr=>cs++r else none
 |_,_=>none
def cz (l:Nat):(c:CK)->c.den->Option OB
 | .Gh _,_=>none
 | .row e te,xs=>some (.arr false false e te xs)
 | .Dh e te,xs=>some (.Cu e te xs)
 | .part e te,x=>some (.arr false false e te x.1)
 | .Ai e te kp,xs=>some (.Ai e te xs none (if kp then some (l,List.length xs) else none))
def VU (l:Nat):(c:CK)->c.den->AC
 | .Gh τ,x=> .data τ.flat τ x
 | .row _ _,xs=> .own l 0 (List.length xs)
 | .Dh _ _,xs=> .own l 0 (List.length xs)
 | .part _ _,x=> .own l x.2.1 x.2.2
 | .Ai _ _ _,xs=> .own l 0 (List.length xs)
def aE {α:Type} (l:Nat):Option α->List (Nat×α)->List (Nat×α)
 |none,r=>r
 |some b,r=>(l,b)::r
def Qq:(k:Nat)->(cs:List (Bool×CK))->Ins.den cs->List (Nat×OB)
 |_,[],_=> []
 |k,p::r,x=>aE (Bm p.1 k) (cz (Bm p.1 k) p.2 x.1) (Qq (k+1) r x.2)
def Tk:(k:Nat)->(cs:List (Bool×CK))->Ins.den cs->List AC
 |_,[],_=> []
 |k,p::r,x=>VU (Bm p.1 k) p.2 x.1::Tk (k+1) r x.2
inductive Loc where
 |row (l:Nat)
 |sub (l i c:Nat)
 |view (l:Nat)
 deriving DecidableEq
def Loc.Og:Loc->Nat
 | .row l=>l
 | .sub l _ _=>l
 | .view l=>l
def Loc.reads:Loc->Bool
 | .view _=>true
 |_=>false
def Ua (st:St) (ls:List Nat):Bool:=ls.all λl=>match st.at l with|some (.var _ vs)=>vs.all (·.settled)|_=>false
def views (k:Nat) (ls:List Nat):List (Nat×Loc):=ls.map λl=>(Bm false k, .view l)
def Gi (st:St) (io:Bool) (k:Nat):(c:CK)->AC->Option (c.den×List (Nat×Loc))
 | .Gh τ, .own l off len=>(Bh st τ (.own l off len)).map λp=>(p.2,[(Bm false k, .view l)])
 | .Gh τ, .clo g Bp=>if Ua st (Bp.map (·.1))&&!τ.Ab then (Eu st τ (.clo g Bp)).map λp=>(p.2,views k (Bp.map (·.1))) else none
 | .Gh τ, .Dj l i=>if Ua st [l]&&!τ.Ab then (Eu st τ (.Dj l i)).map λp=>(p.2,views k [l]) else none
 | .Gh τ, .sub l i c=>(Bh st τ (.sub l i c)).map λp=>(p.2,[(Bm false k, .view l)])
 | .Gh τ,a=>if τ.flat||a.settled then (Bh st τ a).map λp=>(p.2,[]) else none
 | .row e te, .own l off len=>match st.at l with
  |some (.arr _ _ e' Kd xs)=>if h:e'=e/\Kd=te/\off=0/\len=xs.length then some ((h.1▸xs:List e.den),[(Bm io k, .row l)]) else none
  |_=>none
 | .row e _, .sub l i c=>match st.at l with
  |some (.Cu e' _ xs)=>if h:e'= .slice e/\e.flat=true/\io=true/\c=0 then xs[i]?.map λy=>((h.1▸y:(Ty.slice e).den),[(Bm io k, .sub l i c)]) else none
  |_=>none
 | .row _ _, .Gw=>some ([],[])
 | .Dh e te, .own l off len=>match st.at l with
  |some (.Cu e' Kd xs)=>if h:e'=e/\Kd=te/\off=0/\len=xs.length then some ((h.1▸xs:List e.den),[(Bm io k, .row l)]) else none
  |_=>none
 | .Dh e _, .sub l i c=>match st.at l with
  |some (.Cu e' _ xs)=>if h:e'= .slice e/\io=true/\c=0 then xs[i]?.map λy=>((h.1▸y:(Ty.slice e).den),[(Bm io k, .sub l i c)]) else none
  |_=>none
 | .Dh _ _, .Gw=>some ([],[])
 | .part e te, .own l off len=>match st.at l with
  |some (.arr _ _ e' Kd xs)=>if h:e'=e/\Kd=te/\e.flat=true/\io=true then some (((h.1▸xs:List e.den),off,len),[(Bm io k, .row l)]) else none
  |_=>none
 | .Ai e te _, .own l off len=>match st.at l with
  |some (.Ai e' Kd rows none _)=>if h:e'=e/\Kd=te/\off=0/\len=rows.length/\io=false then some ((h.1▸rows:List (List e.den)),[(Bm io k, .row l)]) else none
  |_=>none
 |_,_=>none
def Ze (st:St):(k:Nat)->(cs:List (Bool×CK))->List AC->Option (Ins.den cs×List (Nat×Loc))
 |_,[],[]=>some ((),[])
 |k,p::r,a::as=>match Gi st p.1 k p.2 a,Ze st (k+1) r as with
  |some (x,t1),some (y,t2)=>some ((x,y),t1++t2)
  |_,_=>none
 |_,_,_=>none
def Ue (st:St):(c:CK)->c.den->AC->Option St
 | .row e _,ys, .own l _ len=>match st.at l with
  |some (.arr fr tr e' te xs)=>if h:e=e'/\List.length ys=len/\xs.length=len then some (st.Ff l (.arr (fr&&e'.flat) (tr&&e'.flat) e' te (h.1▸ys))) else none
  |_=>none
 | .Dh e _,ys, .own l _ len=>match st.at l with
  |some (.Cu e' te xs)=>if h:e=e'/\List.length ys=len/\xs.length=len then some (st.Ff l (.Cu e' te (h.1▸ys))) else none
  |_=>none
 | .row e _,ys, .sub l i _=>match st.at l with
  |some (.Cu e' te xs)=>if h: .slice e=e' then (match xs[i]? with
   |some y=>if List.length ys=List.length (h▸y:(Ty.slice e).den) then some (st.Ff l (.Cu e' te (xs.set i (h▸(ys:(Ty.slice e).den))))) else none
   |none=>none) else none
  |_=>none
 | .Dh e _,ys, .sub l i _=>match st.at l with
  |some (.Cu e' te xs)=>if h: .slice e=e' then (match xs[i]? with
   |some y=>if List.length ys=List.length (h▸y:(Ty.slice e).den) then some (st.Ff l (.Cu e' te (xs.set i (h▸(ys:(Ty.slice e).den))))) else none
   |none=>none) else none
  |_=>none
 |_,_, .Gw=>some st
 |_,_,_=>none
def wi (st:St) (e:Ty) (ys:List e.den):AC->Option St
 | .own l _ _=>match st.at l with
  |some (.arr fr tr e' te xs)=>if h:e=e'/\List.length ys=xs.length then some (st.Ff l (.arr fr tr e' te (h.1▸ys))) else none
  |_=>none
 |_=>none
def Dr:(cs:List (Bool×CK))->IOs.den cs->List AC->St->Option St
 | [],_,_,st=>some st
 |(true, .Gh _)::r,x,_::as,st=>Dr r x as st
 |(true, .row e te)::r,x,a::as,st=>match Ue st (.row e te) x.1 a with
  |some st'=>Dr r x.2 as st'
  |none=>none
 |(true, .Dh e te)::r,x,a::as,st=>match Ue st (.Dh e te) x.1 a with
  |some st'=>Dr r x.2 as st'
  |none=>none
 |(true, .part e _)::r,x,a::as,st=>match wi st e x.1 a with
  |some st'=>Dr r x.2 as st'
  |none=>none
 |(true, .Ai _ _ _)::r,x,_::as,st=>Dr r x as st
 |(false,_)::r,x,_::as,st=>Dr r x as st
 |_,_,_,_=>none
def Ap (dead part:List Nat) (c:AC):AC:=if c.refs.any (λl=>dead.contains l) then .undef else match c with
 | .sub l i c=>if part.contains l then .undef else .sub l i c
 | .Fa l i c=>if part.contains l then .undef else .Fa l i c
 |c=>c
def Oq:List (Nat×OB)->List Nat->List (Nat×OB)
 | [],_=> []
 |(k,b)::r,dead=>if dead.contains k then Oq r dead else (k,b)::Oq r dead
def St.Ul (st:St) (dead part:List Nat):St:=let s:=st.Fp (Ap dead part); {s with heap:=Oq s.heap dead}
def Lr (st:St) (l j m:Nat) (e:Ty) (te:TypeId) (rows:List (List e.den)) (xs:List e.den) (kp:Option (Nat×Nat)):St:=
 (st.Ul [m] [l]).Ff l (.Ai e te (rows.set j xs) none kp)
def Tp (j:Nat):Option (Nat×Nat)->Option (Nat×Nat)
 |none=>none
 |some p=>some (p.1,min p.2 j)
def Th (st:St) (t:TypeId) (p v:AV):Option St:=
 match T.ty t,p with
 |some τ, .at (.Fa l i j)=>match settle st v with
  |some (v',st')=>match st'.at l,Ci st' τ v' with
   |some (.Ai e te rows none kp),some (_,x)=>if h:τ=e then some (st'.Ff l (.Ai e te (rows.set i ((rows.getD i []).set j (h▸x))) none kp)) else none
   |_,_=>none
  |none=>none
 |some τ, .at (.Fc l j)=>match st.at l,v with
  |some (.Ai e te rows out kp), .at (.own m off len)=>match st.at m with
   |some (.arr _ _ e' _ xs)=>if h:e'=e/\(Nat.blt l Ah&&(!Nat.beq m l&&!τ.Ab))=true/\off=0/\len=xs.length/\(out=none\/out=some j) then some (Lr st l j m e te rows (h.1▸xs) (Tp j kp)) else none
   |_=>none
  |_,_=>none
 |_,_=>none
def xr (st:St):AV->Bool
 | .at (.Fa _ _ _)=>true
 | .at (.Fc l _)=>match st.at l with
  |some (.Ai _ _ _ _ _)=>true
  |_=>false
 |_=>false
def Iy (st:St) (t:TypeId) (p v:AV):Option St:=match xr st p with
 |true=>Th T st t p v
 |false=>Mr T st t p v
def Jz (st:St) (k m:Nat) (b:OB):St:=let s:=st.Ul [m,k] []; {s with heap:=Ih s.heap k b}
def Wf (t:TypeId):Option (TypeId×Ty):=(T.elem t).bind λte=>(T.xq te).map λe=>(te,e)
def Ox (st:St) (dst:Nat) (t:TypeId) (l c:AV):Option (AV×St):=
 match Wf T t with
 |none=>Te T st dst t l c
 |some (te,e)=>match l,c with
  | .at (.data _ (.int _) n), .at (.data _ (.int _) m)=>if JO n (Bs+1)=true/\n=m/\dst<Ah then some (.at (.own dst 0 n.toNat),Jz st dst dst (.Ai e te (List.replicate n.toNat []) none none)) else none
  |_,_=>none
def Eh (st:St) (dst:Nat) (t:TypeId) (len:Nat) (parts:Array (Nat×Operand)):Option (AV×St):=
 match Wf T t with
 |none=>Gr T st dst t len parts
 |some (te,e)=>match parts.toList with
  | [(0,x)]=>match st.ev x with
   | .at (.own m off ln)=>match st.at m with
    |some (.arr _ _ e' _ xs)=>if h:e'=e/\(Nat.beq len 1&&(Nat.blt dst Ah&&Nat.blt m Ah))=true/\off=0/\ln=xs.length then some (.at (.own dst 0 1),Jz st dst m (.Ai e te [h.1▸xs] none none)) else none
    |_=>none
   |_=>none
  |_=>none
def Kh (st:St) (dst:Nat) (t:TypeId) (x y:Operand):Option (AV×St):=
 match Wf T t with
 |none=>Kg T st dst t x y
 |some (te,e)=>match st.ev x,st.ev y with
  | .at (.own l off len), .at (.own m CP kY)=>match st.at l,st.at m with
   |some (.Ai e1 VP A none _),some (.Ai e2 nw B none _)=>
    if h:(e1=e/\e2=e)/\(decide (VP=te)&&decide (nw=te)&&(Nat.blt l Ah&&(Nat.blt m Ah&&!Nat.beq m l)))=true/\(off=0/\len=A.length)/\(CP=0/\kY=B.length)/\0<B.length/\A.length+B.length<=Bs then
     some (.at (.own l 0 (A.length+B.length)),Jz st l m (.Ai e te ((h.1.1▸A:List (List e.den))++(h.1.2▸B:List (List e.den))) none none))
    else none
   |_,_=>none
  |_,_=>none
def mQ (fr:Bool):(c:CK)->c.den->Option OB
 | .Gh _,_=>none
 | .row e te,xs=>some (.arr (fr&&e.flat) false e te xs)
 | .Dh e te,xs=>some (.Cu e te xs)
 | .part e te,x=>some (.arr (fr&&e.flat) false e te x.1)
 | .Ai e te _,xs=>some (.Ai e te xs none none)
def sD (H:List (Nat×OB)) (l:Nat):Option OB->List (Nat×OB)
 |some b=>Ih H l b
 |none=>H
def Ph (fr:Bool) (key:Nat->Nat):(k:Nat)->(cs:List CK)->CKs.den cs->List (Nat×OB)->List (Nat×OB)
 |_,[],_,H=>H
 |k,c::r,x,H=>Ph fr key (k+1) r x.2 (sD H (key k) (mQ fr c x.1))
def Ts (key:Nat->Nat):(k:Nat)->(cs:List CK)->CKs.den cs->List AC
 |_,[],_=> []
 |k,c::r,x=>(match c,x.1 with
  | .Gh τ,y=> .data τ.flat τ y
  | .row _ _,xs=> .own (key k) 0 (List.length xs)
  | .Dh _ _,xs=> .own (key k) 0 (List.length xs)
  | .Ai _ _ _,xs=> .own (key k) 0 (List.length xs)
  | .part _ _,_=> .undef)::Ts key (k+1) r x.2
def Re:List (Option Nat)->List AC->List (Bool×List AC)
 |none::s,a::as=>(false,[a])::Re s as
 |some n::s,as=>(true,as.take n)::Re s (as.drop n)
 |_,_=> []
def TC (Dt:Bool) (sh:List (Option Nat)) (as:List AC):Option AV:=
 if Dt then some (.Hz (Re sh as)) else match Li sh as with
  | [v]=>some v
  | []=>some .undef
  |_=>none
def eM (tks:List (Nat×Loc)):List Nat:=(tks.filter λt=>Nat.blt t.1 Ah&&!t.2.reads).map λt=>t.2.Og
def whole (tks:List (Nat×Loc)):List Nat:=tks.flatMap λt=>match t.2 with| .row l=> [l]|_=> []
def qY (tks:List (Nat×Loc)):List Nat:=(tks.filter λt=>t.2.reads).map λt=>t.2.Og
def sN (ins:List (Bool×CK)) (te:TypeId) (used:List Nat):List (Nat×Loc)->Option Nat
 | []=>none
 |(k, .row l)::r=>if Nat.blt k Ah&&(!used.contains l&&(match ins[k-500000]? with
   |some (false, .row _ Kd)=>decide (Kd=te)
   |some (false, .Dh _ Kd)=>decide (Kd=te)
   |some (false, .Ai _ Kd _)=>decide (Kd=te)
   |_=>false)) then some l else sN ins te used r
 |_::r=>sN ins te used r
def vL (ins:List (Bool×CK)) (tks:List (Nat×Loc)) (d:Nat):(k:Nat)->(used:List Nat)->List CK->List Nat
 |_,_,[]=> []
 |k,used,c::r=>match (match c with
   | .row _ te=>sN ins te used tks
   | .Dh _ te=>sN ins te used tks
   | .Ai _ te _=>sN ins te used tks
   |_=>none) with
  |some l=>l::vL ins tks d (k+1) (l::used) r
  |none=>CO d k::vL ins tks d (k+1) used r
def eH (s:MSpec) (tks:List (Nat×Loc)) (d:Nat):List Nat:=vL s.ins tks d 0 [] s.outs
def Bn (ks:List Nat) (j:Nat):Nat:=match ks[j]? with
 |some l=>l
 |none=>Ah+j
def pP (ks:List Nat) (n:Nat):Bool:=Nat.beq ks.length n&&(Rd ks&&ks.all λl=>Nat.blt l Ah)
def xl (st:St) (l:List Nat):Bool:=l.all λk=>match st.at k with|some (.arr fr _ _ _ _)=>fr|_=>false
def xM (st:St) (s:MSpec) (args:List AV):Option (List Nat×List AC×List AV):=
 match s.ptr with
 |none=>some ([],[],args)
 |some p=>match args with
  | .at (.Dj l i)::rest=>match st.at l with
   |some (.var tid vs)=>if tid=p.1/\vs.length=p.2/\i=0 then some ([l],vs,rest) else none
   |_=>none
  |_=>none
def Nn:List (Bool×CK)->List AC->Bool
 |(true, .row _ _)::r, .own _ _ _::as=>Nn r as
 |(true, .Dh _ _)::r, .own _ _ _::as=>Nn r as
 |(true,_)::_,_::_=>false
 |(false,_)::r,_::as=>Nn r as
 |_,as=>as.isEmpty
def Zy {α:Type} :List (Bool×CK)->List α->List α->List α
 |(true,_)::r,v::vs,as=>v::Zy r vs as
 |(false,_)::r,_::vs,a::as=>a::Zy r vs as
 |_,vs,_=>vs
def ly:List (Bool×CK)->Nat->Nat
 |(true,_)::r,n+1=>ly r n
 |(false,_)::r,n+1=>ly r n+1
 |_,_=>0
def MSpec.Rl (s:MSpec):Nat:=match s.ptr with|none=>0|some p=>ly s.ins p.2
def jt (ins:List (Bool×CK)) (as:List AC) (pl:List Nat) (st:St):St:=
 match pl with
 | []=>st
 |l::_=>match st.at l with
  |some (.var tid vs)=>st.Ff l (.var tid (Zy ins vs as))
  |_=>st
def Lp (d:Nat):Nat:=CO d 999
def ee (s:MSpec) (d:Nat):List Nat:=match s.rp with|none=> []|some _=> [Lp d]
def Ks (s:MSpec) (tks:List (Nat×Loc)) (d:Nat):List Nat:=eH s tks d++ee s d
def fh (H:List (Nat×OB)) (l:Nat):Bool:=match Ad H l with
 |some (.Ai _ _ _ _ _)=>true
 |_=>false
def Tm (H:List (Nat×OB)) (ks:List Nat) (tks:List (Nat×Loc)):List (Nat×Nat)->List Nat
 | []=> []
 |(k,j)::r=>match tks.find? (λt=>Nat.beq t.1 (Bm false k)),ks[j]? with
  |some (_, .row l),some l'=>if Nat.beq l' l&&fh H l then l::Tm H ks tks r else Tm H ks tks r
  |_,_=>Tm H ks tks r
def jK (H:List (Nat×OB)) (l:Nat):Nat:=match Ad H l with
 |some (.Ai _ _ rows _ _)=>rows.length
 |_=>0
def Vp (H:List (Nat×OB)) (ls:List Nat) (n:Nat):List AV->Bool
 | []=>true
 | .at (.sub l i _)::r=>(!ls.contains l||(Nat.blt i n&&Nat.blt i (jK H l)))&&Vp H ls n r
 |_::r=>Vp H ls n r
def Ge (ls:List Nat):List AV->List AV->List AV
 | .at (.sub l i c)::r,v::vs=>(if ls.contains l then .at (.sub l i c) else v)::Ge ls r vs
 |_::r,v::vs=>v::Ge ls r vs
 |_,vs=>vs
def MI:Option OB->Option (Nat×Nat)
 |some (.Ai _ _ _ _ kp)=>kp
 |_=>none
def OB.tP (b:OB) (kp:Option (Nat×Nat)):OB:=match b with
 | .Ai e te rows out _=> .Ai e te rows out kp
 |b=>b
def Vh (H0:List (Nat×OB)) (ls:List Nat) (n:Nat):List (Nat×OB)->List (Nat×OB)
 | []=> []
 |(l,b)::r=>(l,if ls.contains l then b.tP (Tp n (MI (Ad H0 l))) else b)::Vh H0 ls n r
def dW (a7 st:St) (ls:List Nat) (n:Nat):St:=match ls with
 | []=>st
 |_=> {tmps:=Ge ls a7.tmps st.tmps,heap:=Vh a7.heap ls n st.heap}
def HD (s:MSpec) (d:Nat) (as:List AC):Option AV:=match s.rp with
 |none=>TC s.Dt s.Fk as
 |some _=>some (.at (.Dj (Lp d) 0))
def dB (st st1:St) (d:Nat) (s:MSpec) (pl:List Nat) (tks:List (Nat×Loc)) (r:CKs.den s.outs):St:=
 let ks:=Ks s tks d
 let key:=Bn ks
 let TE:=jt s.ins (Ts key 0 s.outs r) pl (st1.Ul (eM tks++ks++(if s.flat then [] else qY tks)) (whole tks))
 {TE with heap:=Ph (xl st (eM tks)) key 0 s.outs r (sD TE.heap (Lp d) (s.rp.map λtid=> .var tid ((Ts key 0 s.outs r).drop s.Rl)))}
def Ov (st:St) (dst:Option Nat) (s:MSpec) (args:List AV):Option (AV×St):=
 match xM st s args with
 |none=>none
 |some (pl,vs,rest)=>match ungroup s.Gg rest with
 |none=>none
 |some fY=>match Ze st 0 s.ins (vs++fY) with
  |none=>none
  |some (x,tks)=>if Rd (tks.map λt=>t.2.Og)&&pP (Ks s tks (dst.getD 0)) (s.outs.length+(ee s (dst.getD 0)).length)&&Nat.blt s.outs.length 1000&&Nat.blt s.ins.length 1000&&(Nn s.ins vs&&pl.all λl=>!((tks.map λt=>t.2.Og)++Ks s tks (dst.getD 0)).contains l) then match s.fn x with
   |none=>none
   |some (r,o)=>match Dr s.ins o (vs++fY) st with
    |none=>none
    |some st1=>match HD s (dst.getD 0) ((Ts (Bn (Ks s tks (dst.getD 0))) 0 s.outs r).drop s.Rl) with
     |none=>none
     |some v=>if Vp (dB st st1 (dst.getD 0) s pl tks r).heap (Tm st.heap (Ks s tks (dst.getD 0)) tks s.keeps) (s.Cj x) st.tmps=true then
       some (v,dW st (dB st st1 (dst.getD 0) s pl tks r) (Tm st.heap (Ks s tks (dst.getD 0)) tks s.keeps) (s.Cj x)) else none
   else none
def Iq:List Operand->St->Option St
 | [],st=>some st
 |x::r,st=>match settle st (st.ev x) with
  |some (_,st')=>Iq r st'
  |none=>none
def Yi (s:Spec) (args:List AV):Bool:=!(s.fresh||s.res.flat||args.all (·.settled))
def evalOp (Γ:Env) (st:St) (o:Oper):Option (AV×St):=
 match o.op with
 | .assign x=>match st.ev x,o.dst,(T.elem o.type).bind λte=>(T.ty te).map λe=>(te,e) with
  | .at .Gw,some d,some (te,e)=>if d<Ah then some (.at (.own d 0 0),st.new d (.arr (T.mi||e.flat) T.rm e te [])) else none
  |v,_,_=>some (v,st)
 | .alloc t=>match o.dst,T.ty t with
  |some d,some τ=>mkVar T st d t τ (zeroCells τ)
  |_,_=>none
 | .box t x=>match o.dst,T.ty t with
  |some d,some τ=>match cellsOf τ (st.ev x) with
   |some cs=>mkVar T st d t τ cs
   |none=>none
  |_,_=>none
 | .store t p x=>(Iy T st t (st.ev p) (st.ev x)).map λs=>(.undef,s)
 | .makeSlice t l c=>match o.dst with
  |some d=>Ox T st d t (st.ev l) (st.ev c)
  |none=>none
 | .makeMap t none=>match o.dst with
  |some d=>Mq T st d t
  |none=>none
 | .mapUpdate t m k x=>(Ej T st t (st.ev m) (st.ev k) (st.ev x)).map λs=>(.undef,s)
 | .insert t m k x=>(Ej T st t (st.ev m) (st.ev k) (st.ev x)).map λs=>(.undef,s)
 | .buildSlice t len parts=>match o.dst with
  |some d=>Eh T st d t len parts
  |none=>none
 | .build t parts=>(Ou T st t parts).map λv=>(v,st)
 | .call {callee:= .builtin .append,args,argTypes} =>match o.dst,args.toList,argTypes.toList with
  |some d,[x,y],[t,t']=>if t=t' then Kh T st d t x y else none
  |_,_,_=>none
 | .call {callee:= .builtin .copy,args,argTypes} =>match args.toList,argTypes.toList with
  | [x,y],[t,t']=>aK T st t t' (st.ev x) (st.ev y)
  |_,_=>none
 | .call {callee:= .builtin .clear,args,argTypes} =>match args.toList,argTypes.toList with
  | [x],[t]=>(evalClear T st t (st.ev x)).map λs=>(.undef,s)
  |_,_=>none
 | .call {callee:= .value (.func f),args, .. } =>match Γ f with
  |some (.m s)=>Ov st o.dst s (args.toList.map st.ev)
  |some (.q s)=>if Yi s (args.toList.map st.ev) then (match Iq args.toList st with
   |some st1=>(Ca T Γ st1 o).map λv=>(v,st1)
   |none=>none) else (Ca T Γ st o).map λv=>(v,st)
  |_=>(Ca T Γ st o).map λv=>(v,st)
 |_=>(Ca T Γ st o).map λv=>(v,st)
def Yl (e:Ty):Nat->List (Nat×Operand)->St->Option (Bool×List e.den)
 |_,[],_=>some (true,[])
 |i,(j,x)::r,st=>
  if i=j/\(st.ev x).settled=true then match Ci st e (st.ev x),Yl e (i+1) r st with
   |some (fr,y),some (Nj,ys)=>some (fr&&Nj,y::ys)
   |_,_=>none
  else none
def Td (st:St) (t:TypeId) (len:Nat) (parts:Array (Nat×Operand)):Option AV:=
 match T.elem t with
 |none=>none
 |some te=>match T.ty te with
  |none=>none
  |some e=>if parts.size=len/\len<=64/\e.size<=64 then (Yl e 0 parts.toList st).map λp=> .at (.data p.1 (.slice e) p.2) else none
def Qj (Γ:Env) (st:St) (o:Oper):Option AV:=
 match o.op with
 | .buildSlice t len parts=>Td T st t len parts
 | .build t parts=>Ou T st t parts
 |_=>Ca T Γ st o
def CG (q:Bool) (Γ:Env) (o:Oper):Bool:=
 match o.op with
 | .buildSlice _ _ _| .build _ _=>!q
 | .alloc _| .box _ _| .store _ _ _| .makeSlice _ _ _| .makeMap _ _| .mapUpdate _ _ _ _| .insert _ _ _ _=>true
 | .assign (.const _)=>true
 | .call {callee:= .builtin .append, .. } =>true
 | .call {callee:= .builtin .copy, .. } =>true
 | .call {callee:= .builtin .clear, .. } =>true
 | .call {callee:= .value (.func f), .. } =>match Γ f with
  |some (.m _)=>true
  |_=>false
 |_=>false
def Cb (Γ:Env) (ops:Array Oper) (st:St) (o:Oper):Option St:=
 match o.guard with
 |none=>(evalOp T Γ st o).map λr=>r.2.put o.dst r.1
 |some (j,want)=>match On st ((ops[j]?).bind (·.dst)) with
  |some (some b)=>if b==want then (evalOp T Γ st o).map λr=>r.2.put o.dst r.1 else some (st.put o.dst (.at .skip))
  |some none=>some (st.put o.dst (.at .skip))
  |none=>none
def Rx (Γ:Env) (ops:Array Oper):List Oper->St->Option St
 | [],st=>some st
 |o::r,st=>match Cb T Γ ops st o with
  |some st'=>Rx Γ ops r st'
  |none=>none
def Er (q:Bool) (Γ:Env) (ops:Array Oper):List Nat:=
 (List.range ops.size).foldl (init:= []) λacc i=>match ops[i]? with
  |some o=>if CG q Γ o||o.after.any (λe=>Region.binds .any e&&acc.contains e.on) then acc++ [i] else acc
  |none=>acc
def Un (q:Bool) (Γ:Env) (ops:Array Oper):List Nat:=(List.range ops.size).filter λi=>!(Er q Γ ops).contains i
def fg (ops:Array Oper) (hd tl:List Nat) (i:Nat):Bool:=
 match ops[i]? with
 |some o=>(match o.op,o.guard with
  | .move (.tmp _),none=>true
  |_,_=>false)&&!((tl.take 1++hd).any λj=>decide (i<j)&&Region.waitsFor .any ops j i)
 |none=>false
def Ni (q:Bool) (Γ:Env) (ops:Array Oper):List Nat:=(Un q Γ ops).filter λi=>fg ops (Un q Γ ops) (Er q Γ ops) i
def Nl (q:Bool) (Γ:Env) (ops:Array Oper):List Nat:=(Un q Γ ops).filter λi=>!fg ops (Un q Γ ops) (Er q Γ ops) i
def cb (q:Bool) (Γ:Env) (ops:Array Oper):List Nat:=Ni q Γ ops++Nl q Γ ops
def fL (ops:Array Oper):List Nat->Array Bool->Bool
 | [],Aa=>(Region.ready .any ops Aa).isEmpty
 |k::r,Aa=>decide (Region.ready .any ops Aa= [k])&&fL ops r (Aa.setIfInBounds k true)
def gA (ops:Array Oper) (tl:List Nat):List Nat->Array Bool->Bool
 | [],Aa=>fL ops tl Aa
 |k::r,Aa=>(Region.ready .any ops Aa).contains k&&Region.free .any ops Aa k&&gA ops tl r (Aa.setIfInBounds k true)
def eg (ops:Array Oper) (hd:List Nat):List Nat->Bool
 | []=>true
 |f::r=>(hd.all λi=>(f::hd).any λj=>decide (i<j)&&Region.waitsFor .any ops j i)&&chain f r
where chain:Nat->List Nat->Bool
 |_,[]=>true
 |k,t::r=>Region.waitsFor .any ops t k&&chain t r
def eW (ops:Array Oper) (tl hd:List Nat):List Nat->Array Bool->Bool
 | [],Aa=>gA ops tl hd Aa
 |k::r,Aa=>(Region.ready .any ops Aa).contains k&&Region.free .any ops Aa k&&eW ops tl hd r (Aa.setIfInBounds k true)
def cm (q:Bool) (Γ:Env) (ops:Array Oper):Bool:=
 Region.noSelect ops&&((Ni q Γ ops).length+((Nl q Γ ops).length+(Er q Γ ops).length)==ops.size)&&eW ops (Er q Γ ops) (Nl q Γ ops) (Ni q Γ ops) (Array.replicate ops.size false)&&eg ops (Nl q Γ ops) (Er q Γ ops)
def aj (Γ:Env) (ops:Array Oper) (st:St) (o:Oper):Option AV:=
 match o.guard with
 |none=>Qj T Γ st o
 |some (j,want)=>match On st ((ops[j]?).bind (·.dst)) with
  |some (some b)=>if b==want then Qj T Γ st o else some (.at .skip)
  |some none=>some (.at .skip)
  |none=>none
def Dp (Γ:Env) (ops:Array Oper):List Nat->St->Option St
 | [],st=>some st
 |i::r,st=>match ops[i]? with
  |none=>none
  |some o=>match aj T Γ ops st o with
   |some v=>Dp Γ ops r (st.put o.dst v)
   |none=>none
def Ii (Γ:Env) (ops:Array Oper):List Nat->St->Option St
 | [],st=>some st
 |i::r,st=>match ops[i]? with
  |none=>none
  |some o=>match Cb T Γ ops st o with
   |some st'=>Ii Γ ops r st'
   |none=>none
def Ki (Γ:Env) (ops:Array Oper) (draw:Bool) (st:St):Option St:=
 if draw then (if cm false Γ ops then (match Dp T Γ ops (cb false Γ ops) st with
  |some st'=>Ii T Γ ops (Er false Γ ops) st'
  |none=>none) else if cm true Γ ops then (match Dp T Γ ops (cb true Γ ops) st with
  |some st'=>Ii T Γ ops (Er true Γ ops) st'
  |none=>none) else none)
 else Rx T Γ ops ops.toList st
def pK (ops:Array Oper) (i:Nat):Bool:=match ops[i]? with
 |some o=>(match o.op,o.guard with
  | .move (.tmp _),none=>true
  |_,_=>false)
 |none=>false
def cg (ops:Array Oper) (i:Nat):Bool:=match ops[i]? with
 |some o=>(match o.op,o.guard with
  | .move (.tmp _),none=>true
  | .nilCheck _,none=>true
  | .fieldAddr _ _ _,none=>true
  |_,_=>false)
 |none=>false
def TI (q:Bool) (ops:Array Oper) (i:Nat):Bool:=match q with
 |true=>cg ops i
 |false=>pK ops i
def Eo (q:Bool) (ops:Array Oper):List Nat->Array Bool->List Nat
 | [],_=> []
 |i::r,Aa=>if TI q ops i&&((Region.ready .any ops Aa).contains i&&Region.free .any ops Aa i) then i::Eo q ops r (Aa.setIfInBounds i true) else Eo q ops r Aa
def CN (q:Bool) (ops:Array Oper):List Nat:=Eo q ops (List.range ops.size) (Array.replicate ops.size false)
def c8 (q:Bool) (ops:Array Oper):Bool:=Nat.ble (ops.size-(CN q ops).length) 8
def Jb (ops:Array Oper):List Nat:=CN (!c8 false ops) ops
def Dw:List Nat->Array Bool->Array Bool
 | [],Aa=>Aa
 |i::r,Aa=>Dw r (Aa.setIfInBounds i true)
def anyS (Γ:Env) (ops:Array Oper) (K:St->Prop):Nat->Array Bool->St->Prop
 |0,Aa,st=>Region.ready .any ops Aa= []/\K st
 |f+1,Aa,st=>Region.ready .any ops Aa≠ []/\ ∀i∈Region.ready .any ops Aa,∃o st',ops[i]?=some o/\Cb T Γ ops st o=some st'/\anyS Γ ops K f (Aa.setIfInBounds i true) st'
def oX (Γ:Env) (ops:Array Oper) (draw:Bool) (st:St) (K:St->Prop):Prop:=
 (∃st',Ki T Γ ops draw st=some st'/\K st')\/
 (draw=true/\Region.noSelect ops=true/\ ∃a7,Dp T Γ ops (Jb ops) st=some a7/\anyS T Γ ops K (ops.size-(Jb ops).length) (Dw (Jb ops) (Array.replicate ops.size false)) a7)
def qk (Γ:Env) (draw:Bool):Env:= λf=>match Γ f with
 |some (.b s m)=>some (if draw then .q s else .m m)
 |r=>r
inductive Gc where
 |normal
 |exit (id:Nat)
 |ret
def Fb (live:List Nat):Nat->List AV->List AV
 |_,[]=> []
 |i,v::r=>(if live.contains i then v else .undef)::Fb live (i+1) r
def AV.refs:AV->List Nat
 | .at a=>a.refs
 | .agg cs=>cs.flatMap AC.refs
 | .Sv _ _ _=> []
 | .Hz l=>l.flatMap λp=>p.2.flatMap AC.refs
def OB.refs:OB->List Nat
 | .var _ vs=>vs.flatMap AC.refs
 |_=> []
def Wd:List Nat->St->St
 | [],st=>st
 |l::r,st=>Wd r (st.forget l)
def gV (l k m:Nat):Nat:=if m=l then k else m
def Mx (l k:Nat):AC->AC
 | .own m off len=> .own (gV l k m) off len
 | .Dj m i=> .Dj (gV l k m) i
 | .Fc m i=> .Fc (gV l k m) i
 | .clo f Bp=> .clo f (Bp.map λp=>(gV l k p.1,p.2))
 | .Fq m=> .Fq (gV l k m)
 | .sub m i c=> .sub (gV l k m) i c
 | .Fa m i c=> .Fa (gV l k m) i c
 |a=>a
def St.rename (l k:Nat) (st:St):St:=
 match Ad st.heap k,Ad st.heap l with
 |none,some b=>if (Nat.blt l Ah&&Nat.blt k Ah)=true then
   (let s:=st.Fp (Mx l k); {s with heap:=Ih (Rj s.heap l) k (b.map (Mx l k))}) else st
 |_,_=>st
def Gx:Nat->Nat->St->St
 |0,_,st=>st
 |n+1,t,st=>Gx n (t+1) (match st.get t with
  | .at (.own l _ _)=>match Ad st.heap l with
   |some (.arr _ _ _ _ _)=>if (st.tmps.take t).any (λv=>v.refs.contains l) then st else st.rename l (700000+t)
   |_=>st
  |_=>st)
def Us:Nat:=1000000007
def OB.Ek (flat all:Bool):OB->OB
 | .arr fr tr e tid xs=> .arr (fr&&!(all||(flat&&e.flat))) (tr&&!all) e tid xs
 |b=>b
def Qx:Nat:=1000000009
def uk:Nat:=1100000000
def St.Ek (live:List Nat) (st:St):St:= {st with heap:=st.heap.map λp=>(p.1,p.2.Ek (live.contains Qx) (live.contains (uk+p.1)))}
def Kn:Nat:=900000000
def Tt (t:Nat) (st:St):St:=match st.get t with
 | .at (.own l off len)=>match Ad st.heap l with
  |some (.arr fr tr e tid xs)=>if Nat.blt l Ah=true then (st.new l (.arr fr tr e tid ((xs.drop off).take len))).put (some t) (.at (.own l 0 ((xs.drop off).take len).length)) else st
  |_=>st
 |_=>st
def Ip (live:List Nat):Nat->Nat->St->St
 |0,_,st=>st
 |n+1,t,st=>Ip live n (t+1) (if live.contains (Kn+t) then Tt t st else st)
def St.clean (live:List Nat) (st:St):St:=
 let s:St:= {st with tmps:=Fb live 0 st.tmps}
 let r1:=s.tmps.flatMap AV.refs
 let r2:=r1++(s.heap.filter λp=>r1.contains p.1).flatMap λp=>p.2.refs
 let s2:=Wd ((s.heap.map (·.1)).filter λl=>!r2.contains l&&Nat.blt l Ah) s
 let s2:=if live.any (λt=>Nat.ble Kn t&&Nat.blt t Us) then Ip live s2.tmps.length 0 s2 else s2
 let s3:=if live.contains Us then Gx s2.tmps.length 0 s2 else s2
 if live.any (λt=>Nat.ble Qx t) then s3.Ek live else s3
def Bw:Code->Nat
 | .region id _ _=>id
 | .seq a _=>Bw a
 | .cond _ a _=>Bw a
 | .block _ c=>Bw c
 | .loop c=>1000+Bw c
 |_=>0
def KB (a b:List Nat):List Nat:=a++b.filter λt=>!a.contains t
def pU:List Oper->List Nat->List Nat
 | [],out=>out
 |o::r,out=>KB (o.op.operands.toList.filterMap λ | .tmp t=>some t|_=>none) (match o.dst with|some d=>(pU r out).filter (·!=d)|none=>pU r out)
def uX:List (Nat×List Nat)->Nat->List Nat
 | [],_=> []
 |(k,l)::r,id=>if k=id then l else uX r id
def iO:Code->List (Nat×List Nat)->List Nat->List Nat->List Nat×List (Nat×List Nat)
 | .region _ ops _,_,_,out=>(pU ops.toList out,[])
 | .seq a b,env,ret,out=>let rb:=iO b env ret out;let ra:=iO a env ret rb.1;(ra.1,ra.2++rb.2)
 | .cond c a b,env,ret,out=>let ra:=iO a env ret out;let rb:=iO b env ret out
  (KB (match c with| .tmp t=> [t]|_=> []) (KB ra.1 rb.1),ra.2++rb.2)
 | .block id c,env,ret,out=>iO c ((id,out)::env) ret out
 | .exit id,env,_,_=>(uX env id,[])
 | .ret,_,ret,_=>(ret,[])
 | .loop c,env,ret,_=>let l:=(iO c env ret []).1;let r:=iO c env ret l;(l,(Bw c,l)::r.2)
 |_,_,_,out=>(out,[])
def pV:List ResultVar->List Nat
 | []=> []
 | .tmp t::r=>t::pV r
 | .cell p _::r=>p::pV r
def pT (marks:List Nat) (fn:Func) (c:Code):Nat->List Nat:=let ret:=pV fn.results.toList;let g:=uX (iO c [] ret ret).2;match marks with
 | []=>g
 |m=> λid=>g id++m
def vX (K:St->Prop) (Q:Gc->St->Prop):Gc->St->Prop
 | .normal,s=>K s
 |e,s=>Q e s
def o3 (id:Nat) (Q:Gc->St->Prop):Gc->St->Prop
 | .exit yB,s=>if yB=id then Q .normal s else Q (.exit yB) s
 |e,s=>Q e s
inductive Ig (Γ:Env) (live:Nat->List Nat):Code->St->(Gc->St->Prop)->Prop where
 |skip {st:St} {Q:Gc->St->Prop} :Q .normal st->Ig Γ live .skip st Q
 |label {l:Nat} {st:St} {Q:Gc->St->Prop} :Q .normal st->Ig Γ live (.label l) st Q
 |exit {id:Nat} {st:St} {Q:Gc->St->Prop} :Q (.exit id) st->Ig Γ live (.exit id) st Q
 |ret {st:St} {Q:Gc->St->Prop} :Q .ret st->Ig Γ live .ret st Q
 |region {id:Nat} {ops:Array Oper} {draw:Bool} {st:St} {Q:Gc->St->Prop} :oX T (qk Γ draw) ops draw st (Q .normal)->Ig Γ live (.region id ops draw) st Q
 |seq {x y:Code} {st:St} {Q:Gc->St->Prop} (Q1:Gc->St->Prop):Ig Γ live x st Q1->(∀s,Q1 .normal s->Ig Γ live y s Q)->(∀e s,e≠ .normal->Q1 e s->Q e s)->Ig Γ live (.seq x y) st Q
 |cond {c:Operand} {x y:Code} {st:St} {fr t:Bool} {Q:Gc->St->Prop} :st.ev c= .at (.data fr .bool t)->(t=true->Ig Γ live x st Q)->(t=false->Ig Γ live y st Q)->Ig Γ live (.cond c x y) st Q
 |block {id:Nat} {c:Code} {st:St} {Q:Gc->St->Prop} (Q1:Gc->St->Prop):Ig Γ live c st Q1->(∀e s,Q1 e s->o3 id Q e s)->Ig Γ live (.block id c) st Q
 |loop {c:Code} {st:St} {Q:Gc->St->Prop} (Q1:Gc->St->Prop):Ig Γ live c (st.clean (live (Bw c))) Q1->(∀s,Q1 .normal s->Ig Γ live (.loop c) s Q)->(∀e s,e≠ .normal->Q1 e s->Q e s)->Ig Γ live (.loop c) st Q
def Vl (st:St):List ResultVar->Option (List AV)
 | []=>some []
 | .tmp t::r=>(Vl st r).map λl=>st.get t::l
 | .cell p t::r=>match Ji T st t (st.get p),Vl st r with
  |some v,some l=>some (v::l)
  |_,_=>none
def eU (s:Spec) (fn:Func) (st:St):Option (Bool×s.res.den):=
 match Vl T st fn.results.toList with
 |some [v]=>if s.Dt then none else Ci st s.res v
 |some [v,u]=>if s.Dt then Bl st s.res [v,u] else none
 |some [v,u,t]=>if s.Dt then Bl st s.res [v,u,t] else none
 |_=>none
def Le:(τ:Ty)->τ.den->List AV
 | .pair a r,x=> .at (.data a.flat a x.1)::Le r x.2
 |_,_=> []
def cC (st:St):(c:CK)->AC->Option (c.den×List Nat)
 | .Gh τ,a=>if τ.flat||a.settled then (Bh st τ a).map λp=>(p.2,[]) else none
 | .row e te, .own l off len=>match st.at l with
  |some (.arr _ _ e' Kd xs)=>if h:e'=e/\Kd=te then some ((((h.1▸xs:List e.den).drop off).take len),[l]) else none
  |_=>none
 | .row _ _, .Gw=>some ([],[])
 | .Dh e te, .own l off len=>match st.at l with
  |some (.arr _ tr e' Kd xs)=>if h:e'=e/\Kd=te/\(tr||e.flat)=true then some ((((h.1▸xs:List e.den).drop off).take len),[l]) else none
  |some (.Cu e' Kd xs)=>if h:e'=e/\Kd=te then some ((((h.1▸xs:List e.den).drop off).take len),[l]) else none
  |_=>none
 | .Dh _ _, .Gw=>some ([],[])
 | .Ai e te _, .own l off len=>match st.at l with
  |some (.Ai e' Kd rows none _)=>if h:e'=e/\Kd=te/\off=0/\len=rows.length then some ((h.1▸rows:List (List e.den)),[l]) else none
  |_=>none
 |_,_=>none
def Mw (st:St):(cs:List CK)->List AC->Option (CKs.den cs×List Nat)
 | [],[]=>some ((),[])
 |c::r,a::as=>match cC st c a,Mw st r as with
  |some (x,t1),some (y,t2)=>some ((x,y),t1++t2)
  |_,_=>none
 |_,_=>none
def iz (st:St) (l:Nat):(c:CK)->Option c.den
 | .Gh _=>none
 | .row e te=>match st.at l with
  |some (.arr _ _ e' Kd xs)=>if h:e'=e/\Kd=te then some (h.1▸xs) else none
  |_=>none
 | .Dh e te=>match st.at l with
  |some (.Cu e' Kd xs)=>if h:e'=e/\Kd=te then some (h.1▸xs) else none
  |_=>none
 | .part _ _=>none
 | .Ai _ _ _=>none
def Il (st:St):(k:Nat)->(cs:List (Bool×CK))->Option (IOs.den cs)
 |_,[]=>some ()
 |k,(true, .Gh _)::r=>Il st (k+1) r
 |k,(true, .Ai _ _ _)::r=>Il st (k+1) r
 |k,(true, .row e te)::r=>match iz st (Bm true k) (.row e te),Il st (k+1) r with
  |some x,some y=>some (x,y)
  |_,_=>none
 |k,(true, .Dh e te)::r=>match iz st (Bm true k) (.Dh e te),Il st (k+1) r with
  |some x,some y=>some (x,y)
  |_,_=>none
 |k,(true, .part e te)::r=>match iz st (Bm true k) (.row e te),Il st (k+1) r with
  |some x,some y=>some (x,y)
  |_,_=>none
 |k,(false,_)::r=>Il st (k+1) r
def Ja:(k:Nat)->List (Bool×CK)->List Nat
 |_,[]=> []
 |k,(true, .Gh _)::r=>Ja (k+1) r
 |k,(true, .Ai _ _ _)::r=>Ja (k+1) r
 |k,(true,_)::r=>Bm true k::Ja (k+1) r
 |k,(false,_)::r=>Ja (k+1) r
def Kq:Nat:=1900000000
def En:(k:Nat)->List (Bool×CK)->List AC->Option (List AC)
 |_,_,[]=>some []
 |k,(true, .row _ _)::r, .own l _ _::as=>if Nat.beq l (Bm true k) then En (k+1) r as else none
 |k,(true, .Dh _ _)::r, .own l _ _::as=>if Nat.beq l (Bm true k) then En (k+1) r as else none
 |k,(false,_)::r,a::as=>(En (k+1) r as).map λl=>a::l
 |_,_,_=>none
def aY (st:St):List AC->List (Bool×CK)->Prop
 | .own l off len::as,(true,_)::r=>(off=0/\match st.at l with
  |some (.arr _ _ _ _ xs)=>len=xs.length
  |some (.Cu _ _ xs)=>len=xs.length
  |_=>False)/\aY st as r
 |_::as,(false,_)::r=>aY st as r
 |_,_=>True
def wu (s:MSpec) (st:St) (l:List AV):Option (List AC×List Nat):=match s.rp with
 |none=>if s.Dt=Nat.blt 1 l.length then (ungroup s.Fk l).map λas=>(as,[]) else none
 |some tid=>match l with
  | [.at (.Dj m i)]=>match st.at m with
   |some (.var Mp vs)=>if Mp=tid/\i=0/\Nat.blt m Ah=true then some (vs,[m]) else none
   |_=>none
  |_=>none
def o7 (st:St) (n:Nat) (as:List AC):List (Nat×Nat)->Prop
 | []=>True
 |(k,j)::r=>(match as[j]? with
  |some (.own l _ _)=>match st.at l with
   |some (.Ai _ _ _ _ (some p))=>p.1=Bm false k/\n<=p.2/\Nat.blt k 1000=true
   |_=>False
  |_=>False)/\o7 st n as r
def cp (s:MSpec) (fn:Func) (x:Ins.den s.ins) (st:St) (cs:List AC) (P:CKs.den s.outs×IOs.den s.ins->Prop):Prop:=
 match Vl T st fn.results.toList with
 |none=>False
 |some l=>match wu s st l with
  |none=>False
  |some (as,ml)=>match Mw st s.outs (cs++as),Il st 0 s.ins with
   |some (r,ls),some o=>(Rd (ml++ls++Ja 0 s.ins)&&Nat.blt s.ins.length 1000&&Nat.blt s.outs.length 1000&&s.CM)=true/\o7 st (s.Cj x) (cs++as) s.keeps/\P (r,o)
   |_,_=>False
def AD (s:MSpec) (fn:Func) (x:Ins.den s.ins) (st:St) (P:CKs.den s.outs×IOs.den s.ins->Prop):Prop:=
 match s.ptr with
 |none=>cp T s fn x st [] P
 |some p=> ∃vs cs,st.at Kq=some (.var p.1 vs)/\vs.length=p.2/\En 0 s.ins vs=some cs/\aY st vs s.ins/\cp T s fn x st cs P
def Rk (s:MSpec) (as:List AC):List AV:=match s.ptr with
 |none=>Li s.Gg as
 |some p=> .at (.Dj Kq 0)::Li s.Gg (as.drop p.2)
def iK (s:MSpec) (x:Ins.den s.ins):List (Nat×OB):=match s.ptr with
 |none=>Qq 0 s.ins x
 |some p=>Qq 0 s.ins x++ [(Kq, .var p.1 ((Tk 0 s.ins x).take p.2))]
def Qt:List (Bool×CK)->Bool
 | []=>true
 |(true, .Ai _ _ _)::_=>false
 |_::r=>Qt r
def qg (s:MSpec):Bool:=Qt s.ins&&match s.ptr with
 |none=>true
 |some p=>Nat.ble p.2 s.ins.length
def HY (Γ:Env) (s:MSpec) (fn:Func) (x:Ins.den s.ins) (P:CKs.den s.outs×IOs.den s.ins->Prop):Prop:=
 (Nat.blt s.ins.length 1000&&qg s)=true/\ ∃c,fn.body=some c/\Ig T Γ (pT T.marks fn c) c {tmps:=Rk s (Tk 0 s.ins x)++List.replicate (fn.ntmps-(Rk s (Tk 0 s.ins x)).length) .undef,heap:=iK s x}
  (λe st=>(∀id,e≠ .exit id)/\AD T s fn x st P)
def AE (Γ:Env) (s:Spec) (fn:Func) (x:s.arg.den) (P:s.res.den->Prop):Prop:=
 ∃c,fn.body=some c/\Ig T Γ (pT T.marks fn c) c {tmps:=Le s.arg x++List.replicate (fn.ntmps-(Le s.arg x).length) .undef,heap:= []}
  (λe st=>(∀id,e≠ .exit id)/\ ∃fr y,eU T s fn st=some (fr,y)/\(fr||!s.fresh)=true/\P y)
end Go.Proofs.Ytjbdmibbbpdnnaa
