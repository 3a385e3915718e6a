/-
  Part 3 of the proof that the statement FnExactPhaseTwoWord holds.
-/
import Derived.Test.YtjbdmibbbpdnnaaCPhaseTwoWord01
namespace Go.Proofs.Ytjbdmibbbpdnnaa
open Go.RowKit
def Dq:Nat->St->List AC->Option (List AC×St)
 |0,st,cs=>if cs.all (·.settled) then some (cs,st) else none
 |n+1,st,cs=>
  match cs.find? (λc=>!c.settled) with
  |none=>some (cs,st)
  |some (.own l _ _)=>match st.at l with
   |some (.arr fr _ e _ xs)=>Dq n (st.freeze l fr e xs) (cs.map (Bb l fr e xs))
   |some (.Dg e _ xs)=>Dq n (st.freeze l false e xs) (cs.map (Bb l false e xs))
   |_=>none
  |some (.Gi l)=>match st.at l with
   |some (.Ok v m)=>Dq n (st.El l v m) (cs.map (Dj l v m))
   |_=>none
  |some _=>none
def settle (st:St):AV->Option (AV×St)
 | .at (.own l off len)=>match st.at l with
  |some (.arr fr _ e _ xs)=>some (.at (.data fr (.slice e) ((xs.drop off).take len)),st.freeze l fr e xs)
  |some (.Dg e _ xs)=>some (.at (.data false (.slice e) ((xs.drop off).take len)),st.freeze l false e xs)
  |_=>none
 | .at (.Gi l)=>match st.at l with
  |some (.Ok v m)=>some (.at (.data false (.smap v) m),st.El l v m)
  |_=>none
 | .at a=>if a.settled then some (.at a,st) else none
 | .agg cs=>(Dq cs.length st cs).map λp=>(.agg p.1,p.2)
 | .Uo fr τ x=>some (.Uo fr τ x,st)
 | .Ix _=>none
def AC.refs:AC->List Nat
 | .own l _ _| .Dw l _| .Fy l _| .Gi l| .sub l _ _| .Fv l _ _=> [l]
 | .clo _ Bz=>Bz.map (·.1)
 |_=> []
def Sz:List Nat->Bool
 | []=>true
 |a::r=>!r.contains a&&Sz r
def Ty.tree:Ty->Bool
 | .int _| .bool| .str| .unit=>true
 | .slice e=>e.tree
 | .pair a r=>a.tree&&r.tree
 |_=>false
def Lq (st:St):AC->Bool
 | .data _ τ _=>τ.flat
 | .Hp=>true
 | .own l _ _=>match st.at l with
  |some (.arr _ tr e _ _)=>tr||e.flat
  |some (.Dg _ _ _)=>true
  |_=>false
 |_=>false
def Mu (st:St):AV->Bool
 | .at a=>Lq st a
 | .agg cs=>cs.all (Lq st)&&Sz (cs.flatMap AC.refs)
 |_=>false
def Ak:Nat:=1000000000
variable (T:Tab)
def zG (t:TypeId) (τ:Ty) (i:Nat):Option TypeId:=
 if τ.Ac then (List.range 24).findSome? λf=>match T.off t f with
  |some (o,u)=>if o=i then some u else none
  |none=>none
 else some t
def Tab.zQ (te:TypeId):Option Ty:=if T.PC.contains te then (match T.ty te with
 |some (.slice e)=>some e
 |_=>none) else none
def Xy (te:TypeId) (e:Ty):OB:=match T.zQ te with
 |some e'=> .Al e' te [] none none
 |none=> .arr (T.oa||e.flat) T.tQ e te []
def Nr (b:OB) (key l i:Nat) (st:St):St:=
 match st.at l with
 |some (.var _ vs)=>match vs[i]? with
  |some .Hp=>
   let s1:=st.new key b
   match s1.at l with
   |some (.var tid tS)=>s1.Gb l (.var tid (Nt tS i (.own key 0 0)))
   |_=>s1
  |_=>st
 |_=>st
def aq (l:Nat) (t:TypeId) (τ:Ty):Nat->Nat->St->St
 |0,_,st=>st
 |n+1,i,st=>
  aq l t τ n (i+1) (match ((zG T t τ i).bind T.elem).bind λte=>(T.ty te).map λe=>(te,e) with
   |some (te,e)=>Nr (Xy T te e) (100000+l*100+i) l i st
   |none=>st)
def Yu (l off:Nat) (t:TypeId) (τ:Ty):Nat->Nat->St->St
 |0,_,st=>st
 |n+1,i,st=>
  Yu l off t τ n (i+1) (match ((zG T t τ i).bind T.elem).bind λte=>(T.ty te).map λe=>(te,e) with
   |some (te,e)=>Nr (Xy T te e) (100000+l*100+(off+i)) l (off+i) st
   |none=>st)
def zeroCells:(τ:Ty)->List AC
 | .unit=> []
 | .pair a r=>zeroCells a++zeroCells r
 | .slice _=> [.Hp]
 | .oslice _=> [.Hp]
 | .ptr _=> [.Qw]
 | .optr _=> [.Qw]
 | .clo _ _=> [.undef]
 |τ=> [.data true τ τ.zero]
def cellsOf (τ:Ty):AV->Option (List AC)
 | .agg cs=>if τ.Ac&&cs.length==τ.size then some cs else none
 | .at (.data fr Iz x)=>if Iz=τ then some (Ro fr Iz x) else none
 | .at .undef=>none
 | .at .skip=>none
 | .at a=>if τ.Ac then none else some [a]
 |_=>none
def mkVar (st:St) (l:Nat) (t:TypeId) (τ:Ty) (cs:List AC):Option (AV×St):=
 if Ak<=100000+l*100+cs.length then none else
 let s:=aq T l t τ cs.length 0 (st.new l (.var t (cs.map (Ba l))))
 match s.at l with
 |some (.var _ _)=>some (.at (.Dw l 0),s)
 |_=>none
def Bt {α:Type} (xs:List α) (i:Nat) (ys:List α):List α:=xs.take i++ys++xs.drop (i+ys.length)
def Ny (st:St) (t:TypeId) (p v:AV):Option St:=
 match T.ty t,p with
 |some τ, .at (.Dw l i)=>match st.at l,cellsOf τ v with
  |some (.var tid vs),some cs=>if i+cs.length<=vs.length then some (if τ.Ac&&Nat.blt (100000+l*100+(i+cs.length)) Ak then Yu T l i t τ cs.length 0 (st.Gb l (.var tid (Bt vs i cs))) else st.Gb l (.var tid (Bt vs i cs))) else none
  |_,_=>none
 |some τ, .at (.Fy l j)=>match settle st v with
  |some (v',st')=>match st'.at l,Cv st' τ v' with
   |some (.arr fr tr e tid xs),some (Ov,x)=>if h:τ=e then (if j<xs.length then some (st'.Gb l (.arr (fr&&Ov) (tr&&(Mu st v&&e.tree)) e tid (xs.set j (h▸x)))) else none) else none
   |_,_=>none
  |none=>none
 |_,_=>none
def Bm:Nat:=4294967296
def Ir (st:St) (dst:Nat) (t:TypeId) (x y:Operand):Option (AV×St):=
 match T.elem t with
 |none=>none
 |some te=>match T.ty te,settle st (st.ev y) with
  |some e,some (y',st')=>match Cv st' (.slice e) y' with
   |none=>none
   |some (ly,ys)=>
    let tr2:=e.flat||(Mu st (st.ev y)&&e.tree)
    match st'.ev x with
    | .at .Hp=>if ys.length<=Bm/\dst<Ak then some (.at (.own dst 0 (0+ys.length)),(st'.new dst (.arr (T.oa||e.flat) T.tQ e te [])).new dst (.arr ((T.oa||e.flat)&&(ly||e.flat)) (T.tQ&&tr2) e te (((([]:List e.den).drop 0).take 0)++ys))) else none
    | .at (.own l off len)=>match st'.at l with
     |some (.arr fr tr e' tid xs)=>if h:e'=e/\tid=te then
       (if len+ys.length<=Bm/\l<Ak then
        some (.at (.own l 0 (len+ys.length)),st'.new l (.arr (fr&&(ly||e.flat)) (tr&&tr2) e te ((((h.1▸xs:List e.den).drop off).take len)++ys))) else none)
      else none
     |_=>none
    |_=>none
  |_,_=>none
def Kf (st:St) (l i m:Nat) (e:Ty) (te tid:TypeId) (rows:List (List e.den)) (kp:Option (Nat×Nat)):St:=
 (st.Gb l (.Al e te rows (some i) kp)).new m (.arr false false e tid (rows.getD i []))
def Lg (st:St) (dst:Nat) (t:TypeId) (x y:Operand):Option (AV×St):=
 match x with
 | .tmp tx=>match st.get tx with
  | .at (.sub l i _)=>match st.at l,T.elem t with
   |some (.Al e te rows none kp),some tid=>if (Nat.blt l Ak&&(Nat.blt dst Ak&&!Nat.beq dst l))=true then Ir T ((Kf st l i dst e te tid rows kp).put (some tx) (.at (.own dst 0 (rows.getD i []).length))) dst t x y else none
   |_,_=>none
  |_=>Ir T st dst t x y
 |_=>Ir T st dst t x y
def gg:Ty->Bool
 | .int _| .bool| .str| .slice _| .oslice _=>true
 |_=>false
def aT:Ty->Bool
 | .unit=>true
 | .pair a r=>aT a&&aT r
 |e=>gg e
def Ux (st:St) (dst:Nat) (t:TypeId) (l c:AV):Option (AV×St):=
 match T.elem t,l,c with
 |some te, .at (.data _ (.int _) n), .at (.data _ (.int _) m)=>match T.ty te with
  |some e=>if QN n (Bm+1)=true/\n=m/\aT e=true/\dst<Ak then some (.at (.own dst 0 n.toNat),st.new dst (.arr (T.oa||e.flat) (T.tQ&&e.tree) e te (List.replicate n.toNat e.zero))) else none
  |none=>none
 |_,_,_=>none
def Gs (e:Ty):Nat->List (Nat×Operand)->St->Option (Bool×Bool×List e.den×St)
 |_,[],st=>some (true,true,[],st)
 |i,(j,x)::r,st=>
  if i=j then match settle st (st.ev x) with
   |some (v,st')=>match Cv st' e v with
    |some (fr,y)=>match Gs e (i+1) r st' with
     |some (Ov,KG,ys,Af8)=>some (fr&&Ov,Mu st (st.ev x)&&e.tree&&KG,y::ys,Af8)
     |none=>none
    |none=>none
   |none=>none
  else none
def Hl (st:St) (dst:Nat) (t:TypeId) (len:Nat) (parts:Array (Nat×Operand)):Option (AV×St):=
 match T.elem t with
 |none=>none
 |some te=>match T.ty te with
  |none=>none
  |some e=>if parts.size=len/\len<=64/\e.size<=64/\dst<Ak then (match Gs e 0 parts.toList st with
   |some (fr,tr,ys,st')=>some (.at (.own dst 0 len),st'.new dst (.arr ((T.oa||e.flat)&&fr) (T.tQ&&tr) e te ys))
   |none=>none) else none
def Nx (st:St) (dst:Nat) (t:TypeId):Option (AV×St):=
 match T.mapOf t with
 |some v=>if dst<Ak then some (.at (.Gi dst),st.new dst (.Ok v λ_=>none)) else none
 |none=>none
def aQ {α:Type} (m:ByteArray->Option α) (k:ByteArray) (x:α):ByteArray->Option α:= λs=>if s=k then some x else m s
def Eu (st:St) (t:TypeId) (m k x:AV):Option St:=
 match T.mapOf t,m,k with
 |some v, .at (.Gi l), .at (.data _ .str s)=>match st.at l,Cv st v x with
  |some (.Ok v' f),some (_,y)=>if h:v'=v/\v.flat=true/\v.Ac=false then some (st.Gb l (.Ok v (aQ (h.1▸f:ByteArray->Option v.den) s y))) else none
  |_,_=>none
 |_,_,_=>none
def bZ (st:St) (t t':TypeId) (x y:AV):Option (AV×St):=
 match x,(T.elem t).bind T.ty with
 | .at (.own l off len),some e=>if T.elem t=T.elem t'/\e.flat=true/\e.size=1 then match st.at l,Cv st (.slice e) y with
  |some (.arr fr _ e' tid xs),some (_,ys)=>if h:e'=e/\T.elem t=some tid then
    some (.at (.data true (.int .i64) (min len ys.length:Nat)),st.Gb l (.arr fr false e tid (Bt (h.1▸xs:List e.den) off (ys.take len))))
   else none
  |_,_=>none
  else none
 |_,_=>none
def evalClear (st:St) (t:TypeId) (x:AV):Option St:=
 match x,(T.elem t).bind T.ty with
 | .at (.own l off len),some e=>if e.flat=true/\gg e=true then match st.at l with
  |some (.arr fr _ e' tid xs)=>if h:e'=e/\T.elem t=some tid then
    some (st.Gb l (.arr fr false e tid (Bt (h.1▸xs:List e.den) off (List.replicate len e.zero))))
   else none
  |_=>none
  else none
 |_,_=>none
def Hk (st:St) (t:TypeId):List (Nat×Operand)->List AC->Option (List AC)
 | [],cs=>some cs
 |(i,x)::r,cs=>
  match T.off t i with
  |some (o,u)=>match T.ty u with
   |some ρ=>match cellsOf ρ (st.ev x) with
    |some c=>if o+c.length<=cs.length then Hk st t r (Bt cs o c) else none
    |none=>none
   |none=>none
  |none=>none
def Qj (st:St) (t:TypeId) (parts:Array (Nat×Operand)):Option AV:=
 match T.ty t with
 |none=>none
 |some τ=>if τ.Ac then (Hk T st t parts.toList (zeroCells τ)).map .agg else none
def Bv (io:Bool) (k:Nat):Nat:=if io then 1000000000+k else 500000+k
def Fq (k:Nat):Nat:=600000+k
def IM (dst:Nat) (k:Nat):Nat:=1000000*(dst+1)+k
def Mm:List (Option Nat)->List AC->List AV
 |none::s,a::as=> .at a::Mm s as
 |some n::s,as=> .agg (as.take n)::Mm s (as.drop n)
 |_,_=> []
def Gt:List (Option Nat)->List Value->List Value
 |none::s,u::us=>u::Gt s us
 |some n::s,us=> .agg (us.take n).toArray::Gt s (us.drop n)
 |_,_=> []
def ungroup:List (Option Nat)->List AV->Option (List AC)
 | [],[]=>some []
 |none::s, .at a::as=>(ungroup s as).map λr=>a::r
 |some n::s, .agg cs::as=>if cs.length=n then (ungroup s as).map λr=>cs++r else none
 |_,_=>none
def dP (l:Nat):(c:CK)->c.den->Option OB
 | .Ee _,_=>none
 | .row e te,xs=>some (.arr false false e te xs)
 | .Dt e te,xs=>some (.Dg e te xs)
 | .part e te,x=>some (.arr false false e te x.1)
 | .Al e te kp,xs=>some (.Al e te xs none (if kp then some (l,List.length xs) else none))
def Ac6 (l:Nat):(c:CK)->c.den->AC
 | .Ee τ,x=> .data τ.flat τ x
 | .row _ _,xs=> .own l 0 (List.length xs)
 | .Dt _ _,xs=> .own l 0 (List.length xs)
 | .part _ _,x=> .own l x.2.1 x.2.2
 | .Al _ _ _,xs=> .own l 0 (List.length xs)
def bR {α:Type} (l:Nat):Option α->List (Nat×α)->List (Nat×α)
 |none,r=>r
 |some b,r=>(l,b)::r
def Sh:(k:Nat)->(cs:List (Bool×CK))->Ins.den cs->List (Nat×OB)
 |_,[],_=> []
 |k,p::r,x=>bR (Bv p.1 k) (dP (Bv p.1 k) p.2 x.1) (Sh (k+1) r x.2)
def Ve:(k:Nat)->(cs:List (Bool×CK))->Ins.den cs->List AC
 |_,[],_=> []
 |k,p::r,x=>Ac6 (Bv p.1 k) p.2 x.1::Ve (k+1) r x.2
inductive Loc where
 |row (l:Nat)
 |sub (l i c:Nat)
 |view (l:Nat)
 deriving DecidableEq
def Loc.Py:Loc->Nat
 | .row l=>l
 | .sub l _ _=>l
 | .view l=>l
def Loc.reads:Loc->Bool
 | .view _=>true
 |_=>false
def Vv (st:St) (ls:List Nat):Bool:=ls.all λl=>match st.at l with|some (.var _ vs)=>vs.all (·.settled)|_=>false
def views (k:Nat) (ls:List Nat):List (Nat×Loc):=ls.map λl=>(Bv false k, .view l)
def Hf (st:St) (io:Bool) (k:Nat):(c:CK)->AC->Option (c.den×List (Nat×Loc))
 | .Ee τ, .own l off len=>(Bp st τ (.own l off len)).map λp=>(p.2,[(Bv false k, .view l)])
 | .Ee τ, .clo g Bz=>if Vv st (Bz.map (·.1))&&!τ.Ac then (Fk st τ (.clo g Bz)).map λp=>(p.2,views k (Bz.map (·.1))) else none
 | .Ee τ, .Dw l i=>if Vv st [l]&&!τ.Ac then (Fk st τ (.Dw l i)).map λp=>(p.2,views k [l]) else none
 | .Ee τ, .sub l i c=>(Bp st τ (.sub l i c)).map λp=>(p.2,[(Bv false k, .view l)])
 | .Ee τ,a=>if τ.flat||a.settled then (Bp st τ a).map λp=>(p.2,[]) else none
 | .row e te, .own l off len=>match st.at l with
  |some (.arr _ _ e' Ld xs)=>if h:e'=e/\Ld=te/\off=0/\len=xs.length then some ((h.1▸xs:List e.den),[(Bv io k, .row l)]) else none
  |_=>none
 | .row e _, .sub l i c=>match st.at l with
  |some (.Dg e' _ xs)=>if h:e'= .slice e/\e.flat=true/\io=true/\c=0 then xs[i]?.map λy=>((h.1▸y:(Ty.slice e).den),[(Bv io k, .sub l i c)]) else none
  |_=>none
 | .row _ _, .Hp=>some ([],[])
 | .Dt e te, .own l off len=>match st.at l with
  |some (.Dg e' Ld xs)=>if h:e'=e/\Ld=te/\off=0/\len=xs.length then some ((h.1▸xs:List e.den),[(Bv io k, .row l)]) else none
  |_=>none
 | .Dt e _, .sub l i c=>match st.at l with
  |some (.Dg e' _ xs)=>if h:e'= .slice e/\io=true/\c=0 then xs[i]?.map λy=>((h.1▸y:(Ty.slice e).den),[(Bv io k, .sub l i c)]) else none
  |_=>none
 | .Dt _ _, .Hp=>some ([],[])
 | .part e te, .own l off len=>match st.at l with
  |some (.arr _ _ e' Ld xs)=>if h:e'=e/\Ld=te/\e.flat=true/\io=true then some (((h.1▸xs:List e.den),off,len),[(Bv io k, .row l)]) else none
  |_=>none
 | .Al e te _, .own l off len=>match st.at l with
  |some (.Al e' Ld rows none _)=>if h:e'=e/\Ld=te/\off=0/\len=rows.length/\io=false then some ((h.1▸rows:List (List e.den)),[(Bv io k, .row l)]) else none
  |_=>none
 |_,_=>none
def aP (st:St):(k:Nat)->(cs:List (Bool×CK))->List AC->Option (Ins.den cs×List (Nat×Loc))
 |_,[],[]=>some ((),[])
 |k,p::r,a::as=>match Hf st p.1 k p.2 a,aP st (k+1) r as with
  |some (x,t1),some (y,t2)=>some ((x,y),t1++t2)
  |_,_=>none
 |_,_,_=>none
def Vz (st:St):(c:CK)->c.den->AC->Option St
 | .row e _,ys, .own l _ len=>match st.at l with
  |some (.arr fr tr e' te xs)=>if h:e=e'/\List.length ys=len/\xs.length=len then some (st.Gb l (.arr (fr&&e'.flat) (tr&&e'.flat) e' te (h.1▸ys))) else none
  |_=>none
 | .Dt e _,ys, .own l _ len=>match st.at l with
  |some (.Dg e' te xs)=>if h:e=e'/\List.length ys=len/\xs.length=len then some (st.Gb l (.Dg e' te (h.1▸ys))) else none
  |_=>none
 | .row e _,ys, .sub l i _=>match st.at l with
  |some (.Dg e' te xs)=>if h: .slice e=e' then (match xs[i]? with
   |some y=>if List.length ys=List.length (h▸y:(Ty.slice e).den) then some (st.Gb l (.Dg e' te (xs.set i (h▸(ys:(Ty.slice e).den))))) else none
   |none=>none) else none
  |_=>none
 | .Dt e _,ys, .sub l i _=>match st.at l with
  |some (.Dg e' te xs)=>if h: .slice e=e' then (match xs[i]? with
   |some y=>if List.length ys=List.length (h▸y:(Ty.slice e).den) then some (st.Gb l (.Dg e' te (xs.set i (h▸(ys:(Ty.slice e).den))))) else none
   |none=>none) else none
  |_=>none
 |_,_, .Hp=>some st
 |_,_,_=>none
def yN (st:St) (e:Ty) (ys:List e.den):AC->Option St
 | .own l _ _=>match st.at l with
  |some (.arr fr tr e' te xs)=>if h:e=e'/\List.length ys=xs.length then some (st.Gb l (.arr fr tr e' te (h.1▸ys))) else none
  |_=>none
 |_=>none
def Ec:(cs:List (Bool×CK))->IOs.den cs->List AC->St->Option St
 | [],_,_,st=>some st
 |(true, .Ee _)::r,x,_::as,st=>Ec r x as st
 |(true, .row e te)::r,x,a::as,st=>match Vz st (.row e te) x.1 a with
  |some st'=>Ec r x.2 as st'
  |none=>none
 |(true, .Dt e te)::r,x,a::as,st=>match Vz st (.Dt e te) x.1 a with
  |some st'=>Ec r x.2 as st'
  |none=>none
 |(true, .part e _)::r,x,a::as,st=>match yN st e x.1 a with
  |some st'=>Ec r x.2 as st'
  |none=>none
 |(true, .Al _ _ _)::r,x,_::as,st=>Ec r x as st
 |(false,_)::r,x,_::as,st=>Ec r x as st
 |_,_,_,_=>none
def Aw (dead part:List Nat) (c:AC):AC:=if c.refs.any (λl=>dead.contains l) then .undef else match c with
 | .sub l i c=>if part.contains l then .undef else .sub l i c
 | .Fv l i c=>if part.contains l then .undef else .Fv l i c
 |c=>c
def Qh:List (Nat×OB)->List Nat->List (Nat×OB)
 | [],_=> []
 |(k,b)::r,dead=>if dead.contains k then Qh r dead else (k,b)::Qh r dead
def St.Wh (st:St) (dead part:List Nat):St:=let s:=st.Gh (Aw dead part); {s with heap:=Qh s.heap dead}
def Mx (st:St) (l j m:Nat) (e:Ty) (te:TypeId) (rows:List (List e.den)) (xs:List e.den) (kp:Option (Nat×Nat)):St:=
 (st.Wh [m] [l]).Gb l (.Al e te (rows.set j xs) none kp)
def Vi (j:Nat):Option (Nat×Nat)->Option (Nat×Nat)
 |none=>none
 |some p=>some (p.1,min p.2 j)
def Va (st:St) (t:TypeId) (p v:AV):Option St:=
 match T.ty t,p with
 |some τ, .at (.Fv l i j)=>match settle st v with
  |some (v',st')=>match st'.at l,Cv st' τ v' with
   |some (.Al e te rows none kp),some (_,x)=>if h:τ=e then some (st'.Gb l (.Al e te (rows.set i ((rows.getD i []).set j (h▸x))) none kp)) else none
   |_,_=>none
  |none=>none
 |some τ, .at (.Fy l j)=>match st.at l,v with
  |some (.Al e te rows out kp), .at (.own m off len)=>match st.at m with
   |some (.arr _ _ e' _ xs)=>if h:e'=e/\(Nat.blt l Ak&&(!Nat.beq m l&&!τ.Ac))=true/\off=0/\len=xs.length/\(out=none\/out=some j) then some (Mx st l j m e te rows (h.1▸xs) (Vi j kp)) else none
   |_=>none
  |_,_=>none
 |_,_=>none
def zR (st:St):AV->Bool
 | .at (.Fv _ _ _)=>true
 | .at (.Fy l _)=>match st.at l with
  |some (.Al _ _ _ _ _)=>true
  |_=>false
 |_=>false
def Jw (st:St) (t:TypeId) (p v:AV):Option St:=match zR st p with
 |true=>Va T st t p v
 |false=>Ny T st t p v
def Kx (st:St) (k m:Nat) (b:OB):St:=let s:=st.Wh [m,k] []; {s with heap:=Jb s.heap k b}
def Yg (t:TypeId):Option (TypeId×Ty):=(T.elem t).bind λte=>(T.zQ te).map λe=>(te,e)
def Qm (st:St) (dst:Nat) (t:TypeId) (l c:AV):Option (AV×St):=
 match Yg T t with
 |none=>Ux T st dst t l c
 |some (te,e)=>match l,c with
  | .at (.data _ (.int _) n), .at (.data _ (.int _) m)=>if QN n (Bm+1)=true/\n=m/\dst<Ak then some (.at (.own dst 0 n.toNat),Kx st dst dst (.Al e te (List.replicate n.toNat []) none none)) else none
  |_,_=>none
def Er (st:St) (dst:Nat) (t:TypeId) (len:Nat) (parts:Array (Nat×Operand)):Option (AV×St):=
 match Yg T t with
 |none=>Hl T st dst t len parts
 |some (te,e)=>match parts.toList with
  | [(0,x)]=>match st.ev x with
   | .at (.own m off ln)=>match st.at m with
    |some (.arr _ _ e' _ xs)=>if h:e'=e/\(Nat.beq len 1&&(Nat.blt dst Ak&&Nat.blt m Ak))=true/\off=0/\ln=xs.length then some (.at (.own dst 0 1),Kx st dst m (.Al e te [h.1▸xs] none none)) else none
    |_=>none
   |_=>none
  |_=>none
def Lh (st:St) (dst:Nat) (t:TypeId) (x y:Operand):Option (AV×St):=
 match Yg T t with
 |none=>Lg T st dst t x y
 |some (te,e)=>match st.ev x,st.ev y with
  | .at (.own l off len), .at (.own m IP mP)=>match st.at l,st.at m with
   |some (.Al e1 te1 A none _),some (.Al e2 pv B none _)=>
    if h:(e1=e/\e2=e)/\(decide (te1=te)&&decide (pv=te)&&(Nat.blt l Ak&&(Nat.blt m Ak&&!Nat.beq m l)))=true/\(off=0/\len=A.length)/\(IP=0/\mP=B.length)/\0<B.length/\A.length+B.length<=Bm then
     some (.at (.own l 0 (A.length+B.length)),Kx st l m (.Al e te ((h.1.1▸A:List (List e.den))++(h.1.2▸B:List (List e.den))) none none))
    else none
   |_,_=>none
  |_,_=>none
def oO (fr:Bool):(c:CK)->c.den->Option OB
 | .Ee _,_=>none
 | .row e te,xs=>some (.arr (fr&&e.flat) false e te xs)
 | .Dt e te,xs=>some (.Dg e te xs)
 | .part e te,x=>some (.arr (fr&&e.flat) false e te x.1)
 | .Al e te _,xs=>some (.Al e te xs none none)
def uZ (H:List (Nat×OB)) (l:Nat):Option OB->List (Nat×OB)
 |some b=>Jb H l b
 |none=>H
def Qy (fr:Bool) (key:Nat->Nat):(k:Nat)->(cs:List CK)->CKs.den cs->List (Nat×OB)->List (Nat×OB)
 |_,[],_,H=>H
 |k,c::r,x,H=>Qy fr key (k+1) r x.2 (uZ H (key k) (oO fr c x.1))
def Vn (key:Nat->Nat):(k:Nat)->(cs:List CK)->CKs.den cs->List AC
 |_,[],_=> []
 |k,c::r,x=>(match c,x.1 with
  | .Ee τ,y=> .data τ.flat τ y
  | .row _ _,xs=> .own (key k) 0 (List.length xs)
  | .Dt _ _,xs=> .own (key k) 0 (List.length xs)
  | .Al _ _ _,xs=> .own (key k) 0 (List.length xs)
  | .part _ _,_=> .undef)::Vn key (k+1) r x.2
def Ta:List (Option Nat)->List AC->List (Bool×List AC)
 |none::s,a::as=>(false,[a])::Ta s as
 |some n::s,as=>(true,as.take n)::Ta s (as.drop n)
 |_,_=> []
def Aa0 (Ef:Bool) (sh:List (Option Nat)) (as:List AC):Option AV:=
 if Ef then some (.Ix (Ta sh as)) else match Mm sh as with
  | [v]=>some v
  | []=>some .undef
  |_=>none
def gy (tks:List (Nat×Loc)):List Nat:=(tks.filter λt=>Nat.blt t.1 Ak&&!t.2.reads).map λt=>t.2.Py
def whole (tks:List (Nat×Loc)):List Nat:=tks.flatMap λt=>match t.2 with| .row l=> [l]|_=> []
def tz (tks:List (Nat×Loc)):List Nat:=(tks.filter λt=>t.2.reads).map λt=>t.2.Py
def vr (ins:List (Bool×CK)) (te:TypeId) (used:List Nat):List (Nat×Loc)->Option Nat
 | []=>none
 |(k, .row l)::r=>if Nat.blt k Ak&&(!used.contains l&&(match ins[k-500000]? with
   |some (false, .row _ Ld)=>decide (Ld=te)
   |some (false, .Dt _ Ld)=>decide (Ld=te)
   |some (false, .Al _ Ld _)=>decide (Ld=te)
   |_=>false)) then some l else vr ins te used r
 |_::r=>vr ins te used r
def ym (ins:List (Bool×CK)) (tks:List (Nat×Loc)) (d:Nat):(k:Nat)->(used:List Nat)->List CK->List Nat
 |_,_,[]=> []
 |k,used,c::r=>match (match c with
   | .row _ te=>vr ins te used tks
   | .Dt _ te=>vr ins te used tks
   | .Al _ te _=>vr ins te used tks
   |_=>none) with
  |some l=>l::ym ins tks d (k+1) (l::used) r
  |none=>IM d k::ym ins tks d (k+1) used r
def gr (s:MSpec) (tks:List (Nat×Loc)) (d:Nat):List Nat:=ym s.ins tks d 0 [] s.outs
def Bx (ks:List Nat) (j:Nat):Nat:=match ks[j]? with
 |some l=>l
 |none=>Ak+j
def rZ (ks:List Nat) (n:Nat):Bool:=Nat.beq ks.length n&&(Sz ks&&ks.all λl=>Nat.blt l Ak)
def zM (st:St) (l:List Nat):Bool:=l.all λk=>match st.at k with|some (.arr fr _ _ _ _)=>fr|_=>false
def AQ (st:St) (s:MSpec) (args:List AV):Option (List Nat×List AC×List AV):=
 match s.ptr with
 |none=>some ([],[],args)
 |some p=>match args with
  | .at (.Dw l i)::rest=>match st.at l with
   |some (.var tid vs)=>if tid=p.1/\vs.length=p.2/\i=0 then some ([l],vs,rest) else none
   |_=>none
  |_=>none
def Pb:List (Bool×CK)->List AC->Bool
 |(true, .row _ _)::r, .own _ _ _::as=>Pb r as
 |(true, .Dt _ _)::r, .own _ _ _::as=>Pb r as
 |(true,_)::_,_::_=>false
 |(false,_)::r,_::as=>Pb r as
 |_,as=>as.isEmpty
def bk {α:Type} :List (Bool×CK)->List α->List α->List α
 |(true,_)::r,v::vs,as=>v::bk r vs as
 |(false,_)::r,_::vs,a::as=>a::bk r vs as
 |_,vs,_=>vs
def nu:List (Bool×CK)->Nat->Nat
 |(true,_)::r,n+1=>nu r n
 |(false,_)::r,n+1=>nu r n+1
 |_,_=>0
def MSpec.Th (s:MSpec):Nat:=match s.ptr with|none=>0|some p=>nu s.ins p.2
def l9 (ins:List (Bool×CK)) (as:List AC) (pl:List Nat) (st:St):St:=
 match pl with
 | []=>st
 |l::_=>match st.at l with
  |some (.var tid vs)=>st.Gb l (.var tid (bk ins vs as))
  |_=>st
def Mv (d:Nat):Nat:=IM d 999
def fS (s:MSpec) (d:Nat):List Nat:=match s.rp with|none=> []|some _=> [Mv d]
def Lu (s:MSpec) (tks:List (Nat×Loc)) (d:Nat):List Nat:=gr s tks d++fS s d
def gS (H:List (Nat×OB)) (l:Nat):Bool:=match Ae H l with
 |some (.Al _ _ _ _ _)=>true
 |_=>false
def Vh (H:List (Nat×OB)) (ks:List Nat) (tks:List (Nat×Loc)):List (Nat×Nat)->List Nat
 | []=> []
 |(k,j)::r=>match tks.find? (λt=>Nat.beq t.1 (Bv false k)),ks[j]? with
  |some (_, .row l),some l'=>if Nat.beq l' l&&gS H l then l::Vh H ks tks r else Vh H ks tks r
  |_,_=>Vh H ks tks r
def lA (H:List (Nat×OB)) (l:Nat):Nat:=match Ae H l with
 |some (.Al _ _ rows _ _)=>rows.length
 |_=>0
def Xr (H:List (Nat×OB)) (ls:List Nat) (n:Nat):List AV->Bool
 | []=>true
 | .at (.sub l i _)::r=>(!ls.contains l||(Nat.blt i n&&Nat.blt i (lA H l)))&&Xr H ls n r
 |_::r=>Xr H ls n r
def Gx (ls:List Nat):List AV->List AV->List AV
 | .at (.sub l i c)::r,v::vs=>(if ls.contains l then .at (.sub l i c) else v)::Gx ls r vs
 |_::r,v::vs=>v::Gx ls r vs
 |_,vs=>vs
def TJ:Option OB->Option (Nat×Nat)
 |some (.Al _ _ _ _ kp)=>kp
 |_=>none
def OB.wq (b:OB) (kp:Option (Nat×Nat)):OB:=match b with
 | .Al e te rows out _=> .Al e te rows out kp
 |b=>b
def Xg (H0:List (Nat×OB)) (ls:List Nat) (n:Nat):List (Nat×OB)->List (Nat×OB)
 | []=> []
 |(l,b)::r=>(l,if ls.contains l then b.wq (Vi n (TJ (Ae H0 l))) else b)::Xg H0 ls n r
def fI (bp st:St) (ls:List Nat) (n:Nat):St:=match ls with
 | []=>st
 |_=> {tmps:=Gx ls bp.tmps st.tmps,heap:=Xg bp.heap ls n st.heap}
def NW (s:MSpec) (d:Nat) (as:List AC):Option AV:=match s.rp with
 |none=>Aa0 s.Ef s.Gd as
 |some _=>some (.at (.Dw (Mv d) 0))
def fe (st st1:St) (d:Nat) (s:MSpec) (pl:List Nat) (tks:List (Nat×Loc)) (r:CKs.den s.outs):St:=
 let ks:=Lu s tks d
 let key:=Bx ks
 let st2:=l9 s.ins (Vn key 0 s.outs r) pl (st1.Wh (gy tks++ks++(if s.flat then [] else tz tks)) (whole tks))
 {st2 with heap:=Qy (zM st (gy tks)) key 0 s.outs r (uZ st2.heap (Mv d) (s.rp.map λtid=> .var tid ((Vn key 0 s.outs r).drop s.Th)))}
def Qk (st:St) (dst:Option Nat) (s:MSpec) (args:List AV):Option (AV×St):=
 match AQ st s args with
 |none=>none
 |some (pl,vs,rest)=>match ungroup s.Hb rest with
 |none=>none
 |some iL=>match aP st 0 s.ins (vs++iL) with
  |none=>none
  |some (x,tks)=>if Sz (tks.map λt=>t.2.Py)&&rZ (Lu s tks (dst.getD 0)) (s.outs.length+(fS s (dst.getD 0)).length)&&Nat.blt s.outs.length 1000&&Nat.blt s.ins.length 1000&&(Pb s.ins vs&&pl.all λl=>!((tks.map λt=>t.2.Py)++Lu s tks (dst.getD 0)).contains l) then match s.fn x with
   |none=>none
   |some (r,o)=>match Ec s.ins o (vs++iL) st with
    |none=>none
    |some st1=>match NW s (dst.getD 0) ((Vn (Bx (Lu s tks (dst.getD 0))) 0 s.outs r).drop s.Th) with
     |none=>none
     |some v=>if Xr (fe st st1 (dst.getD 0) s pl tks r).heap (Vh st.heap (Lu s tks (dst.getD 0)) tks s.keeps) (s.Cw x) st.tmps=true then
       some (v,fI st (fe st st1 (dst.getD 0) s pl tks r) (Vh st.heap (Lu s tks (dst.getD 0)) tks s.keeps) (s.Cw x)) else none
   else none
def Jl:List Operand->St->Option St
 | [],st=>some st
 |x::r,st=>match settle st (st.ev x) with
  |some (_,st')=>Jl r st'
  |none=>none
def ak (s:Spec) (args:List AV):Bool:=!(s.fresh||s.res.flat||args.all (·.settled))
def evalOp (Γ:Env) (st:St) (o:Oper):Option (AV×St):=
 match o.op with
 | .assign x=>match st.ev x,o.dst,(T.elem o.type).bind λte=>(T.ty te).map λe=>(te,e) with
  | .at .Hp,some d,some (te,e)=>if d<Ak then some (.at (.own d 0 0),st.new d (.arr (T.oa||e.flat) T.tQ e te [])) else none
  |v,_,_=>some (v,st)
 | .alloc t=>match o.dst,T.ty t with
  |some d,some τ=>mkVar T st d t τ (zeroCells τ)
  |_,_=>none
 | .box t x=>match o.dst,T.ty t with
  |some d,some τ=>match cellsOf τ (st.ev x) with
   |some cs=>mkVar T st d t τ cs
   |none=>none
  |_,_=>none
 | .store t p x=>(Jw T st t (st.ev p) (st.ev x)).map λs=>(.undef,s)
 | .makeSlice t l c=>match o.dst with
  |some d=>Qm T st d t (st.ev l) (st.ev c)
  |none=>none
 | .makeMap t none=>match o.dst with
  |some d=>Nx T st d t
  |none=>none
 | .mapUpdate t m k x=>(Eu T st t (st.ev m) (st.ev k) (st.ev x)).map λs=>(.undef,s)
 | .insert t m k x=>(Eu T st t (st.ev m) (st.ev k) (st.ev x)).map λs=>(.undef,s)
 | .buildSlice t len parts=>match o.dst with
  |some d=>Er T st d t len parts
  |none=>none
 | .build t parts=>(Qj T st t parts).map λv=>(v,st)
 | .call {callee:= .builtin .append,args,argTypes} =>match o.dst,args.toList,argTypes.toList with
  |some d,[x,y],[t,t']=>if t=t' then Lh T st d t x y else none
  |_,_,_=>none
 | .call {callee:= .builtin .copy,args,argTypes} =>match args.toList,argTypes.toList with
  | [x,y],[t,t']=>bZ T st t t' (st.ev x) (st.ev y)
  |_,_=>none
 | .call {callee:= .builtin .clear,args,argTypes} =>match args.toList,argTypes.toList with
  | [x],[t]=>(evalClear T st t (st.ev x)).map λs=>(.undef,s)
  |_,_=>none
 | .call {callee:= .value (.func f),args, .. } =>match Γ f with
  |some (.m s)=>Qk st o.dst s (args.toList.map st.ev)
  |some (.q s)=>if ak s (args.toList.map st.ev) then (match Jl args.toList st with
   |some st1=>(Ck T Γ st1 o).map λv=>(v,st1)
   |none=>none) else (Ck T Γ st o).map λv=>(v,st)
  |_=>(Ck T Γ st o).map λv=>(v,st)
 |_=>(Ck T Γ st o).map λv=>(v,st)
def ao (e:Ty):Nat->List (Nat×Operand)->St->Option (Bool×List e.den)
 |_,[],_=>some (true,[])
 |i,(j,x)::r,st=>
  if i=j/\(st.ev x).settled=true then match Cv st e (st.ev x),ao e (i+1) r st with
   |some (fr,y),some (Ov,ys)=>some (fr&&Ov,y::ys)
   |_,_=>none
  else none
def Uw (st:St) (t:TypeId) (len:Nat) (parts:Array (Nat×Operand)):Option AV:=
 match T.elem t with
 |none=>none
 |some te=>match T.ty te with
  |none=>none
  |some e=>if parts.size=len/\len<=64/\e.size<=64 then (ao e 0 parts.toList st).map λp=> .at (.data p.1 (.slice e) p.2) else none
def Ry (Γ:Env) (st:St) (o:Oper):Option AV:=
 match o.op with
 | .buildSlice t len parts=>Uw T st t len parts
 | .build t parts=>Qj T st t parts
 |_=>Ck T Γ st o
def IF (q:Bool) (Γ:Env) (o:Oper):Bool:=
 match o.op with
 | .buildSlice _ _ _| .build _ _=>!q
 | .alloc _| .box _ _| .store _ _ _| .makeSlice _ _ _| .makeMap _ _| .mapUpdate _ _ _ _| .insert _ _ _ _=>true
 | .assign (.const _)=>true
 | .call {callee:= .builtin .append, .. } =>true
 | .call {callee:= .builtin .copy, .. } =>true
 | .call {callee:= .builtin .clear, .. } =>true
 | .call {callee:= .value (.func f), .. } =>match Γ f with
  |some (.m _)=>true
  |_=>false
 |_=>false
def Cl (Γ:Env) (ops:Array Oper) (st:St) (o:Oper):Option St:=
 match o.guard with
 |none=>(evalOp T Γ st o).map λr=>r.2.put o.dst r.1
 |some (j,want)=>match Qf st ((ops[j]?).bind (·.dst)) with
  |some (some b)=>if b==want then (evalOp T Γ st o).map λr=>r.2.put o.dst r.1 else some (st.put o.dst (.at .skip))
  |some none=>some (st.put o.dst (.at .skip))
  |none=>none
def Tq (Γ:Env) (ops:Array Oper):List Oper->St->Option St
 | [],st=>some st
 |o::r,st=>match Cl T Γ ops st o with
  |some st'=>Tq Γ ops r st'
  |none=>none
def Fe (q:Bool) (Γ:Env) (ops:Array Oper):List Nat:=
 (List.range ops.size).foldl (init:= []) λacc i=>match ops[i]? with
  |some o=>if IF q Γ o||o.after.any (λe=>Region.binds .any e&&acc.contains e.on) then acc++ [i] else acc
  |none=>acc
def Wj (q:Bool) (Γ:Env) (ops:Array Oper):List Nat:=(List.range ops.size).filter λi=>!(Fe q Γ ops).contains i
def gR (ops:Array Oper) (hd tl:List Nat) (i:Nat):Bool:=
 match ops[i]? with
 |some o=>(match o.op,o.guard with
  | .move (.tmp _),none=>true
  |_,_=>false)&&!((tl.take 1++hd).any λj=>decide (i<j)&&Region.waitsFor .any ops j i)
 |none=>false
def Ou (q:Bool) (Γ:Env) (ops:Array Oper):List Nat:=(Wj q Γ ops).filter λi=>gR ops (Wj q Γ ops) (Fe q Γ ops) i
def Ox (q:Bool) (Γ:Env) (ops:Array Oper):List Nat:=(Wj q Γ ops).filter λi=>!gR ops (Wj q Γ ops) (Fe q Γ ops) i
def dx (q:Bool) (Γ:Env) (ops:Array Oper):List Nat:=Ou q Γ ops++Ox q Γ ops
def iv (ops:Array Oper):List Nat->Array Bool->Bool
 | [],Ab=>(Region.ready .any ops Ab).isEmpty
 |k::r,Ab=>decide (Region.ready .any ops Ab= [k])&&iv ops r (Ab.setIfInBounds k true)
def jb (ops:Array Oper) (tl:List Nat):List Nat->Array Bool->Bool
 | [],Ab=>iv ops tl Ab
 |k::r,Ab=>(Region.ready .any ops Ab).contains k&&Region.free .any ops Ab k&&jb ops tl r (Ab.setIfInBounds k true)
def fU (ops:Array Oper) (hd:List Nat):List Nat->Bool
 | []=>true
 |f::r=>(hd.all λi=>(f::hd).any λj=>decide (i<j)&&Region.waitsFor .any ops j i)&&chain f r
where chain:Nat->List Nat->Bool
 |_,[]=>true
 |k,t::r=>Region.waitsFor .any ops t k&&chain t r
def gJ (ops:Array Oper) (tl hd:List Nat):List Nat->Array Bool->Bool
 | [],Ab=>jb ops tl hd Ab
 |k::r,Ab=>(Region.ready .any ops Ab).contains k&&Region.free .any ops Ab k&&gJ ops tl hd r (Ab.setIfInBounds k true)
def dE (q:Bool) (Γ:Env) (ops:Array Oper):Bool:=
 Region.noSelect ops&&((Ou q Γ ops).length+((Ox q Γ ops).length+(Fe q Γ ops).length)==ops.size)&&gJ ops (Fe q Γ ops) (Ox q Γ ops) (Ou q Γ ops) (Array.replicate ops.size false)&&fU ops (Ox q Γ ops) (Fe q Γ ops)
def bB (Γ:Env) (ops:Array Oper) (st:St) (o:Oper):Option AV:=
 match o.guard with
 |none=>Ry T Γ st o
 |some (j,want)=>match Qf st ((ops[j]?).bind (·.dst)) with
  |some (some b)=>if b==want then Ry T Γ st o else some (.at .skip)
  |some none=>some (.at .skip)
  |none=>none
def Ea (Γ:Env) (ops:Array Oper):List Nat->St->Option St
 | [],st=>some st
 |i::r,st=>match ops[i]? with
  |none=>none
  |some o=>match bB T Γ ops st o with
   |some v=>Ea Γ ops r (st.put o.dst v)
   |none=>none
def Jc (Γ:Env) (ops:Array Oper):List Nat->St->Option St
 | [],st=>some st
 |i::r,st=>match ops[i]? with
  |none=>none
  |some o=>match Cl T Γ ops st o with
   |some st'=>Jc Γ ops r st'
   |none=>none
def Li (Γ:Env) (ops:Array Oper) (draw:Bool) (st:St):Option St:=
 if draw then (if dE false Γ ops then (match Ea T Γ ops (dx false Γ ops) st with
  |some st'=>Jc T Γ ops (Fe false Γ ops) st'
  |none=>none) else if dE true Γ ops then (match Ea T Γ ops (dx true Γ ops) st with
  |some st'=>Jc T Γ ops (Fe true Γ ops) st'
  |none=>none) else none)
 else Tq T Γ ops ops.toList st
def rU (ops:Array Oper) (i:Nat):Bool:=match ops[i]? with
 |some o=>(match o.op,o.guard with
  | .move (.tmp _),none=>true
  |_,_=>false)
 |none=>false
def dC (ops:Array Oper) (i:Nat):Bool:=match ops[i]? with
 |some o=>(match o.op,o.guard with
  | .move (.tmp _),none=>true
  | .nilCheck _,none=>true
  | .fieldAddr _ _ _,none=>true
  |_,_=>false)
 |none=>false
def Aa6 (q:Bool) (ops:Array Oper) (i:Nat):Bool:=match q with
 |true=>dC ops i
 |false=>rU ops i
def Fb (q:Bool) (ops:Array Oper):List Nat->Array Bool->List Nat
 | [],_=> []
 |i::r,Ab=>if Aa6 q ops i&&((Region.ready .any ops Ab).contains i&&Region.free .any ops Ab i) then i::Fb q ops r (Ab.setIfInBounds i true) else Fb q ops r Ab
def IL (q:Bool) (ops:Array Oper):List Nat:=Fb q ops (List.range ops.size) (Array.replicate ops.size false)
def du (q:Bool) (ops:Array Oper):Bool:=Nat.ble (ops.size-(IL q ops).length) 8
def Jz (ops:Array Oper):List Nat:=IL (!du false ops) ops
def Eg:List Nat->Array Bool->Array Bool
 | [],Ab=>Ab
 |i::r,Ab=>Eg r (Ab.setIfInBounds i true)
def anyS (Γ:Env) (ops:Array Oper) (K:St->Prop):Nat->Array Bool->St->Prop
 |0,Ab,st=>Region.ready .any ops Ab= []/\K st
 |f+1,Ab,st=>Region.ready .any ops Ab≠ []/\ ∀i∈Region.ready .any ops Ab,∃o st',ops[i]?=some o/\Cl T Γ ops st o=some st'/\anyS Γ ops K f (Ab.setIfInBounds i true) st'
def qX (Γ:Env) (ops:Array Oper) (draw:Bool) (st:St) (K:St->Prop):Prop:=
 (∃st',Li T Γ ops draw st=some st'/\K st')\/
 (draw=true/\Region.noSelect ops=true/\ ∃bp,Ea T Γ ops (Jz ops) st=some bp/\anyS T Γ ops K (ops.size-(Jz ops).length) (Eg (Jz ops) (Array.replicate ops.size false)) bp)
def sE (Γ:Env) (draw:Bool):Env:= λf=>match Γ f with
 |some (.b s m)=>some (if draw then .q s else .m m)
 |r=>r
inductive Gw where
 |normal
 |exit (id:Nat)
 |ret
def Fw (live:List Nat):Nat->List AV->List AV
 |_,[]=> []
 |i,v::r=>(if live.contains i then v else .undef)::Fw live (i+1) r
def AV.refs:AV->List Nat
 | .at a=>a.refs
 | .agg cs=>cs.flatMap AC.refs
 | .Uo _ _ _=> []
 | .Ix l=>l.flatMap λp=>p.2.flatMap AC.refs
def OB.refs:OB->List Nat
 | .var _ vs=>vs.flatMap AC.refs
 |_=> []
def Ye:List Nat->St->St
 | [],st=>st
 |l::r,st=>Ye r (st.forget l)
def jx (l k m:Nat):Nat:=if m=l then k else m
def Oe (l k:Nat):AC->AC
 | .own m off len=> .own (jx l k m) off len
 | .Dw m i=> .Dw (jx l k m) i
 | .Fy m i=> .Fy (jx l k m) i
 | .clo f Bz=> .clo f (Bz.map λp=>(jx l k p.1,p.2))
 | .Gi m=> .Gi (jx l k m)
 | .sub m i c=> .sub (jx l k m) i c
 | .Fv m i c=> .Fv (jx l k m) i c
 |a=>a
def St.rename (l k:Nat) (st:St):St:=
 match Ae st.heap k,Ae st.heap l with
 |none,some b=>if (Nat.blt l Ak&&Nat.blt k Ak)=true then
   (let s:=st.Gh (Oe l k); {s with heap:=Jb (Tf s.heap l) k (b.map (Oe l k))}) else st
 |_,_=>st
def Hq:Nat->Nat->St->St
 |0,_,st=>st
 |n+1,t,st=>Hq n (t+1) (match st.get t with
  | .at (.own l _ _)=>match Ae st.heap l with
   |some (.arr _ _ _ _ _)=>if (st.tmps.take t).any (λv=>v.refs.contains l) then st else st.rename l (700000+t)
   |_=>st
  |_=>st)
def Wq:Nat:=1000000007
def OB.Ev (flat all:Bool):OB->OB
 | .arr fr tr e tid xs=> .arr (fr&&!(all||(flat&&e.flat))) (tr&&!all) e tid xs
 |b=>b
def Sr:Nat:=1000000009
def x5:Nat:=1100000000
def St.Ev (live:List Nat) (st:St):St:= {st with heap:=st.heap.map λp=>(p.1,p.2.Ev (live.contains Sr) (live.contains (x5+p.1)))}
def Lo:Nat:=900000000
def Vo (t:Nat) (st:St):St:=match st.get t with
 | .at (.own l off len)=>match Ae st.heap l with
  |some (.arr fr tr e tid xs)=>if Nat.blt l Ak=true then (st.new l (.arr fr tr e tid ((xs.drop off).take len))).put (some t) (.at (.own l 0 ((xs.drop off).take len).length)) else st
  |_=>st
 |_=>st
def Jk (live:List Nat):Nat->Nat->St->St
 |0,_,st=>st
 |n+1,t,st=>Jk live n (t+1) (if live.contains (Lo+t) then Vo t st else st)
def St.clean (live:List Nat) (st:St):St:=
 let s:St:= {st with tmps:=Fw live 0 st.tmps}
 let r1:=s.tmps.flatMap AV.refs
 let r2:=r1++(s.heap.filter λp=>r1.contains p.1).flatMap λp=>p.2.refs
 let s2:=Ye ((s.heap.map (·.1)).filter λl=>!r2.contains l&&Nat.blt l Ak) s
 let s2:=if live.any (λt=>Nat.ble Lo t&&Nat.blt t Wq) then Jk live s2.tmps.length 0 s2 else s2
 let s3:=if live.contains Wq then Hq s2.tmps.length 0 s2 else s2
 if live.any (λt=>Nat.ble Sr t) then s3.Ev live else s3
def Ch:Code->Nat
 | .region id _ _=>id
 | .seq a _=>Ch a
 | .cond _ a _=>Ch a
 | .block _ c=>Ch c
 | .loop c=>1000+Ch c
 |_=>0
def RE (a b:List Nat):List Nat:=a++b.filter λt=>!a.contains t
def s9:List Oper->List Nat->List Nat
 | [],out=>out
 |o::r,out=>RE (o.op.operands.toList.filterMap λ | .tmp t=>some t|_=>none) (match o.dst with|some d=>(s9 r out).filter (·!=d)|none=>s9 r out)
def xJ:List (Nat×List Nat)->Nat->List Nat
 | [],_=> []
 |(k,l)::r,id=>if k=id then l else xJ r id
def kx:Code->List (Nat×List Nat)->List Nat->List Nat->List Nat×List (Nat×List Nat)
 | .region _ ops _,_,_,out=>(s9 ops.toList out,[])
 | .seq a b,env,ret,out=>let rb:=kx b env ret out;let ra:=kx a env ret rb.1;(ra.1,ra.2++rb.2)
 | .cond c a b,env,ret,out=>let ra:=kx a env ret out;let rb:=kx b env ret out
  (RE (match c with| .tmp t=> [t]|_=> []) (RE ra.1 rb.1),ra.2++rb.2)
 | .block id c,env,ret,out=>kx c ((id,out)::env) ret out
 | .exit id,env,_,_=>(xJ env id,[])
 | .ret,_,ret,_=>(ret,[])
 | .loop c,env,ret,_=>let l:=(kx c env ret []).1;let r:=kx c env ret l;(l,(Ch c,l)::r.2)
 |_,_,_,out=>(out,[])
def sa:List ResultVar->List Nat
 | []=> []
 | .tmp t::r=>t::sa r
 | .cell p _::r=>p::sa r
def s8 (marks:List Nat) (fn:Func) (c:Code):Nat->List Nat:=let ret:=sa fn.results.toList;let g:=xJ (kx c [] ret ret).2;match marks with
 | []=>g
 |m=> λid=>g id++m
def yB (K:St->Prop) (Q:Gw->St->Prop):Gw->St->Prop
 | .normal,s=>K s
 |e,s=>Q e s
def pZ (id:Nat) (Q:Gw->St->Prop):Gw->St->Prop
 | .exit CH,s=>if CH=id then Q .normal s else Q (.exit CH) s
 |e,s=>Q e s
inductive Ja (Γ:Env) (live:Nat->List Nat):Code->St->(Gw->St->Prop)->Prop where
 |skip {st:St} {Q:Gw->St->Prop} :Q .normal st->Ja Γ live .skip st Q
 |label {l:Nat} {st:St} {Q:Gw->St->Prop} :Q .normal st->Ja Γ live (.label l) st Q
 |exit {id:Nat} {st:St} {Q:Gw->St->Prop} :Q (.exit id) st->Ja Γ live (.exit id) st Q
 |ret {st:St} {Q:Gw->St->Prop} :Q .ret st->Ja Γ live .ret st Q
 |region {id:Nat} {ops:Array Oper} {draw:Bool} {st:St} {Q:Gw->St->Prop} :qX T (sE Γ draw) ops draw st (Q .normal)->Ja Γ live (.region id ops draw) st Q
 |seq {x y:Code} {st:St} {Q:Gw->St->Prop} (Q1:Gw->St->Prop):Ja Γ live x st Q1->(∀s,Q1 .normal s->Ja Γ live y s Q)->(∀e s,e≠ .normal->Q1 e s->Q e s)->Ja Γ live (.seq x y) st Q
 |cond {c:Operand} {x y:Code} {st:St} {fr t:Bool} {Q:Gw->St->Prop} :st.ev c= .at (.data fr .bool t)->(t=true->Ja Γ live x st Q)->(t=false->Ja Γ live y st Q)->Ja Γ live (.cond c x y) st Q
 |block {id:Nat} {c:Code} {st:St} {Q:Gw->St->Prop} (Q1:Gw->St->Prop):Ja Γ live c st Q1->(∀e s,Q1 e s->pZ id Q e s)->Ja Γ live (.block id c) st Q
 |loop {c:Code} {st:St} {Q:Gw->St->Prop} (Q1:Gw->St->Prop):Ja Γ live c (st.clean (live (Ch c))) Q1->(∀s,Q1 .normal s->Ja Γ live (.loop c) s Q)->(∀e s,e≠ .normal->Q1 e s->Q e s)->Ja Γ live (.loop c) st Q
def Xl (st:St):List ResultVar->Option (List AV)
 | []=>some []
 | .tmp t::r=>(Xl st r).map λl=>st.get t::l
 | .cell p t::r=>match Kg T st t (st.get p),Xl st r with
  |some v,some l=>some (v::l)
  |_,_=>none
def gG (s:Spec) (fn:Func) (st:St):Option (Bool×s.res.den):=
 match Xl T st fn.results.toList with
 |some [v]=>if s.Ef then none else Cv st s.res v
 |some [v,u]=>if s.Ef then Bu st s.res [v,u] else none
 |some [v,u,t]=>if s.Ef then Bu st s.res [v,u,t] else none
 |_=>none
def Mi:(τ:Ty)->τ.den->List AV
 | .pair a r,x=> .at (.data a.flat a x.1)::Mi r x.2
 |_,_=> []
def dT (st:St):(c:CK)->AC->Option (c.den×List Nat)
 | .Ee τ,a=>if τ.flat||a.settled then (Bp st τ a).map λp=>(p.2,[]) else none
 | .row e te, .own l off len=>match st.at l with
  |some (.arr _ _ e' Ld xs)=>if h:e'=e/\Ld=te then some ((((h.1▸xs:List e.den).drop off).take len),[l]) else none
  |_=>none
 | .row _ _, .Hp=>some ([],[])
 | .Dt e te, .own l off len=>match st.at l with
  |some (.arr _ tr e' Ld xs)=>if h:e'=e/\Ld=te/\(tr||e.flat)=true then some ((((h.1▸xs:List e.den).drop off).take len),[l]) else none
  |some (.Dg e' Ld xs)=>if h:e'=e/\Ld=te then some ((((h.1▸xs:List e.den).drop off).take len),[l]) else none
  |_=>none
 | .Dt _ _, .Hp=>some ([],[])
 | .Al e te _, .own l off len=>match st.at l with
  |some (.Al e' Ld rows none _)=>if h:e'=e/\Ld=te/\off=0/\len=rows.length then some ((h.1▸rows:List (List e.den)),[l]) else none
  |_=>none
 |_,_=>none
def Od (st:St):(cs:List CK)->List AC->Option (CKs.den cs×List Nat)
 | [],[]=>some ((),[])
 |c::r,a::as=>match dT st c a,Od st r as with
  |some (x,t1),some (y,t2)=>some ((x,y),t1++t2)
  |_,_=>none
 |_,_=>none
def jZ (st:St) (l:Nat):(c:CK)->Option c.den
 | .Ee _=>none
 | .row e te=>match st.at l with
  |some (.arr _ _ e' Ld xs)=>if h:e'=e/\Ld=te then some (h.1▸xs) else none
  |_=>none
 | .Dt e te=>match st.at l with
  |some (.Dg e' Ld xs)=>if h:e'=e/\Ld=te then some (h.1▸xs) else none
  |_=>none
 | .part _ _=>none
 | .Al _ _ _=>none
def Jf (st:St):(k:Nat)->(cs:List (Bool×CK))->Option (IOs.den cs)
 |_,[]=>some ()
 |k,(true, .Ee _)::r=>Jf st (k+1) r
 |k,(true, .Al _ _ _)::r=>Jf st (k+1) r
 |k,(true, .row e te)::r=>match jZ st (Bv true k) (.row e te),Jf st (k+1) r with
  |some x,some y=>some (x,y)
  |_,_=>none
 |k,(true, .Dt e te)::r=>match jZ st (Bv true k) (.Dt e te),Jf st (k+1) r with
  |some x,some y=>some (x,y)
  |_,_=>none
 |k,(true, .part e te)::r=>match jZ st (Bv true k) (.row e te),Jf st (k+1) r with
  |some x,some y=>some (x,y)
  |_,_=>none
 |k,(false,_)::r=>Jf st (k+1) r
def Jy:(k:Nat)->List (Bool×CK)->List Nat
 |_,[]=> []
 |k,(true, .Ee _)::r=>Jy (k+1) r
 |k,(true, .Al _ _ _)::r=>Jy (k+1) r
 |k,(true,_)::r=>Bv true k::Jy (k+1) r
 |k,(false,_)::r=>Jy (k+1) r
def Lr:Nat:=1900000000
def Ey:(k:Nat)->List (Bool×CK)->List AC->Option (List AC)
 |_,_,[]=>some []
 |k,(true, .row _ _)::r, .own l _ _::as=>if Nat.beq l (Bv true k) then Ey (k+1) r as else none
 |k,(true, .Dt _ _)::r, .own l _ _::as=>if Nat.beq l (Bv true k) then Ey (k+1) r as else none
 |k,(false,_)::r,a::as=>(Ey (k+1) r as).map λl=>a::l
 |_,_,_=>none
def cn (st:St):List AC->List (Bool×CK)->Prop
 | .own l off len::as,(true,_)::r=>(off=0/\match st.at l with
  |some (.arr _ _ _ _ xs)=>len=xs.length
  |some (.Dg _ _ xs)=>len=xs.length
  |_=>False)/\cn st as r
 |_::as,(false,_)::r=>cn st as r
 |_,_=>True
def yT (s:MSpec) (st:St) (l:List AV):Option (List AC×List Nat):=match s.rp with
 |none=>if s.Ef=Nat.blt 1 l.length then (ungroup s.Gd l).map λas=>(as,[]) else none
 |some tid=>match l with
  | [.at (.Dw m i)]=>match st.at m with
   |some (.var Nv vs)=>if Nv=tid/\i=0/\Nat.blt m Ak=true then some (vs,[m]) else none
   |_=>none
  |_=>none
def q9 (st:St) (n:Nat) (as:List AC):List (Nat×Nat)->Prop
 | []=>True
 |(k,j)::r=>(match as[j]? with
  |some (.own l _ _)=>match st.at l with
   |some (.Al _ _ _ _ (some p))=>p.1=Bv false k/\n<=p.2/\Nat.blt k 1000=true
   |_=>False
  |_=>False)/\q9 st n as r
def dG (s:MSpec) (fn:Func) (x:Ins.den s.ins) (st:St) (cs:List AC) (P:CKs.den s.outs×IOs.den s.ins->Prop):Prop:=
 match Xl T st fn.results.toList with
 |none=>False
 |some l=>match yT s st l with
  |none=>False
  |some (as,ml)=>match Od st s.outs (cs++as),Jf st 0 s.ins with
   |some (r,ls),some o=>(Sz (ml++ls++Jy 0 s.ins)&&Nat.blt s.ins.length 1000&&Nat.blt s.outs.length 1000&&s.IK)=true/\q9 st (s.Cw x) (cs++as) s.keeps/\P (r,o)
   |_,_=>False
def FW (s:MSpec) (fn:Func) (x:Ins.den s.ins) (st:St) (P:CKs.den s.outs×IOs.den s.ins->Prop):Prop:=
 match s.ptr with
 |none=>dG T s fn x st [] P
 |some p=> ∃vs cs,st.at Lr=some (.var p.1 vs)/\vs.length=p.2/\Ey 0 s.ins vs=some cs/\cn st vs s.ins/\dG T s fn x st cs P
def Tg (s:MSpec) (as:List AC):List AV:=match s.ptr with
 |none=>Mm s.Hb as
 |some p=> .at (.Dw Lr 0)::Mm s.Hb (as.drop p.2)
def ko (s:MSpec) (x:Ins.den s.ins):List (Nat×OB):=match s.ptr with
 |none=>Sh 0 s.ins x
 |some p=>Sh 0 s.ins x++ [(Lr, .var p.1 ((Ve 0 s.ins x).take p.2))]
def Sl:List (Bool×CK)->Bool
 | []=>true
 |(true, .Al _ _ _)::_=>false
 |_::r=>Sl r
def sA (s:MSpec):Bool:=Sl s.ins&&match s.ptr with
 |none=>true
 |some p=>Nat.ble p.2 s.ins.length
def OV (Γ:Env) (s:MSpec) (fn:Func) (x:Ins.den s.ins) (P:CKs.den s.outs×IOs.den s.ins->Prop):Prop:=
 (Nat.blt s.ins.length 1000&&sA s)=true/\ ∃c,fn.body=some c/\Ja T Γ (s8 T.marks fn c) c {tmps:=Tg s (Ve 0 s.ins x)++List.replicate (fn.ntmps-(Tg s (Ve 0 s.ins x)).length) .undef,heap:=ko s x}
  (λe st=>(∀id,e≠ .exit id)/\FW T s fn x st P)
def FX (Γ:Env) (s:Spec) (fn:Func) (x:s.arg.den) (P:s.res.den->Prop):Prop:=
 ∃c,fn.body=some c/\Ja T Γ (s8 T.marks fn c) c {tmps:=Mi s.arg x++List.replicate (fn.ntmps-(Mi s.arg x).length) .undef,heap:= []}
  (λe st=>(∀id,e≠ .exit id)/\ ∃fr y,gG T s fn st=some (fr,y)/\(fr||!s.fresh)=true/\P y)
end Go.Proofs.Ytjbdmibbbpdnnaa
