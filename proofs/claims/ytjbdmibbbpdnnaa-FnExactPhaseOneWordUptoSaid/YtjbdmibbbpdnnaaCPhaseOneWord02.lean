/-
  Part 3 of the proof that the statement FnExactPhaseOneWord holds.
-/
import Derived.Test.YtjbdmibbbpdnnaaCPhaseOneWord01
namespace Go.Proofs.Ytjbdmibbbpdnnaa
open Go.RowKit
def Dq:Nat->St->List AC->Option (List AC×St)
 |0,st,cs=>if cs.all (·.settled) then some (cs,st) else none
 |n+1,st,cs=>
  match cs.find? (λc=>!c.settled) with
  |none=>some (cs,st)
  |some (.own l _ _)=>match st.at l with
   |some (.arr fr _ e _ xs)=>Dq n (st.freeze l fr e xs) (cs.map (Bb l fr e xs))
   |some (.Dg e _ xs)=>Dq n (st.freeze l false e xs) (cs.map (Bb l false e xs))
   |_=>none
  |some (.Gi l)=>match st.at l with
   |some (.Oh v m)=>Dq n (st.Ek l v m) (cs.map (Dj l v m))
   |_=>none
  |some _=>none
def settle (st:St):AV->Option (AV×St)
 | .at (.own l off len)=>match st.at l with
  |some (.arr fr _ e _ xs)=>some (.at (.data fr (.slice e) ((xs.drop off).take len)),st.freeze l fr e xs)
  |some (.Dg e _ xs)=>some (.at (.data false (.slice e) ((xs.drop off).take len)),st.freeze l false e xs)
  |_=>none
 | .at (.Gi l)=>match st.at l with
  |some (.Oh v m)=>some (.at (.data false (.smap v) m),st.Ek l v m)
  |_=>none
 | .at a=>if a.settled then some (.at a,st) else none
 | .agg cs=>(Dq cs.length st cs).map λp=>(.agg p.1,p.2)
 | .Uj fr τ x=>some (.Uj fr τ x,st)
 | .Iw _=>none
def AC.refs:AC->List Nat
 | .own l _ _| .Dw l _| .Fz l _| .Gi l| .sub l _ _| .Fw l _ _=> [l]
 | .clo _ Bv=>Bv.map (·.1)
 |_=> []
def Sv:List Nat->Bool
 | []=>true
 |a::r=>!r.contains a&&Sv r
def Ty.tree:Ty->Bool
 | .int _| .bool| .str| .unit=>true
 | .slice e=>e.tree
 | .pair a r=>a.tree&&r.tree
 |_=>false
def Ln (st:St):AC->Bool
 | .data _ τ _=>τ.flat
 | .Hp=>true
 | .own l _ _=>match st.at l with
  |some (.arr _ tr e _ _)=>tr||e.flat
  |some (.Dg _ _ _)=>true
  |_=>false
 |_=>false
def Mp (st:St):AV->Bool
 | .at a=>Ln st a
 | .agg cs=>cs.all (Ln st)&&Sv (cs.flatMap AC.refs)
 |_=>false
def Aj:Nat:=1000000000
variable (T:Tab)
def AD (t:TypeId) (τ:Ty) (i:Nat):Option TypeId:=
 if τ.Ac then (List.range 24).findSome? λf=>match T.off t f with
  |some (o,u)=>if o=i then some u else none
  |none=>none
 else some t
def Tab.AP (te:TypeId):Option Ty:=if T.QS.contains te then (match T.ty te with
 |some (.slice e)=>some e
 |_=>none) else none
def Xt (te:TypeId) (e:Ty):OB:=match T.AP te with
 |some e'=> .Ak e' te [] none none
 |none=> .arr (T.my||e.flat) T.tV e te []
def No (b:OB) (key l i:Nat) (st:St):St:=
 match st.at l with
 |some (.var _ vs)=>match vs[i]? with
  |some .Hp=>
   let s1:=st.new key b
   match s1.at l with
   |some (.var tid ur)=>s1.Gb l (.var tid (Nq ur i (.own key 0 0)))
   |_=>s1
  |_=>st
 |_=>st
def ah (l:Nat) (t:TypeId) (τ:Ty):Nat->Nat->St->St
 |0,_,st=>st
 |n+1,i,st=>
  ah l t τ n (i+1) (match ((AD T t τ i).bind T.elem).bind λte=>(T.ty te).map λe=>(te,e) with
   |some (te,e)=>No (Xt T te e) (100000+l*100+i) l i st
   |none=>st)
def Yp (l off:Nat) (t:TypeId) (τ:Ty):Nat->Nat->St->St
 |0,_,st=>st
 |n+1,i,st=>
  Yp l off t τ n (i+1) (match ((AD T t τ i).bind T.elem).bind λte=>(T.ty te).map λe=>(te,e) with
   |some (te,e)=>No (Xt T te e) (100000+l*100+(off+i)) l (off+i) st
   |none=>st)
def zeroCells:(τ:Ty)->List AC
 | .unit=> []
 | .pair a r=>zeroCells a++zeroCells r
 | .slice _=> [.Hp]
 | .oslice _=> [.Hp]
 | .ptr _=> [.Qs]
 | .optr _=> [.Qs]
 | .clo _ _=> [.undef]
 |τ=> [.data true τ τ.zero]
def cellsOf (τ:Ty):AV->Option (List AC)
 | .agg cs=>if τ.Ac&&cs.length==τ.size then some cs else none
 | .at (.data fr Iy x)=>if Iy=τ then some (Rk fr Iy x) else none
 | .at .undef=>none
 | .at .skip=>none
 | .at a=>if τ.Ac then none else some [a]
 |_=>none
def mkVar (st:St) (l:Nat) (t:TypeId) (τ:Ty) (cs:List AC):Option (AV×St):=
 if Aj<=100000+l*100+cs.length then none else
 let s:=ah T l t τ cs.length 0 (st.new l (.var t (cs.map (Ba l))))
 match s.at l with
 |some (.var _ _)=>some (.at (.Dw l 0),s)
 |_=>none
def Bi {α:Type} (xs:List α) (i:Nat) (ys:List α):List α:=xs.take i++ys++xs.drop (i+ys.length)
def Nu (st:St) (t:TypeId) (p v:AV):Option St:=
 match T.ty t,p with
 |some τ, .at (.Dw l i)=>match st.at l,cellsOf τ v with
  |some (.var tid vs),some cs=>if i+cs.length<=vs.length then some (if τ.Ac&&Nat.blt (100000+l*100+(i+cs.length)) Aj then Yp T l i t τ cs.length 0 (st.Gb l (.var tid (Bi vs i cs))) else st.Gb l (.var tid (Bi vs i cs))) else none
  |_,_=>none
 |some τ, .at (.Fz l j)=>match settle st v with
  |some (v',st')=>match st'.at l,Cq st' τ v' with
   |some (.arr fr tr e tid xs),some (On,x)=>if h:τ=e then (if j<xs.length then some (st'.Gb l (.arr (fr&&On) (tr&&(Mp st v&&e.tree)) e tid (xs.set j (h▸x)))) else none) else none
   |_,_=>none
  |none=>none
 |_,_=>none
def Bj:Nat:=4294967296
def Ir (st:St) (dst:Nat) (t:TypeId) (x y:Operand):Option (AV×St):=
 match T.elem t with
 |none=>none
 |some te=>match T.ty te,settle st (st.ev y) with
  |some e,some (y',st')=>match Cq st' (.slice e) y' with
   |none=>none
   |some (lD,ys)=>
    let tr2:=e.flat||(Mp st (st.ev y)&&e.tree)
    match st'.ev x with
    | .at .Hp=>if ys.length<=Bj/\dst<Aj then some (.at (.own dst 0 (0+ys.length)),(st'.new dst (.arr (T.my||e.flat) T.tV e te [])).new dst (.arr ((T.my||e.flat)&&(lD||e.flat)) (T.tV&&tr2) e te (((([]:List e.den).drop 0).take 0)++ys))) else none
    | .at (.own l off len)=>match st'.at l with
     |some (.arr fr tr e' tid xs)=>if h:e'=e/\tid=te then
       (if len+ys.length<=Bj/\l<Aj then
        some (.at (.own l 0 (len+ys.length)),st'.new l (.arr (fr&&(lD||e.flat)) (tr&&tr2) e te ((((h.1▸xs:List e.den).drop off).take len)++ys))) else none)
      else none
     |_=>none
    |_=>none
  |_,_=>none
def Kf (st:St) (l i m:Nat) (e:Ty) (te tid:TypeId) (rows:List (List e.den)) (kp:Option (Nat×Nat)):St:=
 (st.Gb l (.Ak e te rows (some i) kp)).new m (.arr false false e tid (rows.getD i []))
def Lf (st:St) (dst:Nat) (t:TypeId) (x y:Operand):Option (AV×St):=
 match x with
 | .tmp tx=>match st.get tx with
  | .at (.sub l i _)=>match st.at l,T.elem t with
   |some (.Ak e te rows none kp),some tid=>if (Nat.blt l Aj&&(Nat.blt dst Aj&&!Nat.beq dst l))=true then Ir T ((Kf st l i dst e te tid rows kp).put (some tx) (.at (.own dst 0 (rows.getD i []).length))) dst t x y else none
   |_,_=>none
  |_=>Ir T st dst t x y
 |_=>Ir T st dst t x y
def gh:Ty->Bool
 | .int _| .bool| .str| .slice _| .oslice _=>true
 |_=>false
def aK:Ty->Bool
 | .unit=>true
 | .pair a r=>aK a&&aK r
 |e=>gh e
def Ur (st:St) (dst:Nat) (t:TypeId) (l c:AV):Option (AV×St):=
 match T.elem t,l,c with
 |some te, .at (.data _ (.int _) n), .at (.data _ (.int _) m)=>match T.ty te with
  |some e=>if SE n (Bj+1)=true/\n=m/\aK e=true/\dst<Aj then some (.at (.own dst 0 n.toNat),st.new dst (.arr (T.my||e.flat) (T.tV&&e.tree) e te (List.replicate n.toNat e.zero))) else none
  |none=>none
 |_,_,_=>none
def Gr (e:Ty):Nat->List (Nat×Operand)->St->Option (Bool×Bool×List e.den×St)
 |_,[],st=>some (true,true,[],st)
 |i,(j,x)::r,st=>
  if i=j then match settle st (st.ev x) with
   |some (v,st')=>match Cq st' e v with
    |some (fr,y)=>match Gr e (i+1) r st' with
     |some (On,LU,ys,Agx)=>some (fr&&On,Mp st (st.ev x)&&e.tree&&LU,y::ys,Agx)
     |none=>none
    |none=>none
   |none=>none
  else none
def Hk (st:St) (dst:Nat) (t:TypeId) (len:Nat) (parts:Array (Nat×Operand)):Option (AV×St):=
 match T.elem t with
 |none=>none
 |some te=>match T.ty te with
  |none=>none
  |some e=>if parts.size=len/\len<=64/\e.size<=64/\dst<Aj then (match Gr e 0 parts.toList st with
   |some (fr,tr,ys,st')=>some (.at (.own dst 0 len),st'.new dst (.arr ((T.my||e.flat)&&fr) (T.tV&&tr) e te ys))
   |none=>none) else none
def Nt (st:St) (dst:Nat) (t:TypeId):Option (AV×St):=
 match T.mapOf t with
 |some v=>if dst<Aj then some (.at (.Gi dst),st.new dst (.Oh v λ_=>none)) else none
 |none=>none
def aH {α:Type} (m:ByteArray->Option α) (k:ByteArray) (x:α):ByteArray->Option α:= λs=>if s=k then some x else m s
def Eu (st:St) (t:TypeId) (m k x:AV):Option St:=
 match T.mapOf t,m,k with
 |some v, .at (.Gi l), .at (.data _ .str s)=>match st.at l,Cq st v x with
  |some (.Oh v' f),some (_,y)=>if h:v'=v/\v.flat=true/\v.Ac=false then some (st.Gb l (.Oh v (aH (h.1▸f:ByteArray->Option v.den) s y))) else none
  |_,_=>none
 |_,_,_=>none
def bS (st:St) (t t':TypeId) (x y:AV):Option (AV×St):=
 match x,(T.elem t).bind T.ty with
 | .at (.own l off len),some e=>if T.elem t=T.elem t'/\e.flat=true/\e.size=1 then match st.at l,Cq st (.slice e) y with
  |some (.arr fr _ e' tid xs),some (_,ys)=>if h:e'=e/\T.elem t=some tid then
    some (.at (.data true (.int .i64) (min len ys.length:Nat)),st.Gb l (.arr fr false e tid (Bi (h.1▸xs:List e.den) off (ys.take len))))
   else none
  |_,_=>none
  else none
 |_,_=>none
def evalClear (st:St) (t:TypeId) (x:AV):Option St:=
 match x,(T.elem t).bind T.ty with
 | .at (.own l off len),some e=>if e.flat=true/\gh e=true then match st.at l with
  |some (.arr fr _ e' tid xs)=>if h:e'=e/\T.elem t=some tid then
    some (st.Gb l (.arr fr false e tid (Bi (h.1▸xs:List e.den) off (List.replicate len e.zero))))
   else none
  |_=>none
  else none
 |_,_=>none
def Hi (st:St) (t:TypeId):List (Nat×Operand)->List AC->Option (List AC)
 | [],cs=>some cs
 |(i,x)::r,cs=>
  match T.off t i with
  |some (o,u)=>match T.ty u with
   |some ρ=>match cellsOf ρ (st.ev x) with
    |some c=>if o+c.length<=cs.length then Hi st t r (Bi cs o c) else none
    |none=>none
   |none=>none
  |none=>none
def Qh (st:St) (t:TypeId) (parts:Array (Nat×Operand)):Option AV:=
 match T.ty t with
 |none=>none
 |some τ=>if τ.Ac then (Hi T st t parts.toList (zeroCells τ)).map .agg else none
def Bq (io:Bool) (k:Nat):Nat:=if io then 1000000000+k else 500000+k
def Fp (k:Nat):Nat:=600000+k
def JR (dst:Nat) (k:Nat):Nat:=1000000*(dst+1)+k
def Mi:List (Option Nat)->List AC->List AV
 |none::s,a::as=> .at a::Mi s as
 |some n::s,as=> .agg (as.take n)::Mi s (as.drop n)
 |_,_=> []
def Gs:List (Option Nat)->List Value->List Value
 |none::s,u::us=>u::Gs s us
 |some n::s,us=> .agg (us.take n).toArray::Gs s (us.drop n)
 |_,_=> []
def ungroup:List (Option Nat)->List AV->Option (List AC)
 | [],[]=>some []
 |none::s, .at a::as=>(ungroup s as).map λr=>a::r
 |some n::s, .agg cs::as=>if cs.length=n then (ungroup s as).map λr=>cs++r else none
 |_,_=>none
def dP (l:Nat):(c:CK)->c.den->Option OB
 | .Ew _,_=>none
 | .row e te,xs=>some (.arr false false e te xs)
 | .Dt e te,xs=>some (.Dg e te xs)
 | .part e te,x=>some (.arr false false e te x.1)
 | .Ak e te kp,xs=>some (.Ak e te xs none (if kp then some (l,List.length xs) else none))
def Ads (l:Nat):(c:CK)->c.den->AC
 | .Ew τ,x=> .data τ.flat τ x
 | .row _ _,xs=> .own l 0 (List.length xs)
 | .Dt _ _,xs=> .own l 0 (List.length xs)
 | .part _ _,x=> .own l x.2.1 x.2.2
 | .Ak _ _ _,xs=> .own l 0 (List.length xs)
def bL {α:Type} (l:Nat):Option α->List (Nat×α)->List (Nat×α)
 |none,r=>r
 |some b,r=>(l,b)::r
def Sf:(k:Nat)->(cs:List (Bool×CK))->Ins.den cs->List (Nat×OB)
 |_,[],_=> []
 |k,p::r,x=>bL (Bq p.1 k) (dP (Bq p.1 k) p.2 x.1) (Sf (k+1) r x.2)
def Ux:(k:Nat)->(cs:List (Bool×CK))->Ins.den cs->List AC
 |_,[],_=> []
 |k,p::r,x=>Ads (Bq p.1 k) p.2 x.1::Ux (k+1) r x.2
inductive Loc where
 |row (l:Nat)
 |sub (l i c:Nat)
 |view (l:Nat)
 deriving DecidableEq
def Loc.Px:Loc->Nat
 | .row l=>l
 | .sub l _ _=>l
 | .view l=>l
def Loc.reads:Loc->Bool
 | .view _=>true
 |_=>false
def Vm (st:St) (ls:List Nat):Bool:=ls.all λl=>match st.at l with|some (.var _ vs)=>vs.all (·.settled)|_=>false
def views (k:Nat) (ls:List Nat):List (Nat×Loc):=ls.map λl=>(Bq false k, .view l)
def Hc (st:St) (io:Bool) (k:Nat):(c:CK)->AC->Option (c.den×List (Nat×Loc))
 | .Ew τ, .own l off len=>(Bm st τ (.own l off len)).map λp=>(p.2,[(Bq false k, .view l)])
 | .Ew τ, .clo g Bv=>if Vm st (Bv.map (·.1))&&!τ.Ac then (Fk st τ (.clo g Bv)).map λp=>(p.2,views k (Bv.map (·.1))) else none
 | .Ew τ, .Dw l i=>if Vm st [l]&&!τ.Ac then (Fk st τ (.Dw l i)).map λp=>(p.2,views k [l]) else none
 | .Ew τ, .sub l i c=>(Bm st τ (.sub l i c)).map λp=>(p.2,[(Bq false k, .view l)])
 | .Ew τ,a=>if τ.flat||a.settled then (Bm st τ a).map λp=>(p.2,[]) else none
 | .row e te, .own l off len=>match st.at l with
  |some (.arr _ _ e' Lc xs)=>if h:e'=e/\Lc=te/\off=0/\len=xs.length then some ((h.1▸xs:List e.den),[(Bq io k, .row l)]) else none
  |_=>none
 | .row e _, .sub l i c=>match st.at l with
  |some (.Dg e' _ xs)=>if h:e'= .slice e/\e.flat=true/\io=true/\c=0 then xs[i]?.map λy=>((h.1▸y:(Ty.slice e).den),[(Bq io k, .sub l i c)]) else none
  |_=>none
 | .row _ _, .Hp=>some ([],[])
 | .Dt e te, .own l off len=>match st.at l with
  |some (.Dg e' Lc xs)=>if h:e'=e/\Lc=te/\off=0/\len=xs.length then some ((h.1▸xs:List e.den),[(Bq io k, .row l)]) else none
  |_=>none
 | .Dt e _, .sub l i c=>match st.at l with
  |some (.Dg e' _ xs)=>if h:e'= .slice e/\io=true/\c=0 then xs[i]?.map λy=>((h.1▸y:(Ty.slice e).den),[(Bq io k, .sub l i c)]) else none
  |_=>none
 | .Dt _ _, .Hp=>some ([],[])
 | .part e te, .own l off len=>match st.at l with
  |some (.arr _ _ e' Lc xs)=>if h:e'=e/\Lc=te/\e.flat=true/\io=true then some (((h.1▸xs:List e.den),off,len),[(Bq io k, .row l)]) else none
  |_=>none
 | .Ak e te _, .own l off len=>match st.at l with
  |some (.Ak e' Lc rows none _)=>if h:e'=e/\Lc=te/\off=0/\len=rows.length/\io=false then some ((h.1▸rows:List (List e.den)),[(Bq io k, .row l)]) else none
  |_=>none
 |_,_=>none
def aG (st:St):(k:Nat)->(cs:List (Bool×CK))->List AC->Option (Ins.den cs×List (Nat×Loc))
 |_,[],[]=>some ((),[])
 |k,p::r,a::as=>match Hc st p.1 k p.2 a,aG st (k+1) r as with
  |some (x,t1),some (y,t2)=>some ((x,y),t1++t2)
  |_,_=>none
 |_,_,_=>none
def Vr (st:St):(c:CK)->c.den->AC->Option St
 | .row e _,ys, .own l _ len=>match st.at l with
  |some (.arr fr tr e' te xs)=>if h:e=e'/\List.length ys=len/\xs.length=len then some (st.Gb l (.arr (fr&&e'.flat) (tr&&e'.flat) e' te (h.1▸ys))) else none
  |_=>none
 | .Dt e _,ys, .own l _ len=>match st.at l with
  |some (.Dg e' te xs)=>if h:e=e'/\List.length ys=len/\xs.length=len then some (st.Gb l (.Dg e' te (h.1▸ys))) else none
  |_=>none
 | .row e _,ys, .sub l i _=>match st.at l with
  |some (.Dg e' te xs)=>if h: .slice e=e' then (match xs[i]? with
   |some y=>if List.length ys=List.length (h▸y:(Ty.slice e).den) then some (st.Gb l (.Dg e' te (xs.set i (h▸(ys:(Ty.slice e).den))))) else none
   |none=>none) else none
  |_=>none
 | .Dt e _,ys, .sub l i _=>match st.at l with
  |some (.Dg e' te xs)=>if h: .slice e=e' then (match xs[i]? with
   |some y=>if List.length ys=List.length (h▸y:(Ty.slice e).den) then some (st.Gb l (.Dg e' te (xs.set i (h▸(ys:(Ty.slice e).den))))) else none
   |none=>none) else none
  |_=>none
 |_,_, .Hp=>some st
 |_,_,_=>none
def zb (st:St) (e:Ty) (ys:List e.den):AC->Option St
 | .own l _ _=>match st.at l with
  |some (.arr fr tr e' te xs)=>if h:e=e'/\List.length ys=xs.length then some (st.Gb l (.arr fr tr e' te (h.1▸ys))) else none
  |_=>none
 |_=>none
def Eb:(cs:List (Bool×CK))->IOs.den cs->List AC->St->Option St
 | [],_,_,st=>some st
 |(true, .Ew _)::r,x,_::as,st=>Eb r x as st
 |(true, .row e te)::r,x,a::as,st=>match Vr st (.row e te) x.1 a with
  |some st'=>Eb r x.2 as st'
  |none=>none
 |(true, .Dt e te)::r,x,a::as,st=>match Vr st (.Dt e te) x.1 a with
  |some st'=>Eb r x.2 as st'
  |none=>none
 |(true, .part e _)::r,x,a::as,st=>match zb st e x.1 a with
  |some st'=>Eb r x.2 as st'
  |none=>none
 |(true, .Ak _ _ _)::r,x,_::as,st=>Eb r x as st
 |(false,_)::r,x,_::as,st=>Eb r x as st
 |_,_,_,_=>none
def Aw (dead part:List Nat) (c:AC):AC:=if c.refs.any (λl=>dead.contains l) then .undef else match c with
 | .sub l i c=>if part.contains l then .undef else .sub l i c
 | .Fw l i c=>if part.contains l then .undef else .Fw l i c
 |c=>c
def Qf:List (Nat×OB)->List Nat->List (Nat×OB)
 | [],_=> []
 |(k,b)::r,dead=>if dead.contains k then Qf r dead else (k,b)::Qf r dead
def St.Vz (st:St) (dead part:List Nat):St:=let s:=st.Gh (Aw dead part); {s with heap:=Qf s.heap dead}
def Ms (st:St) (l j m:Nat) (e:Ty) (te:TypeId) (rows:List (List e.den)) (xs:List e.den) (kp:Option (Nat×Nat)):St:=
 (st.Vz [m] [l]).Gb l (.Ak e te (rows.set j xs) none kp)
def Vb (j:Nat):Option (Nat×Nat)->Option (Nat×Nat)
 |none=>none
 |some p=>some (p.1,min p.2 j)
def Uu (st:St) (t:TypeId) (p v:AV):Option St:=
 match T.ty t,p with
 |some τ, .at (.Fw l i j)=>match settle st v with
  |some (v',st')=>match st'.at l,Cq st' τ v' with
   |some (.Ak e te rows none kp),some (_,x)=>if h:τ=e then some (st'.Gb l (.Ak e te (rows.set i ((rows.getD i []).set j (h▸x))) none kp)) else none
   |_,_=>none
  |none=>none
 |some τ, .at (.Fz l j)=>match st.at l,v with
  |some (.Ak e te rows out kp), .at (.own m off len)=>match st.at m with
   |some (.arr _ _ e' _ xs)=>if h:e'=e/\(Nat.blt l Aj&&(!Nat.beq m l&&!τ.Ac))=true/\off=0/\len=xs.length/\(out=none\/out=some j) then some (Ms st l j m e te rows (h.1▸xs) (Vb j kp)) else none
   |_=>none
  |_,_=>none
 |_,_=>none
def AQ (st:St):AV->Bool
 | .at (.Fw _ _ _)=>true
 | .at (.Fz l _)=>match st.at l with
  |some (.Ak _ _ _ _ _)=>true
  |_=>false
 |_=>false
def Jv (st:St) (t:TypeId) (p v:AV):Option St:=match AQ st p with
 |true=>Uu T st t p v
 |false=>Nu T st t p v
def Ky (st:St) (k m:Nat) (b:OB):St:=let s:=st.Vz [m,k] []; {s with heap:=Ja s.heap k b}
def Yb (t:TypeId):Option (TypeId×Ty):=(T.elem t).bind λte=>(T.AP te).map λe=>(te,e)
def Qk (st:St) (dst:Nat) (t:TypeId) (l c:AV):Option (AV×St):=
 match Yb T t with
 |none=>Ur T st dst t l c
 |some (te,e)=>match l,c with
  | .at (.data _ (.int _) n), .at (.data _ (.int _) m)=>if SE n (Bj+1)=true/\n=m/\dst<Aj then some (.at (.own dst 0 n.toNat),Ky st dst dst (.Ak e te (List.replicate n.toNat []) none none)) else none
  |_,_=>none
def Er (st:St) (dst:Nat) (t:TypeId) (len:Nat) (parts:Array (Nat×Operand)):Option (AV×St):=
 match Yb T t with
 |none=>Hk T st dst t len parts
 |some (te,e)=>match parts.toList with
  | [(0,x)]=>match st.ev x with
   | .at (.own m off ln)=>match st.at m with
    |some (.arr _ _ e' _ xs)=>if h:e'=e/\(Nat.beq len 1&&(Nat.blt dst Aj&&Nat.blt m Aj))=true/\off=0/\ln=xs.length then some (.at (.own dst 0 1),Ky st dst m (.Ak e te [h.1▸xs] none none)) else none
    |_=>none
   |_=>none
  |_=>none
def Lg (st:St) (dst:Nat) (t:TypeId) (x y:Operand):Option (AV×St):=
 match Yb T t with
 |none=>Lf T st dst t x y
 |some (te,e)=>match st.ev x,st.ev y with
  | .at (.own l off len), .at (.own m JS mW)=>match st.at l,st.at m with
   |some (.Ak e1 te1 A none _),some (.Ak e2 pK B none _)=>
    if h:(e1=e/\e2=e)/\(decide (te1=te)&&decide (pK=te)&&(Nat.blt l Aj&&(Nat.blt m Aj&&!Nat.beq m l)))=true/\(off=0/\len=A.length)/\(JS=0/\mW=B.length)/\0<B.length/\A.length+B.length<=Bj then
     some (.at (.own l 0 (A.length+B.length)),Ky st l m (.Ak e te ((h.1.1▸A:List (List e.den))++(h.1.2▸B:List (List e.den))) none none))
    else none
   |_,_=>none
  |_,_=>none
def p8 (fr:Bool):(c:CK)->c.den->Option OB
 | .Ew _,_=>none
 | .row e te,xs=>some (.arr (fr&&e.flat) false e te xs)
 | .Dt e te,xs=>some (.Dg e te xs)
 | .part e te,x=>some (.arr (fr&&e.flat) false e te x.1)
 | .Ak e te _,xs=>some (.Ak e te xs none none)
def vN (H:List (Nat×OB)) (l:Nat):Option OB->List (Nat×OB)
 |some b=>Ja H l b
 |none=>H
def Qu (fr:Bool) (key:Nat->Nat):(k:Nat)->(cs:List CK)->CKs.den cs->List (Nat×OB)->List (Nat×OB)
 |_,[],_,H=>H
 |k,c::r,x,H=>Qu fr key (k+1) r x.2 (vN H (key k) (p8 fr c x.1))
def Ve (key:Nat->Nat):(k:Nat)->(cs:List CK)->CKs.den cs->List AC
 |_,[],_=> []
 |k,c::r,x=>(match c,x.1 with
  | .Ew τ,y=> .data τ.flat τ y
  | .row _ _,xs=> .own (key k) 0 (List.length xs)
  | .Dt _ _,xs=> .own (key k) 0 (List.length xs)
  | .Ak _ _ _,xs=> .own (key k) 0 (List.length xs)
  | .part _ _,_=> .undef)::Ve key (k+1) r x.2
def Sw:List (Option Nat)->List AC->List (Bool×List AC)
 |none::s,a::as=>(false,[a])::Sw s as
 |some n::s,as=>(true,as.take n)::Sw s (as.drop n)
 |_,_=> []
def Abl (Ee:Bool) (sh:List (Option Nat)) (as:List AC):Option AV:=
 if Ee then some (.Iw (Sw sh as)) else match Mi sh as with
  | [v]=>some v
  | []=>some .undef
  |_=>none
def gB (tks:List (Nat×Loc)):List Nat:=(tks.filter λt=>Nat.blt t.1 Aj&&!t.2.reads).map λt=>t.2.Px
def whole (tks:List (Nat×Loc)):List Nat:=tks.flatMap λt=>match t.2 with| .row l=> [l]|_=> []
def u5 (tks:List (Nat×Loc)):List Nat:=(tks.filter λt=>t.2.reads).map λt=>t.2.Px
def vX (ins:List (Bool×CK)) (te:TypeId) (used:List Nat):List (Nat×Loc)->Option Nat
 | []=>none
 |(k, .row l)::r=>if Nat.blt k Aj&&(!used.contains l&&(match ins[k-500000]? with
   |some (false, .row _ Lc)=>decide (Lc=te)
   |some (false, .Dt _ Lc)=>decide (Lc=te)
   |some (false, .Ak _ Lc _)=>decide (Lc=te)
   |_=>false)) then some l else vX ins te used r
 |_::r=>vX ins te used r
def yH (ins:List (Bool×CK)) (tks:List (Nat×Loc)) (d:Nat):(k:Nat)->(used:List Nat)->List CK->List Nat
 |_,_,[]=> []
 |k,used,c::r=>match (match c with
   | .row _ te=>vX ins te used tks
   | .Dt _ te=>vX ins te used tks
   | .Ak _ te _=>vX ins te used tks
   |_=>none) with
  |some l=>l::yH ins tks d (k+1) (l::used) r
  |none=>JR d k::yH ins tks d (k+1) used r
def gu (s:MSpec) (tks:List (Nat×Loc)) (d:Nat):List Nat:=yH s.ins tks d 0 [] s.outs
def Bu (ks:List Nat) (j:Nat):Nat:=match ks[j]? with
 |some l=>l
 |none=>Aj+j
def su (ks:List Nat) (n:Nat):Bool:=Nat.beq ks.length n&&(Sv ks&&ks.all λl=>Nat.blt l Aj)
def AL (st:St) (l:List Nat):Bool:=l.all λk=>match st.at k with|some (.arr fr _ _ _ _)=>fr|_=>false
def BM (st:St) (s:MSpec) (args:List AV):Option (List Nat×List AC×List AV):=
 match s.ptr with
 |none=>some ([],[],args)
 |some p=>match args with
  | .at (.Dw l i)::rest=>match st.at l with
   |some (.var tid vs)=>if tid=p.1/\vs.length=p.2/\i=0 then some ([l],vs,rest) else none
   |_=>none
  |_=>none
def Ow:List (Bool×CK)->List AC->Bool
 |(true, .row _ _)::r, .own _ _ _::as=>Ow r as
 |(true, .Dt _ _)::r, .own _ _ _::as=>Ow r as
 |(true,_)::_,_::_=>false
 |(false,_)::r,_::as=>Ow r as
 |_,as=>as.isEmpty
def aZ {α:Type} :List (Bool×CK)->List α->List α->List α
 |(true,_)::r,v::vs,as=>v::aZ r vs as
 |(false,_)::r,_::vs,a::as=>a::aZ r vs as
 |_,vs,_=>vs
def nE:List (Bool×CK)->Nat->Nat
 |(true,_)::r,n+1=>nE r n
 |(false,_)::r,n+1=>nE r n+1
 |_,_=>0
def MSpec.Td (s:MSpec):Nat:=match s.ptr with|none=>0|some p=>nE s.ins p.2
def lk (ins:List (Bool×CK)) (as:List AC) (pl:List Nat) (st:St):St:=
 match pl with
 | []=>st
 |l::_=>match st.at l with
  |some (.var tid vs)=>st.Gb l (.var tid (aZ ins vs as))
  |_=>st
def Mq (d:Nat):Nat:=JR d 999
def fS (s:MSpec) (d:Nat):List Nat:=match s.rp with|none=> []|some _=> [Mq d]
def Lq (s:MSpec) (tks:List (Nat×Loc)) (d:Nat):List Nat:=gu s tks d++fS s d
def gV (H:List (Nat×OB)) (l:Nat):Bool:=match Ae H l with
 |some (.Ak _ _ _ _ _)=>true
 |_=>false
def Va (H:List (Nat×OB)) (ks:List Nat) (tks:List (Nat×Loc)):List (Nat×Nat)->List Nat
 | []=> []
 |(k,j)::r=>match tks.find? (λt=>Nat.beq t.1 (Bq false k)),ks[j]? with
  |some (_, .row l),some l'=>if Nat.beq l' l&&gV H l then l::Va H ks tks r else Va H ks tks r
  |_,_=>Va H ks tks r
def lF (H:List (Nat×OB)) (l:Nat):Nat:=match Ae H l with
 |some (.Ak _ _ rows _ _)=>rows.length
 |_=>0
def Xi (H:List (Nat×OB)) (ls:List Nat) (n:Nat):List AV->Bool
 | []=>true
 | .at (.sub l i _)::r=>(!ls.contains l||(Nat.blt i n&&Nat.blt i (lF H l)))&&Xi H ls n r
 |_::r=>Xi H ls n r
def Gw (ls:List Nat):List AV->List AV->List AV
 | .at (.sub l i c)::r,v::vs=>(if ls.contains l then .at (.sub l i c) else v)::Gw ls r vs
 |_::r,v::vs=>v::Gw ls r vs
 |_,vs=>vs
def UY:Option OB->Option (Nat×Nat)
 |some (.Ak _ _ _ _ kp)=>kp
 |_=>none
def OB.wR (b:OB) (kp:Option (Nat×Nat)):OB:=match b with
 | .Ak e te rows out _=> .Ak e te rows out kp
 |b=>b
def Wy (H0:List (Nat×OB)) (ls:List Nat) (n:Nat):List (Nat×OB)->List (Nat×OB)
 | []=> []
 |(l,b)::r=>(l,if ls.contains l then b.wR (Vb n (UY (Ae H0 l))) else b)::Wy H0 ls n r
def fG (bf st:St) (ls:List Nat) (n:Nat):St:=match ls with
 | []=>st
 |_=> {tmps:=Gw ls bf.tmps st.tmps,heap:=Wy bf.heap ls n st.heap}
def PJ (s:MSpec) (d:Nat) (as:List AC):Option AV:=match s.rp with
 |none=>Abl s.Ee s.Gd as
 |some _=>some (.at (.Dw (Mq d) 0))
def fc (st st1:St) (d:Nat) (s:MSpec) (pl:List Nat) (tks:List (Nat×Loc)) (r:CKs.den s.outs):St:=
 let ks:=Lq s tks d
 let key:=Bu ks
 let st2:=lk s.ins (Ve key 0 s.outs r) pl (st1.Vz (gB tks++ks++(if s.flat then [] else u5 tks)) (whole tks))
 {st2 with heap:=Qu (AL st (gB tks)) key 0 s.outs r (vN st2.heap (Mq d) (s.rp.map λtid=> .var tid ((Ve key 0 s.outs r).drop s.Td)))}
def Qi (st:St) (dst:Option Nat) (s:MSpec) (args:List AV):Option (AV×St):=
 match BM st s args with
 |none=>none
 |some (pl,vs,rest)=>match ungroup s.Ha rest with
 |none=>none
 |some iO=>match aG st 0 s.ins (vs++iO) with
  |none=>none
  |some (x,tks)=>if Sv (tks.map λt=>t.2.Px)&&su (Lq s tks (dst.getD 0)) (s.outs.length+(fS s (dst.getD 0)).length)&&Nat.blt s.outs.length 1000&&Nat.blt s.ins.length 1000&&(Ow s.ins vs&&pl.all λl=>!((tks.map λt=>t.2.Px)++Lq s tks (dst.getD 0)).contains l) then match s.fn x with
   |none=>none
   |some (r,o)=>match Eb s.ins o (vs++iO) st with
    |none=>none
    |some st1=>match PJ s (dst.getD 0) ((Ve (Bu (Lq s tks (dst.getD 0))) 0 s.outs r).drop s.Td) with
     |none=>none
     |some v=>if Xi (fc st st1 (dst.getD 0) s pl tks r).heap (Va st.heap (Lq s tks (dst.getD 0)) tks s.keeps) (s.Cr x) st.tmps=true then
       some (v,fG st (fc st st1 (dst.getD 0) s pl tks r) (Va st.heap (Lq s tks (dst.getD 0)) tks s.keeps) (s.Cr x)) else none
   else none
def Jl:List Operand->St->Option St
 | [],st=>some st
 |x::r,st=>match settle st (st.ev x) with
  |some (_,st')=>Jl r st'
  |none=>none
def aa (s:Spec) (args:List AV):Bool:=!(s.fresh||s.res.flat||args.all (·.settled))
def evalOp (Γ:Env) (st:St) (o:Oper):Option (AV×St):=
 match o.op with
 | .assign x=>match st.ev x,o.dst,(T.elem o.type).bind λte=>(T.ty te).map λe=>(te,e) with
  | .at .Hp,some d,some (te,e)=>if d<Aj then some (.at (.own d 0 0),st.new d (.arr (T.my||e.flat) T.tV e te [])) else none
  |v,_,_=>some (v,st)
 | .alloc t=>match o.dst,T.ty t with
  |some d,some τ=>mkVar T st d t τ (zeroCells τ)
  |_,_=>none
 | .box t x=>match o.dst,T.ty t with
  |some d,some τ=>match cellsOf τ (st.ev x) with
   |some cs=>mkVar T st d t τ cs
   |none=>none
  |_,_=>none
 | .store t p x=>(Jv T st t (st.ev p) (st.ev x)).map λs=>(.undef,s)
 | .makeSlice t l c=>match o.dst with
  |some d=>Qk T st d t (st.ev l) (st.ev c)
  |none=>none
 | .makeMap t none=>match o.dst with
  |some d=>Nt T st d t
  |none=>none
 | .mapUpdate t m k x=>(Eu T st t (st.ev m) (st.ev k) (st.ev x)).map λs=>(.undef,s)
 | .insert t m k x=>(Eu T st t (st.ev m) (st.ev k) (st.ev x)).map λs=>(.undef,s)
 | .buildSlice t len parts=>match o.dst with
  |some d=>Er T st d t len parts
  |none=>none
 | .build t parts=>(Qh T st t parts).map λv=>(v,st)
 | .call {callee:= .builtin .append,args,argTypes} =>match o.dst,args.toList,argTypes.toList with
  |some d,[x,y],[t,t']=>if t=t' then Lg T st d t x y else none
  |_,_,_=>none
 | .call {callee:= .builtin .copy,args,argTypes} =>match args.toList,argTypes.toList with
  | [x,y],[t,t']=>bS T st t t' (st.ev x) (st.ev y)
  |_,_=>none
 | .call {callee:= .builtin .clear,args,argTypes} =>match args.toList,argTypes.toList with
  | [x],[t]=>(evalClear T st t (st.ev x)).map λs=>(.undef,s)
  |_,_=>none
 | .call {callee:= .value (.func f),args, .. } =>match Γ f with
  |some (.m s)=>Qi st o.dst s (args.toList.map st.ev)
  |some (.q s)=>if aa s (args.toList.map st.ev) then (match Jl args.toList st with
   |some st1=>(Cg T Γ st1 o).map λv=>(v,st1)
   |none=>none) else (Cg T Γ st o).map λv=>(v,st)
  |_=>(Cg T Γ st o).map λv=>(v,st)
 |_=>(Cg T Γ st o).map λv=>(v,st)
def ag (e:Ty):Nat->List (Nat×Operand)->St->Option (Bool×List e.den)
 |_,[],_=>some (true,[])
 |i,(j,x)::r,st=>
  if i=j/\(st.ev x).settled=true then match Cq st e (st.ev x),ag e (i+1) r st with
   |some (fr,y),some (On,ys)=>some (fr&&On,y::ys)
   |_,_=>none
  else none
def Uq (st:St) (t:TypeId) (len:Nat) (parts:Array (Nat×Operand)):Option AV:=
 match T.elem t with
 |none=>none
 |some te=>match T.ty te with
  |none=>none
  |some e=>if parts.size=len/\len<=64/\e.size<=64 then (ag e 0 parts.toList st).map λp=> .at (.data p.1 (.slice e) p.2) else none
def Rw (Γ:Env) (st:St) (o:Oper):Option AV:=
 match o.op with
 | .buildSlice t len parts=>Uq T st t len parts
 | .build t parts=>Qh T st t parts
 |_=>Cg T Γ st o
def JL (q:Bool) (Γ:Env) (o:Oper):Bool:=
 match o.op with
 | .buildSlice _ _ _| .build _ _=>!q
 | .alloc _| .box _ _| .store _ _ _| .makeSlice _ _ _| .makeMap _ _| .mapUpdate _ _ _ _| .insert _ _ _ _=>true
 | .assign (.const _)=>true
 | .call {callee:= .builtin .append, .. } =>true
 | .call {callee:= .builtin .copy, .. } =>true
 | .call {callee:= .builtin .clear, .. } =>true
 | .call {callee:= .value (.func f), .. } =>match Γ f with
  |some (.m _)=>true
  |_=>false
 |_=>false
def Ch (Γ:Env) (ops:Array Oper) (st:St) (o:Oper):Option St:=
 match o.guard with
 |none=>(evalOp T Γ st o).map λr=>r.2.put o.dst r.1
 |some (j,want)=>match Qd st ((ops[j]?).bind (·.dst)) with
  |some (some b)=>if b==want then (evalOp T Γ st o).map λr=>r.2.put o.dst r.1 else some (st.put o.dst (.at .skip))
  |some none=>some (st.put o.dst (.at .skip))
  |none=>none
def Tn (Γ:Env) (ops:Array Oper):List Oper->St->Option St
 | [],st=>some st
 |o::r,st=>match Ch T Γ ops st o with
  |some st'=>Tn Γ ops r st'
  |none=>none
def Fe (q:Bool) (Γ:Env) (ops:Array Oper):List Nat:=
 (List.range ops.size).foldl (init:= []) λacc i=>match ops[i]? with
  |some o=>if JL q Γ o||o.after.any (λe=>Region.binds .any e&&acc.contains e.on) then acc++ [i] else acc
  |none=>acc
def Wb (q:Bool) (Γ:Env) (ops:Array Oper):List Nat:=(List.range ops.size).filter λi=>!(Fe q Γ ops).contains i
def gU (ops:Array Oper) (hd tl:List Nat) (i:Nat):Bool:=
 match ops[i]? with
 |some o=>(match o.op,o.guard with
  | .move (.tmp _),none=>true
  |_,_=>false)&&!((tl.take 1++hd).any λj=>decide (i<j)&&Region.waitsFor .any ops j i)
 |none=>false
def Om (q:Bool) (Γ:Env) (ops:Array Oper):List Nat:=(Wb q Γ ops).filter λi=>gU ops (Wb q Γ ops) (Fe q Γ ops) i
def Ot (q:Bool) (Γ:Env) (ops:Array Oper):List Nat:=(Wb q Γ ops).filter λi=>!gU ops (Wb q Γ ops) (Fe q Γ ops) i
def dw (q:Bool) (Γ:Env) (ops:Array Oper):List Nat:=Om q Γ ops++Ot q Γ ops
def JD (ops:Array Oper) (i:Nat):Bool:=match ops[i]? with
 |some o=>(match o.op,o.guard with
  | .extract _ _,none=>true
  |_,_=>false)
 |none=>false
def iA (ops:Array Oper):List Nat->Array Bool->Bool
 | [],Ad=>(Region.ready .any ops Ad).isEmpty
 |k::r,Ad=>(decide (Region.ready .any ops Ad= [k])||(JD ops k&&((Region.ready .any ops Ad).contains k&&Region.free .any ops Ad k)))&&iA ops r (Ad.setIfInBounds k true)
def jg (ops:Array Oper) (tl:List Nat):List Nat->Array Bool->Bool
 | [],Ad=>iA ops tl Ad
 |k::r,Ad=>(Region.ready .any ops Ad).contains k&&Region.free .any ops Ad k&&jg ops tl r (Ad.setIfInBounds k true)
def nL (ops:Array Oper) (hd:List Nat):List Nat->Bool
 | []=>true
 |f::r=>(hd.all λi=>(f::hd).any λj=>decide (i<j)&&Region.waitsFor .any ops j i)&&r.all λt=>(f::r).any λk=>Region.waitsFor .any ops t k
def gM (ops:Array Oper) (tl hd:List Nat):List Nat->Array Bool->Bool
 | [],Ad=>jg ops tl hd Ad
 |k::r,Ad=>(Region.ready .any ops Ad).contains k&&Region.free .any ops Ad k&&gM ops tl hd r (Ad.setIfInBounds k true)
def dD (q:Bool) (Γ:Env) (ops:Array Oper):Bool:=
 Region.noSelect ops&&((Om q Γ ops).length+((Ot q Γ ops).length+(Fe q Γ ops).length)==ops.size)&&gM ops (Fe q Γ ops) (Ot q Γ ops) (Om q Γ ops) (Array.replicate ops.size false)&&nL ops (Ot q Γ ops) (Fe q Γ ops)
def bt (Γ:Env) (ops:Array Oper) (st:St) (o:Oper):Option AV:=
 match o.guard with
 |none=>Rw T Γ st o
 |some (j,want)=>match Qd st ((ops[j]?).bind (·.dst)) with
  |some (some b)=>if b==want then Rw T Γ st o else some (.at .skip)
  |some none=>some (.at .skip)
  |none=>none
def Ea (Γ:Env) (ops:Array Oper):List Nat->St->Option St
 | [],st=>some st
 |i::r,st=>match ops[i]? with
  |none=>none
  |some o=>match bt T Γ ops st o with
   |some v=>Ea Γ ops r (st.put o.dst v)
   |none=>none
def Jb (Γ:Env) (ops:Array Oper):List Nat->St->Option St
 | [],st=>some st
 |i::r,st=>match ops[i]? with
  |none=>none
  |some o=>match Ch T Γ ops st o with
   |some st'=>Jb Γ ops r st'
   |none=>none
def Lh (Γ:Env) (ops:Array Oper) (draw:Bool) (st:St):Option St:=
 if draw then (if dD false Γ ops then (match Ea T Γ ops (dw false Γ ops) st with
  |some st'=>Jb T Γ ops (Fe false Γ ops) st'
  |none=>none) else if dD true Γ ops then (match Ea T Γ ops (dw true Γ ops) st with
  |some st'=>Jb T Γ ops (Fe true Γ ops) st'
  |none=>none) else none)
 else Tn T Γ ops ops.toList st
def sn (ops:Array Oper) (i:Nat):Bool:=match ops[i]? with
 |some o=>(match o.op,o.guard with
  | .move (.tmp _),none=>true
  |_,_=>false)
 |none=>false
def dA (ops:Array Oper) (i:Nat):Bool:=match ops[i]? with
 |some o=>(match o.op,o.guard with
  | .move (.tmp _),none=>true
  | .nilCheck _,none=>true
  | .fieldAddr _ _ _,none=>true
  |_,_=>false)
 |none=>false
def Abr (q:Bool) (ops:Array Oper) (i:Nat):Bool:=match q with
 |true=>dA ops i
 |false=>sn ops i
def Fb (q:Bool) (ops:Array Oper):List Nat->Array Bool->List Nat
 | [],_=> []
 |i::r,Ad=>if Abr q ops i&&((Region.ready .any ops Ad).contains i&&Region.free .any ops Ad i) then i::Fb q ops r (Ad.setIfInBounds i true) else Fb q ops r Ad
def JQ (q:Bool) (ops:Array Oper):List Nat:=Fb q ops (List.range ops.size) (Array.replicate ops.size false)
def dr (q:Bool) (ops:Array Oper):Bool:=Nat.ble (ops.size-(JQ q ops).length) 8
def Jz (ops:Array Oper):List Nat:=JQ (!dr false ops) ops
def Ef:List Nat->Array Bool->Array Bool
 | [],Ad=>Ad
 |i::r,Ad=>Ef r (Ad.setIfInBounds i true)
def anyS (Γ:Env) (ops:Array Oper) (K:St->Prop):Nat->Array Bool->St->Prop
 |0,Ad,st=>Region.ready .any ops Ad= []/\K st
 |f+1,Ad,st=>Region.ready .any ops Ad≠ []/\ ∀i∈Region.ready .any ops Ad,∃o st',ops[i]?=some o/\Ch T Γ ops st o=some st'/\anyS Γ ops K f (Ad.setIfInBounds i true) st'
def ru (Γ:Env) (ops:Array Oper) (draw:Bool) (st:St) (K:St->Prop):Prop:=
 (∃st',Lh T Γ ops draw st=some st'/\K st')\/
 (draw=true/\Region.noSelect ops=true/\ ∃bf,Ea T Γ ops (Jz ops) st=some bf/\anyS T Γ ops K (ops.size-(Jz ops).length) (Ef (Jz ops) (Array.replicate ops.size false)) bf)
def sY (Γ:Env) (draw:Bool):Env:= λf=>match Γ f with
 |some (.b s m)=>some (if draw then .q s else .m m)
 |r=>r
inductive Gv where
 |normal
 |exit (id:Nat)
 |ret
def Fy (live:List Nat):Nat->List AV->List AV
 |_,[]=> []
 |i,v::r=>(if live.contains i then v else .undef)::Fy live (i+1) r
def AV.refs:AV->List Nat
 | .at a=>a.refs
 | .agg cs=>cs.flatMap AC.refs
 | .Uj _ _ _=> []
 | .Iw l=>l.flatMap λp=>p.2.flatMap AC.refs
def OB.refs:OB->List Nat
 | .var _ vs=>vs.flatMap AC.refs
 |_=> []
def Xz:List Nat->St->St
 | [],st=>st
 |l::r,st=>Xz r (st.forget l)
def jC (l k m:Nat):Nat:=if m=l then k else m
def Ob (l k:Nat):AC->AC
 | .own m off len=> .own (jC l k m) off len
 | .Dw m i=> .Dw (jC l k m) i
 | .Fz m i=> .Fz (jC l k m) i
 | .clo f Bv=> .clo f (Bv.map λp=>(jC l k p.1,p.2))
 | .Gi m=> .Gi (jC l k m)
 | .sub m i c=> .sub (jC l k m) i c
 | .Fw m i c=> .Fw (jC l k m) i c
 |a=>a
def St.rename (l k:Nat) (st:St):St:=
 match Ae st.heap k,Ae st.heap l with
 |none,some b=>if (Nat.blt l Aj&&Nat.blt k Aj)=true then
   (let s:=st.Gh (Ob l k); {s with heap:=Ja (Tb s.heap l) k (b.map (Ob l k))}) else st
 |_,_=>st
def Hr:Nat->Nat->St->St
 |0,_,st=>st
 |n+1,t,st=>Hr n (t+1) (match st.get t with
  | .at (.own l _ _)=>match Ae st.heap l with
   |some (.arr _ _ _ _ _)=>if (st.tmps.take t).any (λv=>v.refs.contains l) then st else st.rename l (700000+t)
   |_=>st
  |_=>st)
def Wi:Nat:=1000000007
def OB.Ev (flat all:Bool):OB->OB
 | .arr fr tr e tid xs=> .arr (fr&&!(all||(flat&&e.flat))) (tr&&!all) e tid xs
 |b=>b
def Sp:Nat:=1000000009
def xr:Nat:=1100000000
def St.Ev (live:List Nat) (st:St):St:= {st with heap:=st.heap.map λp=>(p.1,p.2.Ev (live.contains Sp) (live.contains (xr+p.1)))}
def Hq:Nat:=900000000
def Vg (t:Nat) (st:St):St:=match st.get t with
 | .at (.own l off len)=>match Ae st.heap l with
  |some (.arr fr tr e tid xs)=>if Nat.blt l Aj=true then (st.new l (.arr fr tr e tid ((xs.drop off).take len))).put (some t) (.at (.own l 0 ((xs.drop off).take len).length)) else st
  |_=>st
 |_=>st
def Jk (live:List Nat):Nat->Nat->St->St
 |0,_,st=>st
 |n+1,t,st=>Jk live n (t+1) (if live.contains (Hq+t) then Vg t st else st)
def St.clean (live:List Nat) (st:St):St:=
 let s:St:= {st with tmps:=Fy live 0 st.tmps}
 let r1:=s.tmps.flatMap AV.refs
 let r2:=r1++(s.heap.filter λp=>r1.contains p.1).flatMap λp=>p.2.refs
 let s2:=Xz ((s.heap.map (·.1)).filter λl=>!r2.contains l&&Nat.blt l Aj) s
 let s2:=if live.any (λt=>Nat.ble Hq t&&Nat.blt t Wi) then Jk live s2.tmps.length 0 s2 else s2
 let s3:=if live.contains Wi then Hr s2.tmps.length 0 s2 else s2
 if live.any (λt=>Nat.ble Sp t) then s3.Ev live else s3
def Ce:Code->Nat
 | .region id _ _=>id
 | .seq a _=>Ce a
 | .cond _ a _=>Ce a
 | .block _ c=>Ce c
 | .loop c=>1000+Ce c
 |_=>0
def SQ (a b:List Nat):List Nat:=a++b.filter λt=>!a.contains t
def sA:List Oper->List Nat->List Nat
 | [],out=>out
 |o::r,out=>SQ (o.op.operands.toList.filterMap λ | .tmp t=>some t|_=>none) (match o.dst with|some d=>(sA r out).filter (·!=d)|none=>sA r out)
def ye:List (Nat×List Nat)->Nat->List Nat
 | [],_=> []
 |(k,l)::r,id=>if k=id then l else ye r id
def kC:Code->List (Nat×List Nat)->List Nat->List Nat->List Nat×List (Nat×List Nat)
 | .region _ ops _,_,_,out=>(sA ops.toList out,[])
 | .seq a b,env,ret,out=>let rb:=kC b env ret out;let ra:=kC a env ret rb.1;(ra.1,ra.2++rb.2)
 | .cond c a b,env,ret,out=>let ra:=kC a env ret out;let rb:=kC b env ret out
  (SQ (match c with| .tmp t=> [t]|_=> []) (SQ ra.1 rb.1),ra.2++rb.2)
 | .block id c,env,ret,out=>kC c ((id,out)::env) ret out
 | .exit id,env,_,_=>(ye env id,[])
 | .ret,_,ret,_=>(ret,[])
 | .loop c,env,ret,_=>let l:=(kC c env ret []).1;let r:=kC c env ret l;(l,(Ce c,l)::r.2)
 |_,_,_,out=>(out,[])
def sB:List ResultVar->List Nat
 | []=> []
 | .tmp t::r=>t::sB r
 | .cell p _::r=>p::sB r
def sy (marks:List Nat) (fn:Func) (c:Code):Nat->List Nat:=let ret:=sB fn.results.toList;let g:=ye (kC c [] ret ret).2;match marks with
 | []=>g
 |m=> λid=>g id++m
def yU (K:St->Prop) (Q:Gv->St->Prop):Gv->St->Prop
 | .normal,s=>K s
 |e,s=>Q e s
def ql (id:Nat) (Q:Gv->St->Prop):Gv->St->Prop
 | .exit CZ,s=>if CZ=id then Q .normal s else Q (.exit CZ) s
 |e,s=>Q e s
inductive Iz (Γ:Env) (live:Nat->List Nat):Code->St->(Gv->St->Prop)->Prop where
 |skip {st:St} {Q:Gv->St->Prop} :Q .normal st->Iz Γ live .skip st Q
 |label {l:Nat} {st:St} {Q:Gv->St->Prop} :Q .normal st->Iz Γ live (.label l) st Q
 |exit {id:Nat} {st:St} {Q:Gv->St->Prop} :Q (.exit id) st->Iz Γ live (.exit id) st Q
 |ret {st:St} {Q:Gv->St->Prop} :Q .ret st->Iz Γ live .ret st Q
 |region {id:Nat} {ops:Array Oper} {draw:Bool} {st:St} {Q:Gv->St->Prop} :ru T (sY Γ draw) ops draw st (Q .normal)->Iz Γ live (.region id ops draw) st Q
 |seq {x y:Code} {st:St} {Q:Gv->St->Prop} (Q1:Gv->St->Prop):Iz Γ live x st Q1->(∀s,Q1 .normal s->Iz Γ live y s Q)->(∀e s,e≠ .normal->Q1 e s->Q e s)->Iz Γ live (.seq x y) st Q
 |cond {c:Operand} {x y:Code} {st:St} {fr t:Bool} {Q:Gv->St->Prop} :st.ev c= .at (.data fr .bool t)->(t=true->Iz Γ live x st Q)->(t=false->Iz Γ live y st Q)->Iz Γ live (.cond c x y) st Q
 |block {id:Nat} {c:Code} {st:St} {Q:Gv->St->Prop} (Q1:Gv->St->Prop):Iz Γ live c st Q1->(∀e s,Q1 e s->ql id Q e s)->Iz Γ live (.block id c) st Q
 |loop {c:Code} {st:St} {Q:Gv->St->Prop} (Q1:Gv->St->Prop):Iz Γ live c (st.clean (live (Ce c))) Q1->(∀s,Q1 .normal s->Iz Γ live (.loop c) s Q)->(∀e s,e≠ .normal->Q1 e s->Q e s)->Iz Γ live (.loop c) st Q
def Xd (st:St):List ResultVar->Option (List AV)
 | []=>some []
 | .tmp t::r=>(Xd st r).map λl=>st.get t::l
 | .cell p t::r=>match Kg T st t (st.get p),Xd st r with
  |some v,some l=>some (v::l)
  |_,_=>none
def gJ (s:Spec) (fn:Func) (st:St):Option (Bool×s.res.den):=
 match Xd T st fn.results.toList with
 |some [v]=>if s.Ee then none else Cq st s.res v
 |some [v,u]=>if s.Ee then Bp st s.res [v,u] else none
 |some [v,u,t]=>if s.Ee then Bp st s.res [v,u,t] else none
 |_=>none
def Me:(τ:Ty)->τ.den->List AV
 | .pair a r,x=> .at (.data a.flat a x.1)::Me r x.2
 |_,_=> []
def dS (st:St):(c:CK)->AC->Option (c.den×List Nat)
 | .Ew τ,a=>if τ.flat||a.settled then (Bm st τ a).map λp=>(p.2,[]) else none
 | .row e te, .own l off len=>match st.at l with
  |some (.arr _ _ e' Lc xs)=>if h:e'=e/\Lc=te then some ((((h.1▸xs:List e.den).drop off).take len),[l]) else none
  |_=>none
 | .row _ _, .Hp=>some ([],[])
 | .Dt e te, .own l off len=>match st.at l with
  |some (.arr _ tr e' Lc xs)=>if h:e'=e/\Lc=te/\(tr||e.flat)=true then some ((((h.1▸xs:List e.den).drop off).take len),[l]) else none
  |some (.Dg e' Lc xs)=>if h:e'=e/\Lc=te then some ((((h.1▸xs:List e.den).drop off).take len),[l]) else none
  |_=>none
 | .Dt _ _, .Hp=>some ([],[])
 | .Ak e te _, .own l off len=>match st.at l with
  |some (.Ak e' Lc rows none _)=>if h:e'=e/\Lc=te/\off=0/\len=rows.length then some ((h.1▸rows:List (List e.den)),[l]) else none
  |_=>none
 |_,_=>none
def Oa (st:St):(cs:List CK)->List AC->Option (CKs.den cs×List Nat)
 | [],[]=>some ((),[])
 |c::r,a::as=>match dS st c a,Oa st r as with
  |some (x,t1),some (y,t2)=>some ((x,y),t1++t2)
  |_,_=>none
 |_,_=>none
def kf (st:St) (l:Nat):(c:CK)->Option c.den
 | .Ew _=>none
 | .row e te=>match st.at l with
  |some (.arr _ _ e' Lc xs)=>if h:e'=e/\Lc=te then some (h.1▸xs) else none
  |_=>none
 | .Dt e te=>match st.at l with
  |some (.Dg e' Lc xs)=>if h:e'=e/\Lc=te then some (h.1▸xs) else none
  |_=>none
 | .part _ _=>none
 | .Ak _ _ _=>none
def Je (st:St):(k:Nat)->(cs:List (Bool×CK))->Option (IOs.den cs)
 |_,[]=>some ()
 |k,(true, .Ew _)::r=>Je st (k+1) r
 |k,(true, .Ak _ _ _)::r=>Je st (k+1) r
 |k,(true, .row e te)::r=>match kf st (Bq true k) (.row e te),Je st (k+1) r with
  |some x,some y=>some (x,y)
  |_,_=>none
 |k,(true, .Dt e te)::r=>match kf st (Bq true k) (.Dt e te),Je st (k+1) r with
  |some x,some y=>some (x,y)
  |_,_=>none
 |k,(true, .part e te)::r=>match kf st (Bq true k) (.row e te),Je st (k+1) r with
  |some x,some y=>some (x,y)
  |_,_=>none
 |k,(false,_)::r=>Je st (k+1) r
def Jx:(k:Nat)->List (Bool×CK)->List Nat
 |_,[]=> []
 |k,(true, .Ew _)::r=>Jx (k+1) r
 |k,(true, .Ak _ _ _)::r=>Jx (k+1) r
 |k,(true,_)::r=>Bq true k::Jx (k+1) r
 |k,(false,_)::r=>Jx (k+1) r
def Lo:Nat:=1900000000
def Ez:(k:Nat)->List (Bool×CK)->List AC->Option (List AC)
 |_,_,[]=>some []
 |k,(true, .row _ _)::r, .own l _ _::as=>if Nat.beq l (Bq true k) then Ez (k+1) r as else none
 |k,(true, .Dt _ _)::r, .own l _ _::as=>if Nat.beq l (Bq true k) then Ez (k+1) r as else none
 |k,(false,_)::r,a::as=>(Ez (k+1) r as).map λl=>a::l
 |_,_,_=>none
def cg (st:St):List AC->List (Bool×CK)->Prop
 | .own l off len::as,(true,_)::r=>(off=0/\match st.at l with
  |some (.arr _ _ _ _ xs)=>len=xs.length
  |some (.Dg _ _ xs)=>len=xs.length
  |_=>False)/\cg st as r
 |_::as,(false,_)::r=>cg st as r
 |_,_=>True
def zh (s:MSpec) (st:St) (l:List AV):Option (List AC×List Nat):=match s.rp with
 |none=>if s.Ee=Nat.blt 1 l.length then (ungroup s.Gd l).map λas=>(as,[]) else none
 |some tid=>match l with
  | [.at (.Dw m i)]=>match st.at m with
   |some (.var Nr vs)=>if Nr=tid/\i=0/\Nat.blt m Aj=true then some (vs,[m]) else none
   |_=>none
  |_=>none
def qt (st:St) (n:Nat) (as:List AC):List (Nat×Nat)->Prop
 | []=>True
 |(k,j)::r=>(match as[j]? with
  |some (.own l _ _)=>match st.at l with
   |some (.Ak _ _ _ _ (some p))=>p.1=Bq false k/\n<=p.2/\Nat.blt k 1000=true
   |_=>False
  |_=>False)/\qt st n as r
def dF (s:MSpec) (fn:Func) (x:Ins.den s.ins) (st:St) (cs:List AC) (P:CKs.den s.outs×IOs.den s.ins->Prop):Prop:=
 match Xd T st fn.results.toList with
 |none=>False
 |some l=>match zh s st l with
  |none=>False
  |some (as,ml)=>match Oa st s.outs (cs++as),Je st 0 s.ins with
   |some (r,ls),some o=>(Sv (ml++ls++Jx 0 s.ins)&&Nat.blt s.ins.length 1000&&Nat.blt s.outs.length 1000&&s.JP)=true/\qt st (s.Cr x) (cs++as) s.keeps/\P (r,o)
   |_,_=>False
def GW (s:MSpec) (fn:Func) (x:Ins.den s.ins) (st:St) (P:CKs.den s.outs×IOs.den s.ins->Prop):Prop:=
 match s.ptr with
 |none=>dF T s fn x st [] P
 |some p=> ∃vs cs,st.at Lo=some (.var p.1 vs)/\vs.length=p.2/\Ez 0 s.ins vs=some cs/\cg st vs s.ins/\dF T s fn x st cs P
def Tc (s:MSpec) (as:List AC):List AV:=match s.ptr with
 |none=>Mi s.Ha as
 |some p=> .at (.Dw Lo 0)::Mi s.Ha (as.drop p.2)
def kz (s:MSpec) (x:Ins.den s.ins):List (Nat×OB):=match s.ptr with
 |none=>Sf 0 s.ins x
 |some p=>Sf 0 s.ins x++ [(Lo, .var p.1 ((Ux 0 s.ins x).take p.2))]
def Sk:List (Bool×CK)->Bool
 | []=>true
 |(true, .Ak _ _ _)::_=>false
 |_::r=>Sk r
def sU (s:MSpec):Bool:=Sk s.ins&&match s.ptr with
 |none=>true
 |some p=>Nat.ble p.2 s.ins.length
def QK (Γ:Env) (s:MSpec) (fn:Func) (x:Ins.den s.ins) (P:CKs.den s.outs×IOs.den s.ins->Prop):Prop:=
 (Nat.blt s.ins.length 1000&&sU s)=true/\ ∃c,fn.body=some c/\Iz T Γ (sy T.marks fn c) c {tmps:=Tc s (Ux 0 s.ins x)++List.replicate (fn.ntmps-(Tc s (Ux 0 s.ins x)).length) .undef,heap:=kz s x}
  (λe st=>(∀id,e≠ .exit id)/\GW T s fn x st P)
def GX (Γ:Env) (s:Spec) (fn:Func) (x:s.arg.den) (P:s.res.den->Prop):Prop:=
 ∃c,fn.body=some c/\Iz T Γ (sy T.marks fn c) c {tmps:=Me s.arg x++List.replicate (fn.ntmps-(Me s.arg x).length) .undef,heap:= []}
  (λe st=>(∀id,e≠ .exit id)/\ ∃fr y,gJ T s fn st=some (fr,y)/\(fr||!s.fresh)=true/\P y)
end Go.Proofs.Ytjbdmibbbpdnnaa
