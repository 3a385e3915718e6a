/-
  Part 3 of the proof that the statement FnExactBoundHistogram holds.
-/
import Derived.Test.YtjbdmibbbpdnnaaGreatCBoundHistogram01
namespace Go.Proofs.YtjbdmibbbpdnnaaGreat
open Go.RowKit
def Dr:Nat->St->List AC->Option (List AC×St)
 |0,st,cs=>if cs.all (·.settled) then some (cs,st) else none
 |n+1,st,cs=>
  match cs.find? (λc=>!c.settled) with
  |none=>some (cs,st)
  |some (.own l _ _)=>match st.at l with
   |some (.arr fr _ e _ xs)=>Dr n (st.freeze l fr e xs) (cs.map (Bb l fr e xs))
   |some (.Dc e _ xs)=>Dr n (st.freeze l false e xs) (cs.map (Bb l false e xs))
   |_=>none
  |some (.Ge l)=>match st.at l with
   |some (.Oo v m)=>Dr n (st.Ep l v m) (cs.map (Dj l v m))
   |_=>none
  |some _=>none
def settle (st:St):AV->Option (AV×St)
 | .at (.own l off len)=>match st.at l with
  |some (.arr fr _ e _ xs)=>some (.at (.data fr (.slice e) ((xs.drop off).take len)),st.freeze l fr e xs)
  |some (.Dc e _ xs)=>some (.at (.data false (.slice e) ((xs.drop off).take len)),st.freeze l false e xs)
  |_=>none
 | .at (.Ge l)=>match st.at l with
  |some (.Oo v m)=>some (.at (.data false (.smap v) m),st.Ep l v m)
  |_=>none
 | .at a=>if a.settled then some (.at a,st) else none
 | .agg cs=>(Dr cs.length st cs).map λp=>(.agg p.1,p.2)
 | .Ur fr τ x=>some (.Ur fr τ x,st)
 | .Iw _=>none
def AC.refs:AC->List Nat
 | .own l _ _| .Dy l _| .Fz l _| .Ge l| .sub l _ _| .Fw l _ _=> [l]
 | .clo _ Bw=>Bw.map (·.1)
 |_=> []
def Sx:List Nat->Bool
 | []=>true
 |a::r=>!r.contains a&&Sx r
def Ty.tree:Ty->Bool
 | .int _| .bool| .str| .unit=>true
 | .slice e=>e.tree
 | .pair a r=>a.tree&&r.tree
 |_=>false
def Lr (st:St):AC->Bool
 | .data _ τ _=>τ.flat
 | .Hj=>true
 | .own l _ _=>match st.at l with
  |some (.arr _ tr e _ _)=>tr||e.flat
  |some (.Dc _ _ _)=>true
  |_=>false
 |_=>false
def Mp (st:St):AV->Bool
 | .at a=>Lr st a
 | .agg cs=>cs.all (Lr st)&&Sx (cs.flatMap AC.refs)
 |_=>false
def Ai:Nat:=1000000000
variable (T:Tab)
def BP (t:TypeId) (τ:Ty) (i:Nat):Option TypeId:=
 if τ.Ac then (List.range 24).findSome? λf=>match T.off t f with
  |some (o,u)=>if o=i then some u else none
  |none=>none
 else some t
def Tab.BX (te:TypeId):Option Ty:=if T.QZ.contains te then (match T.ty te with
 |some (.slice e)=>some e
 |_=>none) else none
def Yh (te:TypeId) (e:Ty):OB:=match T.BX te with
 |some e'=> .Al e' te [] none none
 |none=> .arr (T.oW||e.flat) T.uK e te []
def Np (b:OB) (key l i:Nat) (st:St):St:=
 match st.at l with
 |some (.var _ vs)=>match vs[i]? with
  |some .Hj=>
   let s1:=st.new key b
   match s1.at l with
   |some (.var tid uM)=>s1.Gc l (.var tid (Nt uM i (.own key 0 0)))
   |_=>s1
  |_=>st
 |_=>st
def aA (l:Nat) (t:TypeId) (τ:Ty):Nat->Nat->St->St
 |0,_,st=>st
 |n+1,i,st=>
  aA l t τ n (i+1) (match ((BP T t τ i).bind T.elem).bind λte=>(T.ty te).map λe=>(te,e) with
   |some (te,e)=>Np (Yh T te e) (100000+l*100+i) l i st
   |none=>st)
def Zb (l off:Nat) (t:TypeId) (τ:Ty):Nat->Nat->St->St
 |0,_,st=>st
 |n+1,i,st=>
  Zb l off t τ n (i+1) (match ((BP T t τ i).bind T.elem).bind λte=>(T.ty te).map λe=>(te,e) with
   |some (te,e)=>Np (Yh T te e) (100000+l*100+(off+i)) l (off+i) st
   |none=>st)
def zeroCells:(τ:Ty)->List AC
 | .unit=> []
 | .pair a r=>zeroCells a++zeroCells r
 | .slice _=> [.Hj]
 | .oslice _=> [.Hj]
 | .ptr _=> [.Qa]
 | .optr _=> [.Qa]
 | .clo _ _=> [.undef]
 |τ=> [.data true τ τ.zero]
def cellsOf (τ:Ty):AV->Option (List AC)
 | .agg cs=>if τ.Ac&&cs.length==τ.size then some cs else none
 | .at (.data fr Ja x)=>if Ja=τ then some (Lw fr Ja x) else none
 | .at .undef=>none
 | .at .skip=>none
 | .at a=>if τ.Ac then none else some [a]
 |_=>none
def mkVar (st:St) (l:Nat) (t:TypeId) (τ:Ty) (cs:List AC):Option (AV×St):=
 if Ai<=100000+l*100+cs.length then none else
 let s:=aA T l t τ cs.length 0 (st.new l (.var t (cs.map (Ba l))))
 match s.at l with
 |some (.var _ _)=>some (.at (.Dy l 0),s)
 |_=>none
def Bs {α:Type} (xs:List α) (i:Nat) (ys:List α):List α:=xs.take i++ys++xs.drop (i+ys.length)
def Ny (st:St) (t:TypeId) (p v:AV):Option St:=
 match T.ty t,p with
 |some τ, .at (.Dy l i)=>match st.at l,cellsOf τ v with
  |some (.var tid vs),some cs=>if i+cs.length<=vs.length then some (if τ.Ac&&Nat.blt (100000+l*100+(i+cs.length)) Ai then Zb T l i t τ cs.length 0 (st.Gc l (.var tid (Bs vs i cs))) else st.Gc l (.var tid (Bs vs i cs))) else none
  |_,_=>none
 |some τ, .at (.Fz l j)=>match settle st v with
  |some (v',st')=>match st'.at l,Ct st' τ v' with
   |some (.arr fr tr e tid xs),some (Oy,x)=>if h:τ=e then (if j<xs.length then some (st'.Gc l (.arr (fr&&Oy) (tr&&(Mp st v&&e.tree)) e tid (xs.set j (h▸x)))) else none) else none
   |_,_=>none
  |none=>none
 |_,_=>none
def Bg:Nat:=4294967296
def Ip (st:St) (dst:Nat) (t:TypeId) (x y:Operand):Option (AV×St):=
 match T.elem t with
 |none=>none
 |some te=>match T.ty te,settle st (st.ev y) with
  |some e,some (y',st')=>match Ct st' (.slice e) y' with
   |none=>none
   |some (lS,ys)=>
    let tr2:=e.flat||(Mp st (st.ev y)&&e.tree)
    match st'.ev x with
    | .at .Hj=>if ys.length<=Bg/\dst<Ai then some (.at (.own dst 0 (0+ys.length)),(st'.new dst (.arr (T.oW||e.flat) T.uK e te [])).new dst (.arr ((T.oW||e.flat)&&(lS||e.flat)) (T.uK&&tr2) e te (((([]:List e.den).drop 0).take 0)++ys))) else none
    | .at (.own l off len)=>match st'.at l with
     |some (.arr fr tr e' tid xs)=>if h:e'=e/\tid=te then
       (if len+ys.length<=Bg/\l<Ai then
        some (.at (.own l 0 (len+ys.length)),st'.new l (.arr (fr&&(lS||e.flat)) (tr&&tr2) e te ((((h.1▸xs:List e.den).drop off).take len)++ys))) else none)
      else none
     |_=>none
    |_=>none
  |_,_=>none
def Kf (st:St) (l i m:Nat) (e:Ty) (te tid:TypeId) (rows:List (List e.den)) (kp:Option (Nat×Nat)):St:=
 (st.Gc l (.Al e te rows (some i) kp)).new m (.arr false false e tid (rows.getD i []))
def Lf (st:St) (dst:Nat) (t:TypeId) (x y:Operand):Option (AV×St):=
 match x with
 | .tmp tx=>match st.get tx with
  | .at (.sub l i _)=>match st.at l,T.elem t with
   |some (.Al e te rows none kp),some tid=>if (Nat.blt l Ai&&(Nat.blt dst Ai&&!Nat.beq dst l))=true then Ip T ((Kf st l i dst e te tid rows kp).put (some tx) (.at (.own dst 0 (rows.getD i []).length))) dst t x y else none
   |_,_=>none
  |_=>Ip T st dst t x y
 |_=>Ip T st dst t x y
def gb:Ty->Bool
 | .int _| .bool| .str| .slice _| .oslice _=>true
 |_=>false
def aY:Ty->Bool
 | .unit=>true
 | .pair a r=>aY a&&aY r
 |e=>gb e
def Uz (st:St) (dst:Nat) (t:TypeId) (l c:AV):Option (AV×St):=
 match T.elem t,l,c with
 |some te, .at (.data _ (.int _) n), .at (.data _ (.int _) m)=>match T.ty te with
  |some e=>if SM n (Bg+1)=true/\n=m/\aY e=true/\dst<Ai then some (.at (.own dst 0 n.toNat),st.new dst (.arr (T.oW||e.flat) (T.uK&&e.tree) e te (List.replicate n.toNat e.zero))) else none
  |none=>none
 |_,_,_=>none
def Gs (e:Ty):Nat->List (Nat×Operand)->St->Option (Bool×Bool×List e.den×St)
 |_,[],st=>some (true,true,[],st)
 |i,(j,x)::r,st=>
  if i=j then match settle st (st.ev x) with
   |some (v,st')=>match Ct st' e v with
    |some (fr,y)=>match Gs e (i+1) r st' with
     |some (Oy,MJ,ys,Agj)=>some (fr&&Oy,Mp st (st.ev x)&&e.tree&&MJ,y::ys,Agj)
     |none=>none
    |none=>none
   |none=>none
  else none
def Hl (st:St) (dst:Nat) (t:TypeId) (len:Nat) (parts:Array (Nat×Operand)):Option (AV×St):=
 match T.elem t with
 |none=>none
 |some te=>match T.ty te with
  |none=>none
  |some e=>if parts.size=len/\len<=64/\e.size<=64/\dst<Ai then (match Gs e 0 parts.toList st with
   |some (fr,tr,ys,st')=>some (.at (.own dst 0 len),st'.new dst (.arr ((T.oW||e.flat)&&fr) (T.uK&&tr) e te ys))
   |none=>none) else none
def Nx (st:St) (dst:Nat) (t:TypeId):Option (AV×St):=
 match T.mapOf t with
 |some v=>if dst<Ai then some (.at (.Ge dst),st.new dst (.Oo v λ_=>none)) else none
 |none=>none
def Sp {α:Type} (m:ByteArray->Option α) (k:ByteArray) (x:α):ByteArray->Option α:= λs=>if s=k then some x else m s
def Ex (st:St) (t:TypeId) (m k x:AV):Option St:=
 match T.mapOf t,m,k with
 |some v, .at (.Ge l), .at (.data _ .str s)=>match st.at l,Ct st v x with
  |some (.Oo v' f),some (_,y)=>if h:v'=v/\v.flat=true/\v.Ac=false then some (st.Gc l (.Oo v (Sp (h.1▸f:ByteArray->Option v.den) s y))) else none
  |_,_=>none
 |_,_,_=>none
def cc (st:St) (t t':TypeId) (x y:AV):Option (AV×St):=
 match x,(T.elem t).bind T.ty with
 | .at (.own l off len),some e=>if T.elem t=T.elem t'/\e.flat=true/\e.size=1 then match st.at l,Ct st (.slice e) y with
  |some (.arr fr _ e' tid xs),some (_,ys)=>if h:e'=e/\T.elem t=some tid then
    some (.at (.data true (.int .i64) (min len ys.length:Nat)),st.Gc l (.arr fr false e tid (Bs (h.1▸xs:List e.den) off (ys.take len))))
   else none
  |_,_=>none
  else none
 |_,_=>none
def evalClear (st:St) (t:TypeId) (x:AV):Option St:=
 match x,(T.elem t).bind T.ty with
 | .at (.own l off len),some e=>if e.flat=true/\gb e=true then match st.at l with
  |some (.arr fr _ e' tid xs)=>if h:e'=e/\T.elem t=some tid then
    some (st.Gc l (.arr fr false e tid (Bs (h.1▸xs:List e.den) off (List.replicate len e.zero))))
   else none
  |_=>none
  else none
 |_,_=>none
def Hk (st:St) (t:TypeId):List (Nat×Operand)->List AC->Option (List AC)
 | [],cs=>some cs
 |(i,x)::r,cs=>
  match T.off t i with
  |some (o,u)=>match T.ty u with
   |some ρ=>match cellsOf ρ (st.ev x) with
    |some c=>if o+c.length<=cs.length then Hk st t r (Bs cs o c) else none
    |none=>none
   |none=>none
  |none=>none
def Qj (st:St) (t:TypeId) (parts:Array (Nat×Operand)):Option AV:=
 match T.ty t with
 |none=>none
 |some τ=>if τ.Ac then (Hk T st t parts.toList (zeroCells τ)).map .agg else none
def Bl (io:Bool) (k:Nat):Nat:=if io then 1000000000+k else 500000+k
def Fo (k:Nat):Nat:=600000+k
def KS (dst:Nat) (k:Nat):Nat:=1000000*(dst+1)+k
def Mi:List (Option Nat)->List AC->List AV
 |none::s,a::as=> .at a::Mi s as
 |some n::s,as=> .agg (as.take n)::Mi s (as.drop n)
 |_,_=> []
def Gi:List (Option Nat)->List Value->List Value
 |none::s,u::us=>u::Gi s us
 |some n::s,us=> .agg (us.take n).toArray::Gi s (us.drop n)
 |_,_=> []
def ungroup:List (Option Nat)->List AV->Option (List AC)
 | [],[]=>some []
 |none::s, .at a::as=>(ungroup s as).map λr=>a::r
 |some n::s, .agg cs::as=>if cs.length=n then (ungroup s as).map λr=>cs++r else none
 |some n::s, .at (.data fr τ x)::as=>if τ.Ac=true/\(Lw fr τ x).length=n then (ungroup s as).map λr=>Lw fr τ x++r else none
 |_,_=>none
def dY (l:Nat):(c:CK)->c.den->Option OB
 | .Ee _,_=>none
 | .row e te,xs=>some (.arr false false e te xs)
 | .Dq e te,xs=>some (.Dc e te xs)
 | .part e te,x=>some (.arr false false e te x.1)
 | .Al e te kp,xs=>some (.Al e te xs none (if kp then some (l,List.length xs) else none))
def Adk (l:Nat):(c:CK)->c.den->AC
 | .Ee τ,x=> .data τ.flat τ x
 | .row _ _,xs=> .own l 0 (List.length xs)
 | .Dq _ _,xs=> .own l 0 (List.length xs)
 | .part _ _,x=> .own l x.2.1 x.2.2
 | .Al _ _ _,xs=> .own l 0 (List.length xs)
def c6 {α:Type} (l:Nat):Option α->List (Nat×α)->List (Nat×α)
 |none,r=>r
 |some b,r=>(l,b)::r
def Sd:(k:Nat)->(cs:List (Bool×CK))->Ins.den cs->List (Nat×OB)
 |_,[],_=> []
 |k,p::r,x=>c6 (Bl p.1 k) (dY (Bl p.1 k) p.2 x.1) (Sd (k+1) r x.2)
def Vf:(k:Nat)->(cs:List (Bool×CK))->Ins.den cs->List AC
 |_,[],_=> []
 |k,p::r,x=>Adk (Bl p.1 k) p.2 x.1::Vf (k+1) r x.2
inductive Loc where
 |row (l:Nat)
 |sub (l i c:Nat)
 |view (l:Nat)
 deriving DecidableEq
def Loc.Pz:Loc->Nat
 | .row l=>l
 | .sub l _ _=>l
 | .view l=>l
def Loc.reads:Loc->Bool
 | .view _=>true
 |_=>false
def Vy (st:St) (ls:List Nat):Bool:=ls.all λl=>match st.at l with|some (.var _ vs)=>vs.all (·.settled)|_=>false
def views (k:Nat) (ls:List Nat):List (Nat×Loc):=ls.map λl=>(Bl false k, .view l)
def Hd (st:St) (io:Bool) (k:Nat):(c:CK)->AC->Option (c.den×List (Nat×Loc))
 | .Ee τ, .own l off len=>(Bn st τ (.own l off len)).map λp=>(p.2,[(Bl false k, .view l)])
 | .Ee τ, .clo g Bw=>if Vy st (Bw.map (·.1))&&!τ.Ac then (Fq st τ (.clo g Bw)).map λp=>(p.2,views k (Bw.map (·.1))) else none
 | .Ee τ, .Dy l i=>if Vy st [l]&&!τ.Ac then (Fq st τ (.Dy l i)).map λp=>(p.2,views k [l]) else none
 | .Ee τ, .sub l i c=>(Bn st τ (.sub l i c)).map λp=>(p.2,[(Bl false k, .view l)])
 | .Ee τ,a=>if τ.flat||a.settled then (Bn st τ a).map λp=>(p.2,[]) else none
 | .row e te, .own l off len=>match st.at l with
  |some (.arr _ _ e' Lb xs)=>if h:e'=e/\Lb=te/\off=0/\len=xs.length then some ((h.1▸xs:List e.den),[(Bl io k, .row l)]) else none
  |_=>none
 | .row e _, .sub l i c=>match st.at l with
  |some (.Dc e' _ xs)=>if h:e'= .slice e/\e.flat=true/\io=true/\c=0 then xs[i]?.map λy=>((h.1▸y:(Ty.slice e).den),[(Bl io k, .sub l i c)]) else none
  |_=>none
 | .row _ _, .Hj=>some ([],[])
 | .Dq e te, .own l off len=>match st.at l with
  |some (.Dc e' Lb xs)=>if h:e'=e/\Lb=te/\off=0/\len=xs.length then some ((h.1▸xs:List e.den),[(Bl io k, .row l)]) else none
  |_=>none
 | .Dq e _, .sub l i c=>match st.at l with
  |some (.Dc e' _ xs)=>if h:e'= .slice e/\io=true/\c=0 then xs[i]?.map λy=>((h.1▸y:(Ty.slice e).den),[(Bl io k, .sub l i c)]) else none
  |_=>none
 | .Dq _ _, .Hj=>some ([],[])
 | .part e te, .own l off len=>match st.at l with
  |some (.arr _ _ e' Lb xs)=>if h:e'=e/\Lb=te/\e.flat=true/\io=true then some (((h.1▸xs:List e.den),off,len),[(Bl io k, .row l)]) else none
  |_=>none
 | .Al e te _, .own l off len=>match st.at l with
  |some (.Al e' Lb rows none _)=>if h:e'=e/\Lb=te/\off=0/\len=rows.length/\io=false then some ((h.1▸rows:List (List e.den)),[(Bl io k, .row l)]) else none
  |_=>none
 |_,_=>none
def aU (st:St):(k:Nat)->(cs:List (Bool×CK))->List AC->Option (Ins.den cs×List (Nat×Loc))
 |_,[],[]=>some ((),[])
 |k,p::r,a::as=>match Hd st p.1 k p.2 a,aU st (k+1) r as with
  |some (x,t1),some (y,t2)=>some ((x,y),t1++t2)
  |_,_=>none
 |_,_,_=>none
def Wc (st:St):(c:CK)->c.den->AC->Option St
 | .row e _,ys, .own l _ len=>match st.at l with
  |some (.arr fr tr e' te xs)=>if h:e=e'/\List.length ys=len/\xs.length=len then some (st.Gc l (.arr (fr&&e'.flat) (tr&&e'.flat) e' te (h.1▸ys))) else none
  |_=>none
 | .Dq e _,ys, .own l _ len=>match st.at l with
  |some (.Dc e' te xs)=>if h:e=e'/\List.length ys=len/\xs.length=len then some (st.Gc l (.Dc e' te (h.1▸ys))) else none
  |_=>none
 | .row e _,ys, .sub l i _=>match st.at l with
  |some (.Dc e' te xs)=>if h: .slice e=e' then (match xs[i]? with
   |some y=>if List.length ys=List.length (h▸y:(Ty.slice e).den) then some (st.Gc l (.Dc e' te (xs.set i (h▸(ys:(Ty.slice e).den))))) else none
   |none=>none) else none
  |_=>none
 | .Dq e _,ys, .sub l i _=>match st.at l with
  |some (.Dc e' te xs)=>if h: .slice e=e' then (match xs[i]? with
   |some y=>if List.length ys=List.length (h▸y:(Ty.slice e).den) then some (st.Gc l (.Dc e' te (xs.set i (h▸(ys:(Ty.slice e).den))))) else none
   |none=>none) else none
  |_=>none
 |_,_, .Hj=>some st
 |_,_,_=>none
def zJ (st:St) (e:Ty) (ys:List e.den):AC->Option St
 | .own l _ _=>match st.at l with
  |some (.arr fr tr e' te xs)=>if h:e=e'/\List.length ys=xs.length then some (st.Gc l (.arr fr tr e' te (h.1▸ys))) else none
  |_=>none
 |_=>none
def Eh:(cs:List (Bool×CK))->IOs.den cs->List AC->St->Option St
 | [],_,_,st=>some st
 |(true, .Ee _)::r,x,_::as,st=>Eh r x as st
 |(true, .row e te)::r,x,a::as,st=>match Wc st (.row e te) x.1 a with
  |some st'=>Eh r x.2 as st'
  |none=>none
 |(true, .Dq e te)::r,x,a::as,st=>match Wc st (.Dq e te) x.1 a with
  |some st'=>Eh r x.2 as st'
  |none=>none
 |(true, .part e _)::r,x,a::as,st=>match zJ st e x.1 a with
  |some st'=>Eh r x.2 as st'
  |none=>none
 |(true, .Al _ _ _)::r,x,_::as,st=>Eh r x as st
 |(false,_)::r,x,_::as,st=>Eh r x as st
 |_,_,_,_=>none
def Ax (dead part:List Nat) (c:AC):AC:=if c.refs.any (λl=>dead.contains l) then .undef else match c with
 | .sub l i c=>if part.contains l then .undef else .sub l i c
 | .Fw l i c=>if part.contains l then .undef else .Fw l i c
 |c=>c
def Qh:List (Nat×OB)->List Nat->List (Nat×OB)
 | [],_=> []
 |(k,b)::r,dead=>if dead.contains k then Qh r dead else (k,b)::Qh r dead
def St.Wk (st:St) (dead part:List Nat):St:=let s:=st.Gj (Ax dead part); {s with heap:=Qh s.heap dead}
def Mt (st:St) (l j m:Nat) (e:Ty) (te:TypeId) (rows:List (List e.den)) (xs:List e.den) (kp:Option (Nat×Nat)):St:=
 (st.Wk [m] [l]).Gc l (.Al e te (rows.set j xs) none kp)
def Vj (j:Nat):Option (Nat×Nat)->Option (Nat×Nat)
 |none=>none
 |some p=>some (p.1,min p.2 j)
def Vc (st:St) (t:TypeId) (p v:AV):Option St:=
 match T.ty t,p with
 |some τ, .at (.Fw l i j)=>match settle st v with
  |some (v',st')=>match st'.at l,Ct st' τ v' with
   |some (.Al e te rows none kp),some (_,x)=>if h:τ=e then some (st'.Gc l (.Al e te (rows.set i ((rows.getD i []).set j (h▸x))) none kp)) else none
   |_,_=>none
  |none=>none
 |some τ, .at (.Fz l j)=>match st.at l,v with
  |some (.Al e te rows out kp), .at (.own m off len)=>match st.at m with
   |some (.arr _ _ e' _ xs)=>if h:e'=e/\(Nat.blt l Ai&&(!Nat.beq m l&&!τ.Ac))=true/\off=0/\len=xs.length/\(out=none\/out=some j) then some (Mt st l j m e te rows (h.1▸xs) (Vj j kp)) else none
   |_=>none
  |_,_=>none
 |_,_=>none
def BY (st:St):AV->Bool
 | .at (.Fw _ _ _)=>true
 | .at (.Fz l _)=>match st.at l with
  |some (.Al _ _ _ _ _)=>true
  |_=>false
 |_=>false
def Jx (st:St) (t:TypeId) (p v:AV):Option St:=match BY st p with
 |true=>Vc T st t p v
 |false=>Ny T st t p v
def Kx (st:St) (k m:Nat) (b:OB):St:=let s:=st.Wk [m,k] []; {s with heap:=Jc s.heap k b}
def Yp (t:TypeId):Option (TypeId×Ty):=(T.elem t).bind λte=>(T.BX te).map λe=>(te,e)
def Qm (st:St) (dst:Nat) (t:TypeId) (l c:AV):Option (AV×St):=
 match Yp T t with
 |none=>Uz T st dst t l c
 |some (te,e)=>match l,c with
  | .at (.data _ (.int _) n), .at (.data _ (.int _) m)=>if SM n (Bg+1)=true/\n=m/\dst<Ai then some (.at (.own dst 0 n.toNat),Kx st dst dst (.Al e te (List.replicate n.toNat []) none none)) else none
  |_,_=>none
def Eu (st:St) (dst:Nat) (t:TypeId) (len:Nat) (parts:Array (Nat×Operand)):Option (AV×St):=
 match Yp T t with
 |none=>Hl T st dst t len parts
 |some (te,e)=>match parts.toList with
  | [(0,x)]=>match st.ev x with
   | .at (.own m off ln)=>match st.at m with
    |some (.arr _ _ e' _ xs)=>if h:e'=e/\(Nat.beq len 1&&(Nat.blt dst Ai&&Nat.blt m Ai))=true/\off=0/\ln=xs.length then some (.at (.own dst 0 1),Kx st dst m (.Al e te [h.1▸xs] none none)) else none
    |_=>none
   |_=>none
  |_=>none
def Lg (st:St) (dst:Nat) (t:TypeId) (x y:Operand):Option (AV×St):=
 match Yp T t with
 |none=>Lf T st dst t x y
 |some (te,e)=>match st.ev x,st.ev y with
  | .at (.own l off len), .at (.own m KT nq)=>match st.at l,st.at m with
   |some (.Al e1 te1 A none _),some (.Al e2 qa B none _)=>
    if h:(e1=e/\e2=e)/\(decide (te1=te)&&decide (qa=te)&&(Nat.blt l Ai&&(Nat.blt m Ai&&!Nat.beq m l)))=true/\(off=0/\len=A.length)/\(KT=0/\nq=B.length)/\0<B.length/\A.length+B.length<=Bg then
     some (.at (.own l 0 (A.length+B.length)),Kx st l m (.Al e te ((h.1.1▸A:List (List e.den))++(h.1.2▸B:List (List e.den))) none none))
    else none
   |_,_=>none
  |_,_=>none
def pA (fr:Bool):(c:CK)->c.den->Option OB
 | .Ee _,_=>none
 | .row e te,xs=>some (.arr (fr&&e.flat) false e te xs)
 | .Dq e te,xs=>some (.Dc e te xs)
 | .part e te,x=>some (.arr (fr&&e.flat) false e te x.1)
 | .Al e te _,xs=>some (.Al e te xs none none)
def wa (H:List (Nat×OB)) (l:Nat):Option OB->List (Nat×OB)
 |some b=>Jc H l b
 |none=>H
def Qw (fr:Bool) (key:Nat->Nat):(k:Nat)->(cs:List CK)->CKs.den cs->List (Nat×OB)->List (Nat×OB)
 |_,[],_,H=>H
 |k,c::r,x,H=>Qw fr key (k+1) r x.2 (wa H (key k) (pA fr c x.1))
def Vp (key:Nat->Nat):(k:Nat)->(cs:List CK)->CKs.den cs->List AC
 |_,[],_=> []
 |k,c::r,x=>(match c,x.1 with
  | .Ee τ,y=> .data τ.flat τ y
  | .row _ _,xs=> .own (key k) 0 (List.length xs)
  | .Dq _ _,xs=> .own (key k) 0 (List.length xs)
  | .Al _ _ _,xs=> .own (key k) 0 (List.length xs)
  | .part _ _,_=> .undef)::Vp key (k+1) r x.2
def Sy:List (Option Nat)->List AC->List (Bool×List AC)
 |none::s,a::as=>(false,[a])::Sy s as
 |some n::s,as=>(true,as.take n)::Sy s (as.drop n)
 |_,_=> []
def Abe (Ej:Bool) (sh:List (Option Nat)) (as:List AC):Option AV:=
 if Ej then some (.Iw (Sy sh as)) else match Mi sh as with
  | [v]=>some v
  | []=>some .undef
  |_=>none
def gz (tks:List (Nat×Loc)):List Nat:=(tks.filter λt=>Nat.blt t.1 Ai&&!t.2.reads).map λt=>t.2.Pz
def whole (tks:List (Nat×Loc)):List Nat:=tks.flatMap λt=>match t.2 with| .row l=> [l]|_=> []
def uq (tks:List (Nat×Loc)):List Nat:=(tks.filter λt=>t.2.reads).map λt=>t.2.Pz
def wq (ins:List (Bool×CK)) (te:TypeId) (used:List Nat):List (Nat×Loc)->Option Nat
 | []=>none
 |(k, .row l)::r=>if Nat.blt k Ai&&(!used.contains l&&(match ins[k-500000]? with
   |some (false, .row _ Lb)=>decide (Lb=te)
   |some (false, .Dq _ Lb)=>decide (Lb=te)
   |some (false, .Al _ Lb _)=>decide (Lb=te)
   |_=>false)) then some l else wq ins te used r
 |_::r=>wq ins te used r
def zd (ins:List (Bool×CK)) (tks:List (Nat×Loc)) (d:Nat):(k:Nat)->(used:List Nat)->List CK->List Nat
 |_,_,[]=> []
 |k,used,c::r=>match (match c with
   | .row _ te=>wq ins te used tks
   | .Dq _ te=>wq ins te used tks
   | .Al _ te _=>wq ins te used tks
   |_=>none) with
  |some l=>l::zd ins tks d (k+1) (l::used) r
  |none=>KS d k::zd ins tks d (k+1) used r
def gr (s:MSpec) (tks:List (Nat×Loc)) (d:Nat):List Nat:=zd s.ins tks d 0 [] s.outs
def Bv (ks:List Nat) (j:Nat):Nat:=match ks[j]? with
 |some l=>l
 |none=>Ai+j
def sS (ks:List Nat) (n:Nat):Bool:=Nat.beq ks.length n&&(Sx ks&&ks.all λl=>Nat.blt l Ai)
def BT (st:St) (l:List Nat):Bool:=l.all λk=>match st.at k with|some (.arr fr _ _ _ _)=>fr|_=>false
def CS (st:St) (s:MSpec) (args:List AV):Option (List Nat×List AC×List AV):=
 match s.ptr with
 |none=>some ([],[],args)
 |some p=>match args with
  | .at (.Dy l i)::rest=>match st.at l with
   |some (.var tid vs)=>if tid=p.1/\vs.length=p.2/\i=0 then some ([l],vs,rest) else none
   |_=>none
  |_=>none
def Pc:List (Bool×CK)->List AC->Bool
 |(true, .row _ _)::r, .own _ _ _::as=>Pc r as
 |(true, .Dq _ _)::r, .own _ _ _::as=>Pc r as
 |(true,_)::_,_::_=>false
 |(false,_)::r,_::as=>Pc r as
 |_,as=>as.isEmpty
def bq {α:Type} :List (Bool×CK)->List α->List α->List α
 |(true,_)::r,v::vs,as=>v::bq r vs as
 |(false,_)::r,_::vs,a::as=>a::bq r vs as
 |_,vs,_=>vs
def nT:List (Bool×CK)->Nat->Nat
 |(true,_)::r,n+1=>nT r n
 |(false,_)::r,n+1=>nT r n+1
 |_,_=>0
def MSpec.Si (s:MSpec):Nat:=match s.ptr with|none=>0|some p=>nT s.ins p.2
def ly (ins:List (Bool×CK)) (as:List AC) (pl:List Nat) (st:St):St:=
 match pl with
 | []=>st
 |l::_=>match st.at l with
  |some (.var tid vs)=>st.Gc l (.var tid (bq ins vs as))
  |_=>st
def Mq (d:Nat):Nat:=KS d 999
def fT (s:MSpec) (d:Nat):List Nat:=match s.rp with|none=> []|some _=> [Mq d]
def Lu (s:MSpec) (tks:List (Nat×Loc)) (d:Nat):List Nat:=gr s tks d++fT s d
def gX (H:List (Nat×OB)) (l:Nat):Bool:=match Ad H l with
 |some (.Al _ _ _ _ _)=>true
 |_=>false
def Vi (H:List (Nat×OB)) (ks:List Nat) (tks:List (Nat×Loc)):List (Nat×Nat)->List Nat
 | []=> []
 |(k,j)::r=>match tks.find? (λt=>Nat.beq t.1 (Bl false k)),ks[j]? with
  |some (_, .row l),some l'=>if Nat.beq l' l&&gX H l then l::Vi H ks tks r else Vi H ks tks r
  |_,_=>Vi H ks tks r
def lU (H:List (Nat×OB)) (l:Nat):Nat:=match Ad H l with
 |some (.Al _ _ rows _ _)=>rows.length
 |_=>0
def Xy (H:List (Nat×OB)) (ls:List Nat) (n:Nat):List AV->Bool
 | []=>true
 | .at (.sub l i _)::r=>(!ls.contains l||(Nat.blt i n&&Nat.blt i (lU H l)))&&Xy H ls n r
 |_::r=>Xy H ls n r
def Gy (ls:List Nat):List AV->List AV->List AV
 | .at (.sub l i c)::r,v::vs=>(if ls.contains l then .at (.sub l i c) else v)::Gy ls r vs
 |_::r,v::vs=>v::Gy ls r vs
 |_,vs=>vs
def VG:Option OB->Option (Nat×Nat)
 |some (.Al _ _ _ _ kp)=>kp
 |_=>none
def OB.xj (b:OB) (kp:Option (Nat×Nat)):OB:=match b with
 | .Al e te rows out _=> .Al e te rows out kp
 |b=>b
def Xo (H0:List (Nat×OB)) (ls:List Nat) (n:Nat):List (Nat×OB)->List (Nat×OB)
 | []=> []
 |(l,b)::r=>(l,if ls.contains l then b.xj (Vj n (VG (Ad H0 l))) else b)::Xo H0 ls n r
def fK (bw st:St) (ls:List Nat) (n:Nat):St:=match ls with
 | []=>st
 |_=> {tmps:=Gy ls bw.tmps st.tmps,heap:=Xo bw.heap ls n st.heap}
def PT (s:MSpec) (d:Nat) (as:List AC):Option AV:=match s.rp with
 |none=>Abe s.Ej s.Gf as
 |some _=>some (.at (.Dy (Mq d) 0))
def fh (st st1:St) (d:Nat) (s:MSpec) (pl:List Nat) (tks:List (Nat×Loc)) (r:CKs.den s.outs):St:=
 let ks:=Lu s tks d
 let key:=Bv ks
 let st2:=ly s.ins (Vp key 0 s.outs r) pl (st1.Wk (gz tks++ks++(if s.flat then [] else uq tks)) (whole tks))
 {st2 with heap:=Qw (BT st (gz tks)) key 0 s.outs r (wa st2.heap (Mq d) (s.rp.map λtid=> .var tid ((Vp key 0 s.outs r).drop s.Si)))}
def Qk (st:St) (dst:Option Nat) (s:MSpec) (args:List AV):Option (AV×St):=
 match CS st s args with
 |none=>none
 |some (pl,vs,rest)=>match ungroup s.Hb rest with
 |none=>none
 |some iU=>match aU st 0 s.ins (vs++iU) with
  |none=>none
  |some (x,tks)=>if Sx (tks.map λt=>t.2.Pz)&&sS (Lu s tks (dst.getD 0)) (s.outs.length+(fT s (dst.getD 0)).length)&&Nat.blt s.outs.length 1000&&Nat.blt s.ins.length 1000&&(Pc s.ins vs&&pl.all λl=>!((tks.map λt=>t.2.Pz)++Lu s tks (dst.getD 0)).contains l) then match s.fn x with
   |none=>none
   |some (r,o)=>match Eh s.ins o (vs++iU) st with
    |none=>none
    |some st1=>match PT s (dst.getD 0) ((Vp (Bv (Lu s tks (dst.getD 0))) 0 s.outs r).drop s.Si) with
     |none=>none
     |some v=>if Xy (fh st st1 (dst.getD 0) s pl tks r).heap (Vi st.heap (Lu s tks (dst.getD 0)) tks s.keeps) (s.Cr x) st.tmps=true then
       some (v,fK st (fh st st1 (dst.getD 0) s pl tks r) (Vi st.heap (Lu s tks (dst.getD 0)) tks s.keeps) (s.Cr x)) else none
   else none
def Jm:List Operand->St->Option St
 | [],st=>some st
 |x::r,st=>match settle st (st.ev x) with
  |some (_,st')=>Jm r st'
  |none=>none
def au (s:Spec) (args:List AV):Bool:=!(s.fresh||s.res.flat||args.all (·.settled))
def evalOp (Γ:Env) (st:St) (o:Oper):Option (AV×St):=
 match o.op with
 | .assign x=>match st.ev x,o.dst,(T.elem o.type).bind λte=>(T.ty te).map λe=>(te,e) with
  | .at .Hj,some d,some (te,e)=>if d<Ai then some (.at (.own d 0 0),st.new d (.arr (T.oW||e.flat) T.uK e te [])) else none
  |v,_,_=>some (v,st)
 | .alloc t=>match o.dst,T.ty t with
  |some d,some τ=>mkVar T st d t τ (zeroCells τ)
  |_,_=>none
 | .box t x=>match o.dst,T.ty t with
  |some d,some τ=>match cellsOf τ (st.ev x) with
   |some cs=>mkVar T st d t τ cs
   |none=>none
  |_,_=>none
 | .store t p x=>(Jx T st t (st.ev p) (st.ev x)).map λs=>(.undef,s)
 | .makeSlice t l c=>match o.dst with
  |some d=>Qm T st d t (st.ev l) (st.ev c)
  |none=>none
 | .makeMap t none=>match o.dst with
  |some d=>Nx T st d t
  |none=>none
 | .mapUpdate t m k x=>(Ex T st t (st.ev m) (st.ev k) (st.ev x)).map λs=>(.undef,s)
 | .insert t m k x=>(Ex T st t (st.ev m) (st.ev k) (st.ev x)).map λs=>(.undef,s)
 | .buildSlice t len parts=>match o.dst with
  |some d=>Eu T st d t len parts
  |none=>none
 | .build t parts=>(Qj T st t parts).map λv=>(v,st)
 | .call {callee:= .builtin .append,args,argTypes} =>match o.dst,args.toList,argTypes.toList with
  |some d,[x,y],[t,t']=>if t=t' then Lg T st d t x y else none
  |_,_,_=>none
 | .call {callee:= .builtin .copy,args,argTypes} =>match args.toList,argTypes.toList with
  | [x,y],[t,t']=>cc T st t t' (st.ev x) (st.ev y)
  |_,_=>none
 | .call {callee:= .builtin .clear,args,argTypes} =>match args.toList,argTypes.toList with
  | [x],[t]=>(evalClear T st t (st.ev x)).map λs=>(.undef,s)
  |_,_=>none
 | .call {callee:= .value (.func f),args, .. } =>match Γ f with
  |some (.m s)=>Qk st o.dst s (args.toList.map st.ev)
  |some (.q s)=>if au s (args.toList.map st.ev) then (match Jm args.toList st with
   |some st1=>(Ch T Γ st1 o).map λv=>(v,st1)
   |none=>none) else (Ch T Γ st o).map λv=>(v,st)
  |_=>(Ch T Γ st o).map λv=>(v,st)
 |_=>(Ch T Γ st o).map λv=>(v,st)
def az (e:Ty):Nat->List (Nat×Operand)->St->Option (Bool×List e.den)
 |_,[],_=>some (true,[])
 |i,(j,x)::r,st=>
  if i=j/\(st.ev x).settled=true then match Ct st e (st.ev x),az e (i+1) r st with
   |some (fr,y),some (Oy,ys)=>some (fr&&Oy,y::ys)
   |_,_=>none
  else none
def Uy (st:St) (t:TypeId) (len:Nat) (parts:Array (Nat×Operand)):Option AV:=
 match T.elem t with
 |none=>none
 |some te=>match T.ty te with
  |none=>none
  |some e=>if parts.size=len/\len<=64/\e.size<=64 then (az e 0 parts.toList st).map λp=> .at (.data p.1 (.slice e) p.2) else none
def Ru (Γ:Env) (st:St) (o:Oper):Option AV:=
 match o.op with
 | .buildSlice t len parts=>Uy T st t len parts
 | .build t parts=>Qj T st t parts
 |_=>Ch T Γ st o
def KJ (q:Bool) (Γ:Env) (o:Oper):Bool:=
 match o.op with
 | .buildSlice _ _ _| .build _ _=>!q
 | .alloc _| .box _ _| .store _ _ _| .makeSlice _ _ _| .makeMap _ _| .mapUpdate _ _ _ _| .insert _ _ _ _=>true
 | .assign (.const _)=>true
 | .call {callee:= .builtin .append, .. } =>true
 | .call {callee:= .builtin .copy, .. } =>true
 | .call {callee:= .builtin .clear, .. } =>true
 | .call {callee:= .value (.func f), .. } =>match Γ f with
  |some (.m _)=>true
  |_=>false
 |_=>false
def Ci (Γ:Env) (ops:Array Oper) (st:St) (o:Oper):Option St:=
 match o.guard with
 |none=>(evalOp T Γ st o).map λr=>r.2.put o.dst r.1
 |some (j,want)=>match Qf st ((ops[j]?).bind (·.dst)) with
  |some (some b)=>if b==want then (evalOp T Γ st o).map λr=>r.2.put o.dst r.1 else some (st.put o.dst (.at .skip))
  |some none=>some (st.put o.dst (.at .skip))
  |none=>none
def Tp (Γ:Env) (ops:Array Oper):List Oper->St->Option St
 | [],st=>some st
 |o::r,st=>match Ci T Γ ops st o with
  |some st'=>Tp Γ ops r st'
  |none=>none
def Fk (q:Bool) (Γ:Env) (ops:Array Oper):List Nat:=
 (List.range ops.size).foldl (init:= []) λacc i=>match ops[i]? with
  |some o=>if KJ q Γ o||o.after.any (λe=>Region.binds .any e&&acc.contains e.on) then acc++ [i] else acc
  |none=>acc
def Wm (q:Bool) (Γ:Env) (ops:Array Oper):List Nat:=(List.range ops.size).filter λi=>!(Fk q Γ ops).contains i
def gW (ops:Array Oper) (hd tl:List Nat) (i:Nat):Bool:=
 match ops[i]? with
 |some o=>(match o.op,o.guard with
  | .move (.tmp _),none=>true
  |_,_=>false)&&!((tl.take 1++hd).any λj=>decide (i<j)&&Region.waitsFor .any ops j i)
 |none=>false
def Ox (q:Bool) (Γ:Env) (ops:Array Oper):List Nat:=(Wm q Γ ops).filter λi=>gW ops (Wm q Γ ops) (Fk q Γ ops) i
def Oz (q:Bool) (Γ:Env) (ops:Array Oper):List Nat:=(Wm q Γ ops).filter λi=>!gW ops (Wm q Γ ops) (Fk q Γ ops) i
def dG (q:Bool) (Γ:Env) (ops:Array Oper):List Nat:=Ox q Γ ops++Oz q Γ ops
def KB (ops:Array Oper) (i:Nat):Bool:=match ops[i]? with
 |some o=>(match o.op,o.guard with
  | .extract _ _,none=>true
  |_,_=>false)
 |none=>false
def iz (ops:Array Oper):List Nat->Array Bool->Bool
 | [],Ab=>(Region.ready .any ops Ab).isEmpty
 |k::r,Ab=>(decide (Region.ready .any ops Ab= [k])||(KB ops k&&((Region.ready .any ops Ab).contains k&&Region.free .any ops Ab k)))&&iz ops r (Ab.setIfInBounds k true)
def jk (ops:Array Oper) (tl:List Nat):List Nat->Array Bool->Bool
 | [],Ab=>iz ops tl Ab
 |k::r,Ab=>(Region.ready .any ops Ab).contains k&&Region.free .any ops Ab k&&jk ops tl r (Ab.setIfInBounds k true)
def o4 (ops:Array Oper) (hd:List Nat):List Nat->Bool
 | []=>true
 |f::r=>(hd.all λi=>(f::hd).any λj=>decide (i<j)&&Region.waitsFor .any ops j i)&&r.all λt=>(f::r).any λk=>Region.waitsFor .any ops t k
def gJ (ops:Array Oper) (tl hd:List Nat):List Nat->Array Bool->Bool
 | [],Ab=>jk ops tl hd Ab
 |k::r,Ab=>(Region.ready .any ops Ab).contains k&&Region.free .any ops Ab k&&gJ ops tl hd r (Ab.setIfInBounds k true)
def dP (q:Bool) (Γ:Env) (ops:Array Oper):Bool:=
 Region.noSelect ops&&((Ox q Γ ops).length+((Oz q Γ ops).length+(Fk q Γ ops).length)==ops.size)&&gJ ops (Fk q Γ ops) (Oz q Γ ops) (Ox q Γ ops) (Array.replicate ops.size false)&&o4 ops (Oz q Γ ops) (Fk q Γ ops)
def bJ (Γ:Env) (ops:Array Oper) (st:St) (o:Oper):Option AV:=
 match o.guard with
 |none=>Ru T Γ st o
 |some (j,want)=>match Qf st ((ops[j]?).bind (·.dst)) with
  |some (some b)=>if b==want then Ru T Γ st o else some (.at .skip)
  |some none=>some (.at .skip)
  |none=>none
def Ef (Γ:Env) (ops:Array Oper):List Nat->St->Option St
 | [],st=>some st
 |i::r,st=>match ops[i]? with
  |none=>none
  |some o=>match bJ T Γ ops st o with
   |some v=>Ef Γ ops r (st.put o.dst v)
   |none=>none
def Jd (Γ:Env) (ops:Array Oper):List Nat->St->Option St
 | [],st=>some st
 |i::r,st=>match ops[i]? with
  |none=>none
  |some o=>match Ci T Γ ops st o with
   |some st'=>Jd Γ ops r st'
   |none=>none
def Lh (Γ:Env) (ops:Array Oper) (draw:Bool) (st:St):Option St:=
 if draw then (if dP false Γ ops then (match Ef T Γ ops (dG false Γ ops) st with
  |some st'=>Jd T Γ ops (Fk false Γ ops) st'
  |none=>none) else if dP true Γ ops then (match Ef T Γ ops (dG true Γ ops) st with
  |some st'=>Jd T Γ ops (Fk true Γ ops) st'
  |none=>none) else none)
 else Tp T Γ ops ops.toList st
def sN (ops:Array Oper) (i:Nat):Bool:=match ops[i]? with
 |some o=>(match o.op,o.guard with
  | .move (.tmp _),none=>true
  |_,_=>false)
 |none=>false
def dM (ops:Array Oper) (i:Nat):Bool:=match ops[i]? with
 |some o=>(match o.op,o.guard with
  | .move (.tmp _),none=>true
  | .nilCheck _,none=>true
  | .fieldAddr _ _ _,none=>true
  |_,_=>false)
 |none=>false
def Abm (q:Bool) (ops:Array Oper) (i:Nat):Bool:=match q with
 |true=>dM ops i
 |false=>sN ops i
def Ff (q:Bool) (ops:Array Oper):List Nat->Array Bool->List Nat
 | [],_=> []
 |i::r,Ab=>if Abm q ops i&&((Region.ready .any ops Ab).contains i&&Region.free .any ops Ab i) then i::Ff q ops r (Ab.setIfInBounds i true) else Ff q ops r Ab
def KP (q:Bool) (ops:Array Oper):List Nat:=Ff q ops (List.range ops.size) (Array.replicate ops.size false)
def dC (q:Bool) (ops:Array Oper):Bool:=Nat.ble (ops.size-(KP q ops).length) 8
def Kb (ops:Array Oper):List Nat:=KP (!dC false ops) ops
def Ek:List Nat->Array Bool->Array Bool
 | [],Ab=>Ab
 |i::r,Ab=>Ek r (Ab.setIfInBounds i true)
def anyS (Γ:Env) (ops:Array Oper) (K:St->Prop):Nat->Array Bool->St->Prop
 |0,Ab,st=>Region.ready .any ops Ab= []/\K st
 |f+1,Ab,st=>Region.ready .any ops Ab≠ []/\ ∀i∈Region.ready .any ops Ab,∃o st',ops[i]?=some o/\Ci T Γ ops st o=some st'/\anyS Γ ops K f (Ab.setIfInBounds i true) st'
def rZ (Γ:Env) (ops:Array Oper) (draw:Bool) (st:St) (K:St->Prop):Prop:=
 (∃st',Lh T Γ ops draw st=some st'/\K st')\/
 (draw=true/\Region.noSelect ops=true/\ ∃bw,Ef T Γ ops (Kb ops) st=some bw/\anyS T Γ ops K (ops.size-(Kb ops).length) (Ek (Kb ops) (Array.replicate ops.size false)) bw)
def tF (Γ:Env) (draw:Bool):Env:= λf=>match Γ f with
 |some (.b s m)=>some (if draw then .q s else .m m)
 |r=>r
inductive Gw where
 |normal
 |exit (id:Nat)
 |ret
def Ga (live:List Nat):Nat->List AV->List AV
 |_,[]=> []
 |i,v::r=>(if live.contains i then v else .undef)::Ga live (i+1) r
def AV.refs:AV->List Nat
 | .at a=>a.refs
 | .agg cs=>cs.flatMap AC.refs
 | .Ur _ _ _=> []
 | .Iw l=>l.flatMap λp=>p.2.flatMap AC.refs
def OB.refs:OB->List Nat
 | .var _ vs=>vs.flatMap AC.refs
 |_=> []
def Yn:List Nat->St->St
 | [],st=>st
 |l::r,st=>Yn r (st.forget l)
def jD (l k m:Nat):Nat:=if m=l then k else m
def Oc (l k:Nat):AC->AC
 | .own m off len=> .own (jD l k m) off len
 | .Dy m i=> .Dy (jD l k m) i
 | .Fz m i=> .Fz (jD l k m) i
 | .clo f Bw=> .clo f (Bw.map λp=>(jD l k p.1,p.2))
 | .Ge m=> .Ge (jD l k m)
 | .sub m i c=> .sub (jD l k m) i c
 | .Fw m i c=> .Fw (jD l k m) i c
 |a=>a
def St.rename (l k:Nat) (st:St):St:=
 match Ad st.heap k,Ad st.heap l with
 |none,some b=>if (Nat.blt l Ai&&Nat.blt k Ai)=true then
   (let s:=st.Gj (Oc l k); {s with heap:=Jc (Te s.heap l) k (b.map (Oc l k))}) else st
 |_,_=>st
def Hq:Nat->Nat->St->St
 |0,_,st=>st
 |n+1,t,st=>Hq n (t+1) (match st.get t with
  | .at (.own l _ _)=>match Ad st.heap l with
   |some (.arr _ _ _ _ _)=>if (st.tmps.take t).any (λv=>v.refs.contains l) then st else st.rename l (700000+t)
   |_=>st
  |_=>st)
def Wt:Nat:=1000000007
def OB.Ez (flat all one:Bool):OB->OB
 | .arr fr tr e tid xs=> .arr (fr&&!(all||(one||(flat&&e.flat)))) (tr&&!all) e tid xs
 |b=>b
def Sr:Nat:=1000000009
def Sq:Nat:=1100000000
def oU:Nat:=1200000000
def St.Ez (live:List Nat) (st:St):St:= {st with heap:=st.heap.map λp=>(p.1,p.2.Ez (live.contains Sr) (live.contains (Sq+p.1)) (live.contains (oU+p.1)))}
def Ln:Nat:=900000000
def Vq (t:Nat) (st:St):St:=match st.get t with
 | .at (.own l off len)=>match Ad st.heap l with
  |some (.arr fr tr e tid xs)=>if Nat.blt l Ai=true then (st.new l (.arr fr tr e tid ((xs.drop off).take len))).put (some t) (.at (.own l 0 ((xs.drop off).take len).length)) else st
  |_=>st
 |_=>st
def Jl (live:List Nat):Nat->Nat->St->St
 |0,_,st=>st
 |n+1,t,st=>Jl live n (t+1) (if live.contains (Ln+t) then Vq t st else st)
def St.clean (live:List Nat) (st:St):St:=
 let s:St:= {st with tmps:=Ga live 0 st.tmps}
 let r1:=s.tmps.flatMap AV.refs
 let r2:=r1++(s.heap.filter λp=>r1.contains p.1).flatMap λp=>p.2.refs
 let s2:=Yn ((s.heap.map (·.1)).filter λl=>!r2.contains l&&Nat.blt l Ai) s
 let s2:=if live.any (λt=>Nat.ble Ln t&&Nat.blt t Wt) then Jl live s2.tmps.length 0 s2 else s2
 let s3:=if live.contains Wt then Hq s2.tmps.length 0 s2 else s2
 if live.any (λt=>Nat.ble Sr t) then s3.Ez live else s3
def Ce:Code->Nat
 | .region id _ _=>id
 | .seq a _=>Ce a
 | .cond _ a _=>Ce a
 | .block _ c=>Ce c
 | .loop c=>1000+Ce c
 |_=>0
def TB (a b:List Nat):List Nat:=a++b.filter λt=>!a.contains t
def sX:List Oper->List Nat->List Nat
 | [],out=>out
 |o::r,out=>TB (o.op.operands.toList.filterMap λ | .tmp t=>some t|_=>none) (match o.dst with|some d=>(sX r out).filter (·!=d)|none=>sX r out)
def yF:List (Nat×List Nat)->Nat->List Nat
 | [],_=> []
 |(k,l)::r,id=>if k=id then l else yF r id
def kB:Code->List (Nat×List Nat)->List Nat->List Nat->List Nat×List (Nat×List Nat)
 | .region _ ops _,_,_,out=>(sX ops.toList out,[])
 | .seq a b,env,ret,out=>let rb:=kB b env ret out;let ra:=kB a env ret rb.1;(ra.1,ra.2++rb.2)
 | .cond c a b,env,ret,out=>let ra:=kB a env ret out;let rb:=kB b env ret out
  (TB (match c with| .tmp t=> [t]|_=> []) (TB ra.1 rb.1),ra.2++rb.2)
 | .block id c,env,ret,out=>kB c ((id,out)::env) ret out
 | .exit id,env,_,_=>(yF env id,[])
 | .ret,_,ret,_=>(ret,[])
 | .loop c,env,ret,_=>let l:=(kB c env ret []).1;let r:=kB c env ret l;(l,(Ce c,l)::r.2)
 |_,_,_,out=>(out,[])
def sY:List ResultVar->List Nat
 | []=> []
 | .tmp t::r=>t::sY r
 | .cell p _::r=>p::sY r
def sW (marks:List Nat) (fn:Func) (c:Code):Nat->List Nat:=let ret:=sY fn.results.toList;let g:=yF (kB c [] ret ret).2;match marks with
 | []=>g
 |m=> λid=>g id++m
def zt (K:St->Prop) (Q:Gw->St->Prop):Gw->St->Prop
 | .normal,s=>K s
 |e,s=>Q e s
def qL (id:Nat) (Q:Gw->St->Prop):Gw->St->Prop
 | .exit EF,s=>if EF=id then Q .normal s else Q (.exit EF) s
 |e,s=>Q e s
inductive Jb (Γ:Env) (live:Nat->List Nat):Code->St->(Gw->St->Prop)->Prop where
 |skip {st:St} {Q:Gw->St->Prop} :Q .normal st->Jb Γ live .skip st Q
 |label {l:Nat} {st:St} {Q:Gw->St->Prop} :Q .normal st->Jb Γ live (.label l) st Q
 |exit {id:Nat} {st:St} {Q:Gw->St->Prop} :Q (.exit id) st->Jb Γ live (.exit id) st Q
 |ret {st:St} {Q:Gw->St->Prop} :Q .ret st->Jb Γ live .ret st Q
 |region {id:Nat} {ops:Array Oper} {draw:Bool} {st:St} {Q:Gw->St->Prop} :rZ T (tF Γ draw) ops draw st (Q .normal)->Jb Γ live (.region id ops draw) st Q
 |seq {x y:Code} {st:St} {Q:Gw->St->Prop} (Q1:Gw->St->Prop):Jb Γ live x st Q1->(∀s,Q1 .normal s->Jb Γ live y s Q)->(∀e s,e≠ .normal->Q1 e s->Q e s)->Jb Γ live (.seq x y) st Q
 |cond {c:Operand} {x y:Code} {st:St} {fr t:Bool} {Q:Gw->St->Prop} :st.ev c= .at (.data fr .bool t)->(t=true->Jb Γ live x st Q)->(t=false->Jb Γ live y st Q)->Jb Γ live (.cond c x y) st Q
 |block {id:Nat} {c:Code} {st:St} {Q:Gw->St->Prop} (Q1:Gw->St->Prop):Jb Γ live c st Q1->(∀e s,Q1 e s->qL id Q e s)->Jb Γ live (.block id c) st Q
 |loop {c:Code} {st:St} {Q:Gw->St->Prop} (Q1:Gw->St->Prop):Jb Γ live c (st.clean (live (Ce c))) Q1->(∀s,Q1 .normal s->Jb Γ live (.loop c) s Q)->(∀e s,e≠ .normal->Q1 e s->Q e s)->Jb Γ live (.loop c) st Q
def Xs (st:St):List ResultVar->Option (List AV)
 | []=>some []
 | .tmp t::r=>(Xs st r).map λl=>st.get t::l
 | .cell p t::r=>match Kg T st t (st.get p),Xs st r with
  |some v,some l=>some (v::l)
  |_,_=>none
def gH (s:Spec) (fn:Func) (st:St):Option (Bool×s.res.den):=
 match Xs T st fn.results.toList with
 |some [v]=>if s.Ej then none else Ct st s.res v
 |some [v,u]=>if s.Ej then Bt st s.res [v,u] else none
 |some [v,u,t]=>if s.Ej then Bt st s.res [v,u,t] else none
 |_=>none
def Mf:(τ:Ty)->τ.den->List AV
 | .pair a r,x=> .at (.data a.flat a x.1)::Mf r x.2
 |_,_=> []
def eb (st:St):(c:CK)->AC->Option (c.den×List Nat)
 | .Ee τ,a=>if τ.flat||a.settled then (Bn st τ a).map λp=>(p.2,[]) else none
 | .row e te, .own l off len=>match st.at l with
  |some (.arr _ _ e' Lb xs)=>if h:e'=e/\Lb=te then some ((((h.1▸xs:List e.den).drop off).take len),[l]) else none
  |_=>none
 | .row _ _, .Hj=>some ([],[])
 | .Dq e te, .own l off len=>match st.at l with
  |some (.arr _ tr e' Lb xs)=>if h:e'=e/\Lb=te/\(tr||e.flat)=true then some ((((h.1▸xs:List e.den).drop off).take len),[l]) else none
  |some (.Dc e' Lb xs)=>if h:e'=e/\Lb=te then some ((((h.1▸xs:List e.den).drop off).take len),[l]) else none
  |_=>none
 | .Dq _ _, .Hj=>some ([],[])
 | .Al e te _, .own l off len=>match st.at l with
  |some (.Al e' Lb rows none _)=>if h:e'=e/\Lb=te/\off=0/\len=rows.length then some ((h.1▸rows:List (List e.den)),[l]) else none
  |_=>none
 |_,_=>none
def Ob (st:St):(cs:List CK)->List AC->Option (CKs.den cs×List Nat)
 | [],[]=>some ((),[])
 |c::r,a::as=>match eb st c a,Ob st r as with
  |some (x,t1),some (y,t2)=>some ((x,y),t1++t2)
  |_,_=>none
 |_,_=>none
def kb (st:St) (l:Nat):(c:CK)->Option c.den
 | .Ee _=>none
 | .row e te=>match st.at l with
  |some (.arr _ _ e' Lb xs)=>if h:e'=e/\Lb=te then some (h.1▸xs) else none
  |_=>none
 | .Dq e te=>match st.at l with
  |some (.Dc e' Lb xs)=>if h:e'=e/\Lb=te then some (h.1▸xs) else none
  |_=>none
 | .part _ _=>none
 | .Al _ _ _=>none
def Jg (st:St):(k:Nat)->(cs:List (Bool×CK))->Option (IOs.den cs)
 |_,[]=>some ()
 |k,(true, .Ee _)::r=>Jg st (k+1) r
 |k,(true, .Al _ _ _)::r=>Jg st (k+1) r
 |k,(true, .row e te)::r=>match kb st (Bl true k) (.row e te),Jg st (k+1) r with
  |some x,some y=>some (x,y)
  |_,_=>none
 |k,(true, .Dq e te)::r=>match kb st (Bl true k) (.Dq e te),Jg st (k+1) r with
  |some x,some y=>some (x,y)
  |_,_=>none
 |k,(true, .part e te)::r=>match kb st (Bl true k) (.row e te),Jg st (k+1) r with
  |some x,some y=>some (x,y)
  |_,_=>none
 |k,(false,_)::r=>Jg st (k+1) r
def Jz:(k:Nat)->List (Bool×CK)->List Nat
 |_,[]=> []
 |k,(true, .Ee _)::r=>Jz (k+1) r
 |k,(true, .Al _ _ _)::r=>Jz (k+1) r
 |k,(true,_)::r=>Bl true k::Jz (k+1) r
 |k,(false,_)::r=>Jz (k+1) r
def Ls:Nat:=1900000000
def Fb:(k:Nat)->List (Bool×CK)->List AC->Option (List AC)
 |_,_,[]=>some []
 |k,(true, .row _ _)::r, .own l _ _::as=>if Nat.beq l (Bl true k) then Fb (k+1) r as else none
 |k,(true, .Dq _ _)::r, .own l _ _::as=>if Nat.beq l (Bl true k) then Fb (k+1) r as else none
 |k,(false,_)::r,a::as=>(Fb (k+1) r as).map λl=>a::l
 |_,_,_=>none
def cA (st:St):List AC->List (Bool×CK)->Prop
 | .own l off len::as,(true,_)::r=>(off=0/\match st.at l with
  |some (.arr _ _ _ _ xs)=>len=xs.length
  |some (.Dc _ _ xs)=>len=xs.length
  |_=>False)/\cA st as r
 |_::as,(false,_)::r=>cA st as r
 |_,_=>True
def zP (s:MSpec) (st:St) (l:List AV):Option (List AC×List Nat):=match s.rp with
 |none=>if s.Ej=Nat.blt 1 l.length then (ungroup s.Gf l).map λas=>(as,[]) else none
 |some tid=>match l with
  | [.at (.Dy m i)]=>match st.at m with
   |some (.var Nv vs)=>if Nv=tid/\i=0/\Nat.blt m Ai=true then some (vs,[m]) else none
   |_=>none
  |_=>none
def qQ (st:St) (n:Nat) (as:List AC):List (Nat×Nat)->Prop
 | []=>True
 |(k,j)::r=>(match as[j]? with
  |some (.own l _ _)=>match st.at l with
   |some (.Al _ _ _ _ (some p))=>p.1=Bl false k/\n<=p.2/\Nat.blt k 1000=true
   |_=>False
  |_=>False)/\qQ st n as r
def dR (s:MSpec) (fn:Func) (x:Ins.den s.ins) (st:St) (cs:List AC) (P:CKs.den s.outs×IOs.den s.ins->Prop):Prop:=
 match Xs T st fn.results.toList with
 |none=>False
 |some l=>match zP s st l with
  |none=>False
  |some (as,ml)=>match Ob st s.outs (cs++as),Jg st 0 s.ins with
   |some (r,ls),some o=>(Sx (ml++ls++Jz 0 s.ins)&&Nat.blt s.ins.length 1000&&Nat.blt s.outs.length 1000&&s.KO)=true/\qQ st (s.Cr x) (cs++as) s.keeps/\P (r,o)
   |_,_=>False
def IB (s:MSpec) (fn:Func) (x:Ins.den s.ins) (st:St) (P:CKs.den s.outs×IOs.den s.ins->Prop):Prop:=
 match s.ptr with
 |none=>dR T s fn x st [] P
 |some p=> ∃vs cs,st.at Ls=some (.var p.1 vs)/\vs.length=p.2/\Fb 0 s.ins vs=some cs/\cA st vs s.ins/\dR T s fn x st cs P
def Tf (s:MSpec) (as:List AC):List AV:=match s.ptr with
 |none=>Mi s.Hb as
 |some p=> .at (.Dy Ls 0)::Mi s.Hb (as.drop p.2)
def ky (s:MSpec) (x:Ins.den s.ins):List (Nat×OB):=match s.ptr with
 |none=>Sd 0 s.ins x
 |some p=>Sd 0 s.ins x++ [(Ls, .var p.1 ((Vf 0 s.ins x).take p.2))]
def Sk:List (Bool×CK)->Bool
 | []=>true
 |(true, .Al _ _ _)::_=>false
 |_::r=>Sk r
def tB (s:MSpec):Bool:=Sk s.ins&&match s.ptr with
 |none=>true
 |some p=>Nat.ble p.2 s.ins.length
def QS (Γ:Env) (s:MSpec) (fn:Func) (x:Ins.den s.ins) (P:CKs.den s.outs×IOs.den s.ins->Prop):Prop:=
 (Nat.blt s.ins.length 1000&&tB s)=true/\ ∃c,fn.body=some c/\Jb T Γ (sW T.marks fn c) c {tmps:=Tf s (Vf 0 s.ins x)++List.replicate (fn.ntmps-(Tf s (Vf 0 s.ins x)).length) .undef,heap:=ky s x}
  (λe st=>(∀id,e≠ .exit id)/\IB T s fn x st P)
def IC (Γ:Env) (s:Spec) (fn:Func) (x:s.arg.den) (P:s.res.den->Prop):Prop:=
 ∃c,fn.body=some c/\Jb T Γ (sW T.marks fn c) c {tmps:=Mf s.arg x++List.replicate (fn.ntmps-(Mf s.arg x).length) .undef,heap:= []}
  (λe st=>(∀id,e≠ .exit id)/\ ∃fr y,gH T s fn st=some (fr,y)/\(fr||!s.fresh)=true/\P y)
end Go.Proofs.YtjbdmibbbpdnnaaGreat
