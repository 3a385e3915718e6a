/-
  Part 3 of the proof that the statement FnExactSolveTwoPhase holds.
-/
import Derived.Test.YtjbdmibbbpdnnaaCSolveTwoPhase01
namespace Go.Proofs.Ytjbdmibbbpdnnaa
open Go.RowKit
def Du:Nat->St->List AC->Option (List AC×St)
 |0,st,cs=>if cs.all (·.settled) then some (cs,st) else none
 |n+1,st,cs=>
  match cs.find? (λc=>!c.settled) with
  |none=>some (cs,st)
  |some (.own l _ _)=>match st.at l with
   |some (.arr fr _ e _ xs)=>Du n (st.freeze l fr e xs) (cs.map (Bf l fr e xs))
   |some (.Dl e _ xs)=>Du n (st.freeze l false e xs) (cs.map (Bf l false e xs))
   |_=>none
  |some (.Gt l)=>match st.at l with
   |some (.Pp v m)=>Du n (st.Es l v m) (cs.map (Dp l v m))
   |_=>none
  |some _=>none
def settle (st:St):AV->Option (AV×St)
 | .at (.own l off len)=>match st.at l with
  |some (.arr fr _ e _ xs)=>some (.at (.data fr (.slice e) ((xs.drop off).take len)),st.freeze l fr e xs)
  |some (.Dl e _ xs)=>some (.at (.data false (.slice e) ((xs.drop off).take len)),st.freeze l false e xs)
  |_=>none
 | .at (.Gt l)=>match st.at l with
  |some (.Pp v m)=>some (.at (.data false (.smap v) m),st.Es l v m)
  |_=>none
 | .at a=>if a.settled then some (.at a,st) else none
 | .agg cs=>(Du cs.length st cs).map λp=>(.agg p.1,p.2)
 | .Vn fr τ x=>some (.Vn fr τ x,st)
 | .Jq _=>none
def AC.refs:AC->List Nat
 | .own l _ _| .Eb l _| .Gh l _| .Gt l| .sub l _ _| .Gf l _ _=> [l]
 | .clo _ Cd=>Cd.map (·.1)
 |_=> []
def Ub:List Nat->Bool
 | []=>true
 |a::r=>!r.contains a&&Ub r
def Ty.tree:Ty->Bool
 | .int _| .bool| .str| .unit=>true
 | .slice e=>e.tree
 | .pair a r=>a.tree&&r.tree
 |_=>false
def Ml (st:St):AC->Bool
 | .data _ τ _=>τ.flat
 | .Ie=>true
 | .own l _ _=>match st.at l with
  |some (.arr _ tr e _ _)=>tr||e.flat
  |some (.Dl _ _ _)=>true
  |_=>false
 |_=>false
def Nr (st:St):AV->Bool
 | .at a=>Ml st a
 | .agg cs=>cs.all (Ml st)&&Ub (cs.flatMap AC.refs)
 |_=>false
def Am:Nat:=1000000000
variable (T:Tab)
def DH (t:TypeId) (τ:Ty) (i:Nat):Option TypeId:=
 if τ.Ac then (List.range 24).findSome? λf=>match T.off t f with
  |some (o,u)=>if o=i then some u else none
  |none=>none
 else some t
def Tab.DY (te:TypeId):Option Ty:=if T.UO.contains te then (match T.ty te with
 |some (.slice e)=>some e
 |_=>none) else none
def Ze (te:TypeId) (e:Ty):OB:=match T.DY te with
 |some e'=> .Ao e' te [] none none
 |none=> .arr (T.nM||e.flat) T.vo e te []
def Oq (b:OB) (key l i:Nat) (st:St):St:=
 match st.at l with
 |some (.var _ vs)=>match vs[i]? with
  |some .Ie=>
   let s1:=st.new key b
   match s1.at l with
   |some (.var tid vR)=>s1.Gk l (.var tid (Ou vR i (.own key 0 0)))
   |_=>s1
  |_=>st
 |_=>st
def ba (l:Nat) (t:TypeId) (τ:Ty):Nat->Nat->St->St
 |0,_,st=>st
 |n+1,i,st=>
  ba l t τ n (i+1) (match ((DH T t τ i).bind T.elem).bind λte=>(T.ty te).map λe=>(te,e) with
   |some (te,e)=>Oq (Ze T te e) (100000+l*100+i) l i st
   |none=>st)
def a5 (l off:Nat) (t:TypeId) (τ:Ty):Nat->Nat->St->St
 |0,_,st=>st
 |n+1,i,st=>
  a5 l off t τ n (i+1) (match ((DH T t τ i).bind T.elem).bind λte=>(T.ty te).map λe=>(te,e) with
   |some (te,e)=>Oq (Ze T te e) (100000+l*100+(off+i)) l (off+i) st
   |none=>st)
def zeroCells:(τ:Ty)->List AC
 | .unit=> []
 | .pair a r=>zeroCells a++zeroCells r
 | .slice _=> [.Ie]
 | .oslice _=> [.Ie]
 | .ptr _=> [.Rr]
 | .optr _=> [.Rr]
 | .clo _ _=> [.undef]
 |τ=> [.data true τ τ.zero]
def cellsOf (τ:Ty):AV->Option (List AC)
 | .agg cs=>if τ.Ac&&cs.length==τ.size then some cs else none
 | .at (.data fr Js x)=>if Js=τ then some (Sq fr Js x) else none
 | .at .undef=>none
 | .at .skip=>none
 | .at a=>if τ.Ac then none else some [a]
 |_=>none
def mkVar (st:St) (l:Nat) (t:TypeId) (τ:Ty) (cs:List AC):Option (AV×St):=
 if Am<=100000+l*100+cs.length then none else
 let s:=ba T l t τ cs.length 0 (st.new l (.var t (cs.map (Be l))))
 match s.at l with
 |some (.var _ _)=>some (.at (.Eb l 0),s)
 |_=>none
def Bp {α:Type} (xs:List α) (i:Nat) (ys:List α):List α:=xs.take i++ys++xs.drop (i+ys.length)
def Oz (st:St) (t:TypeId) (p v:AV):Option St:=
 match T.ty t,p with
 |some τ, .at (.Eb l i)=>match st.at l,cellsOf τ v with
  |some (.var tid vs),some cs=>if i+cs.length<=vs.length then some (if τ.Ac&&Nat.blt (100000+l*100+(i+cs.length)) Am then a5 T l i t τ cs.length 0 (st.Gk l (.var tid (Bp vs i cs))) else st.Gk l (.var tid (Bp vs i cs))) else none
  |_,_=>none
 |some τ, .at (.Gh l j)=>match settle st v with
  |some (v',st')=>match st'.at l,Cy st' τ v' with
   |some (.arr fr tr e tid xs),some (Py,x)=>if h:τ=e then (if j<xs.length then some (st'.Gk l (.arr (fr&&Py) (tr&&(Nr st v&&e.tree)) e tid (xs.set j (h▸x)))) else none) else none
   |_,_=>none
  |none=>none
 |_,_=>none
def Bm:Nat:=4294967296
def Jk (st:St) (dst:Nat) (t:TypeId) (x y:Operand):Option (AV×St):=
 match T.elem t with
 |none=>none
 |some te=>match T.ty te,settle st (st.ev y) with
  |some e,some (y',st')=>match Cy st' (.slice e) y' with
   |none=>none
   |some (mK,ys)=>
    let tr2:=e.flat||(Nr st (st.ev y)&&e.tree)
    match st'.ev x with
    | .at .Ie=>if ys.length<=Bm/\dst<Am then some (.at (.own dst 0 (0+ys.length)),(st'.new dst (.arr (T.nM||e.flat) T.vo e te [])).new dst (.arr ((T.nM||e.flat)&&(mK||e.flat)) (T.vo&&tr2) e te (((([]:List e.den).drop 0).take 0)++ys))) else none
    | .at (.own l off len)=>match st'.at l with
     |some (.arr fr tr e' tid xs)=>if h:e'=e/\tid=te then
       (if len+ys.length<=Bm/\l<Am then
        some (.at (.own l 0 (len+ys.length)),st'.new l (.arr (fr&&(mK||e.flat)) (tr&&tr2) e te ((((h.1▸xs:List e.den).drop off).take len)++ys))) else none)
      else none
     |_=>none
    |_=>none
  |_,_=>none
def Kt (st:St) (l i m:Nat) (e:Ty) (te tid:TypeId) (rows:List (List e.den)) (kp:Option (Nat×Nat)):St:=
 (st.Gk l (.Ao e te rows (some i) kp)).new m (.arr false false e tid (rows.getD i []))
def Lz (st:St) (dst:Nat) (t:TypeId) (x y:Operand):Option (AV×St):=
 match x with
 | .tmp tx=>match st.get tx with
  | .at (.sub l i _)=>match st.at l,T.elem t with
   |some (.Ao e te rows none kp),some tid=>if (Nat.blt l Am&&(Nat.blt dst Am&&!Nat.beq dst l))=true then Jk T ((Kt st l i dst e te tid rows kp).put (some tx) (.at (.own dst 0 (rows.getD i []).length))) dst t x y else none
   |_,_=>none
  |_=>Jk T st dst t x y
 |_=>Jk T st dst t x y
def ie:Ty->Bool
 | .int _| .bool| .str| .slice _| .oslice _=>true
 |_=>false
def bE:Ty->Bool
 | .unit=>true
 | .pair a r=>bE a&&bE r
 |e=>ie e
def Vw (st:St) (dst:Nat) (t:TypeId) (l c:AV):Option (AV×St):=
 match T.elem t,l,c with
 |some te, .at (.data _ (.int _) n), .at (.data _ (.int _) m)=>match T.ty te with
  |some e=>if WB n (Bm+1)=true/\n=m/\bE e=true/\dst<Am then some (.at (.own dst 0 n.toNat),st.new dst (.arr (T.nM||e.flat) (T.vo&&e.tree) e te (List.replicate n.toNat e.zero))) else none
  |none=>none
 |_,_,_=>none
def Hc (e:Ty):Nat->List (Nat×Operand)->St->Option (Bool×Bool×List e.den×St)
 |_,[],st=>some (true,true,[],st)
 |i,(j,x)::r,st=>
  if i=j then match settle st (st.ev x) with
   |some (v,st')=>match Cy st' e v with
    |some (fr,y)=>match Hc e (i+1) r st' with
     |some (Py,PK,ys,Ak0)=>some (fr&&Py,Nr st (st.ev x)&&e.tree&&PK,y::ys,Ak0)
     |none=>none
    |none=>none
   |none=>none
  else none
def Hz (st:St) (dst:Nat) (t:TypeId) (len:Nat) (parts:Array (Nat×Operand)):Option (AV×St):=
 match T.elem t with
 |none=>none
 |some te=>match T.ty te with
  |none=>none
  |some e=>if parts.size=len/\len<=64/\e.size<=64/\dst<Am then (match Hc e 0 parts.toList st with
   |some (fr,tr,ys,st')=>some (.at (.own dst 0 len),st'.new dst (.arr ((T.nM||e.flat)&&fr) (T.vo&&tr) e te ys))
   |none=>none) else none
def Oy (st:St) (dst:Nat) (t:TypeId):Option (AV×St):=
 match T.mapOf t with
 |some v=>if dst<Am then some (.at (.Gt dst),st.new dst (.Pp v λ_=>none)) else none
 |none=>none
def bB {α:Type} (m:ByteArray->Option α) (k:ByteArray) (x:α):ByteArray->Option α:= λs=>if s=k then some x else m s
def Fc (st:St) (t:TypeId) (m k x:AV):Option St:=
 match T.mapOf t,m,k with
 |some v, .at (.Gt l), .at (.data _ .str s)=>match st.at l,Cy st v x with
  |some (.Pp v' f),some (_,y)=>if h:v'=v/\v.flat=true/\v.Ac=false then some (st.Gk l (.Pp v (bB (h.1▸f:ByteArray->Option v.den) s y))) else none
  |_,_=>none
 |_,_,_=>none
def cN (st:St) (t t':TypeId) (x y:AV):Option (AV×St):=
 match x,(T.elem t).bind T.ty with
 | .at (.own l off len),some e=>if T.elem t=T.elem t'/\e.flat=true/\e.size=1 then match st.at l,Cy st (.slice e) y with
  |some (.arr fr _ e' tid xs),some (_,ys)=>if h:e'=e/\T.elem t=some tid then
    some (.at (.data true (.int .i64) (min len ys.length:Nat)),st.Gk l (.arr fr false e tid (Bp (h.1▸xs:List e.den) off (ys.take len))))
   else none
  |_,_=>none
  else none
 |_,_=>none
def evalClear (st:St) (t:TypeId) (x:AV):Option St:=
 match x,(T.elem t).bind T.ty with
 | .at (.own l off len),some e=>if e.flat=true/\ie e=true then match st.at l with
  |some (.arr fr _ e' tid xs)=>if h:e'=e/\T.elem t=some tid then
    some (st.Gk l (.arr fr false e tid (Bp (h.1▸xs:List e.den) off (List.replicate len e.zero))))
   else none
  |_=>none
  else none
 |_,_=>none
def Hy (st:St) (t:TypeId):List (Nat×Operand)->List AC->Option (List AC)
 | [],cs=>some cs
 |(i,x)::r,cs=>
  match T.off t i with
  |some (o,u)=>match T.ty u with
   |some ρ=>match cellsOf ρ (st.ev x) with
    |some c=>if o+c.length<=cs.length then Hy st t r (Bp cs o c) else none
    |none=>none
   |none=>none
  |none=>none
def Rh (st:St) (t:TypeId) (parts:Array (Nat×Operand)):Option AV:=
 match T.ty t with
 |none=>none
 |some τ=>if τ.Ac then (Hy T st t parts.toList (zeroCells τ)).map .agg else none
def Cb (io:Bool) (k:Nat):Nat:=if io then 1000000000+k else 500000+k
def Gc (k:Nat):Nat:=600000+k
def NI (dst:Nat) (k:Nat):Nat:=1000000*(dst+1)+k
def Nj:List (Option Nat)->List AC->List AV
 |none::s,a::as=> .at a::Nj s as
 |some n::s,as=> .agg (as.take n)::Nj s (as.drop n)
 |_,_=> []
def Hd:List (Option Nat)->List Value->List Value
 |none::s,u::us=>u::Hd s us
 |some n::s,us=> .agg (us.take n).toArray::Hd s (us.drop n)
 |_,_=> []
def ungroup:List (Option Nat)->List AV->Option (List AC)
 | [],[]=>some []
 |none::s, .at a::as=>(ungroup s as).map λr=>a::r
 |some n::s, .agg cs::as=>if cs.length=n then (ungroup s as).map λr=>cs++r else none
 |_,_=>none
def eT (l:Nat):(c:CK)->c.den->Option OB
 | .Dy _,_=>none
 | .row e te,xs=>some (.arr false false e te xs)
 | .Dx e te,xs=>some (.Dl e te xs)
 | .part e te,x=>some (.arr false false e te x.1)
 | .Ao e te kp,xs=>some (.Ao e te xs none (if kp then some (l,List.length xs) else none))
def Agp (l:Nat):(c:CK)->c.den->AC
 | .Dy τ,x=> .data τ.flat τ x
 | .row _ _,xs=> .own l 0 (List.length xs)
 | .Dx _ _,xs=> .own l 0 (List.length xs)
 | .part _ _,x=> .own l x.2.1 x.2.2
 | .Ao _ _ _,xs=> .own l 0 (List.length xs)
def cH {α:Type} (l:Nat):Option α->List (Nat×α)->List (Nat×α)
 |none,r=>r
 |some b,r=>(l,b)::r
def Tj:(k:Nat)->(cs:List (Bool×CK))->Ins.den cs->List (Nat×OB)
 |_,[],_=> []
 |k,p::r,x=>cH (Cb p.1 k) (eT (Cb p.1 k) p.2 x.1) (Tj (k+1) r x.2)
def Wc:(k:Nat)->(cs:List (Bool×CK))->Ins.den cs->List AC
 |_,[],_=> []
 |k,p::r,x=>Agp (Cb p.1 k) p.2 x.1::Wc (k+1) r x.2
inductive Loc where
 |row (l:Nat)
 |sub (l i c:Nat)
 |view (l:Nat)
 deriving DecidableEq
def Loc.Qx:Loc->Nat
 | .row l=>l
 | .sub l _ _=>l
 | .view l=>l
def Loc.reads:Loc->Bool
 | .view _=>true
 |_=>false
def Ww (st:St) (ls:List Nat):Bool:=ls.all λl=>match st.at l with|some (.var _ vs)=>vs.all (·.settled)|_=>false
def views (k:Nat) (ls:List Nat):List (Nat×Loc):=ls.map λl=>(Cb false k, .view l)
def Hs (st:St) (io:Bool) (k:Nat):(c:CK)->AC->Option (c.den×List (Nat×Loc))
 | .Dy τ, .own l off len=>(Bv st τ (.own l off len)).map λp=>(p.2,[(Cb false k, .view l)])
 | .Dy τ, .clo g Cd=>if Ww st (Cd.map (·.1))&&!τ.Ac then (Fy st τ (.clo g Cd)).map λp=>(p.2,views k (Cd.map (·.1))) else none
 | .Dy τ, .Eb l i=>if Ww st [l]&&!τ.Ac then (Fy st τ (.Eb l i)).map λp=>(p.2,views k [l]) else none
 | .Dy τ, .sub l i c=>(Bv st τ (.sub l i c)).map λp=>(p.2,[(Cb false k, .view l)])
 | .Dy τ,a=>if τ.flat||a.settled then (Bv st τ a).map λp=>(p.2,[]) else none
 | .row e te, .own l off len=>match st.at l with
  |some (.arr _ _ e' Lw xs)=>if h:e'=e/\Lw=te/\off=0/\len=xs.length then some ((h.1▸xs:List e.den),[(Cb io k, .row l)]) else none
  |_=>none
 | .row e _, .sub l i c=>match st.at l with
  |some (.Dl e' _ xs)=>if h:e'= .slice e/\e.flat=true/\io=true/\c=0 then xs[i]?.map λy=>((h.1▸y:(Ty.slice e).den),[(Cb io k, .sub l i c)]) else none
  |_=>none
 | .row _ _, .Ie=>some ([],[])
 | .Dx e te, .own l off len=>match st.at l with
  |some (.Dl e' Lw xs)=>if h:e'=e/\Lw=te/\off=0/\len=xs.length then some ((h.1▸xs:List e.den),[(Cb io k, .row l)]) else none
  |_=>none
 | .Dx e _, .sub l i c=>match st.at l with
  |some (.Dl e' _ xs)=>if h:e'= .slice e/\io=true/\c=0 then xs[i]?.map λy=>((h.1▸y:(Ty.slice e).den),[(Cb io k, .sub l i c)]) else none
  |_=>none
 | .Dx _ _, .Ie=>some ([],[])
 | .part e te, .own l off len=>match st.at l with
  |some (.arr _ _ e' Lw xs)=>if h:e'=e/\Lw=te/\e.flat=true/\io=true then some (((h.1▸xs:List e.den),off,len),[(Cb io k, .row l)]) else none
  |_=>none
 | .Ao e te _, .own l off len=>match st.at l with
  |some (.Ao e' Lw rows none _)=>if h:e'=e/\Lw=te/\off=0/\len=rows.length/\io=false then some ((h.1▸rows:List (List e.den)),[(Cb io k, .row l)]) else none
  |_=>none
 |_,_=>none
def bA (st:St):(k:Nat)->(cs:List (Bool×CK))->List AC->Option (Ins.den cs×List (Nat×Loc))
 |_,[],[]=>some ((),[])
 |k,p::r,a::as=>match Hs st p.1 k p.2 a,bA st (k+1) r as with
  |some (x,t1),some (y,t2)=>some ((x,y),t1++t2)
  |_,_=>none
 |_,_,_=>none
def Xa (st:St):(c:CK)->c.den->AC->Option St
 | .row e _,ys, .own l _ len=>match st.at l with
  |some (.arr fr tr e' te xs)=>if h:e=e'/\List.length ys=len/\xs.length=len then some (st.Gk l (.arr (fr&&e'.flat) (tr&&e'.flat) e' te (h.1▸ys))) else none
  |_=>none
 | .Dx e _,ys, .own l _ len=>match st.at l with
  |some (.Dl e' te xs)=>if h:e=e'/\List.length ys=len/\xs.length=len then some (st.Gk l (.Dl e' te (h.1▸ys))) else none
  |_=>none
 | .row e _,ys, .sub l i _=>match st.at l with
  |some (.Dl e' te xs)=>if h: .slice e=e' then (match xs[i]? with
   |some y=>if List.length ys=List.length (h▸y:(Ty.slice e).den) then some (st.Gk l (.Dl e' te (xs.set i (h▸(ys:(Ty.slice e).den))))) else none
   |none=>none) else none
  |_=>none
 | .Dx e _,ys, .sub l i _=>match st.at l with
  |some (.Dl e' te xs)=>if h: .slice e=e' then (match xs[i]? with
   |some y=>if List.length ys=List.length (h▸y:(Ty.slice e).den) then some (st.Gk l (.Dl e' te (xs.set i (h▸(ys:(Ty.slice e).den))))) else none
   |none=>none) else none
  |_=>none
 |_,_, .Ie=>some st
 |_,_,_=>none
def BC (st:St) (e:Ty) (ys:List e.den):AC->Option St
 | .own l _ _=>match st.at l with
  |some (.arr fr tr e' te xs)=>if h:e=e'/\List.length ys=xs.length then some (st.Gk l (.arr fr tr e' te (h.1▸ys))) else none
  |_=>none
 |_=>none
def Eg:(cs:List (Bool×CK))->IOs.den cs->List AC->St->Option St
 | [],_,_,st=>some st
 |(true, .Dy _)::r,x,_::as,st=>Eg r x as st
 |(true, .row e te)::r,x,a::as,st=>match Xa st (.row e te) x.1 a with
  |some st'=>Eg r x.2 as st'
  |none=>none
 |(true, .Dx e te)::r,x,a::as,st=>match Xa st (.Dx e te) x.1 a with
  |some st'=>Eg r x.2 as st'
  |none=>none
 |(true, .part e _)::r,x,a::as,st=>match BC st e x.1 a with
  |some st'=>Eg r x.2 as st'
  |none=>none
 |(true, .Ao _ _ _)::r,x,_::as,st=>Eg r x as st
 |(false,_)::r,x,_::as,st=>Eg r x as st
 |_,_,_,_=>none
def Az (dead part:List Nat) (c:AC):AC:=if c.refs.any (λl=>dead.contains l) then .undef else match c with
 | .sub l i c=>if part.contains l then .undef else .sub l i c
 | .Gf l i c=>if part.contains l then .undef else .Gf l i c
 |c=>c
def Rf:List (Nat×OB)->List Nat->List (Nat×OB)
 | [],_=> []
 |(k,b)::r,dead=>if dead.contains k then Rf r dead else (k,b)::Rf r dead
def St.Xk (st:St) (dead part:List Nat):St:=let s:=st.Gs (Az dead part); {s with heap:=Rf s.heap dead}
def Nu (st:St) (l j m:Nat) (e:Ty) (te:TypeId) (rows:List (List e.den)) (xs:List e.den) (kp:Option (Nat×Nat)):St:=
 (st.Xk [m] [l]).Gk l (.Ao e te (rows.set j xs) none kp)
def Wg (j:Nat):Option (Nat×Nat)->Option (Nat×Nat)
 |none=>none
 |some p=>some (p.1,min p.2 j)
def Vz (st:St) (t:TypeId) (p v:AV):Option St:=
 match T.ty t,p with
 |some τ, .at (.Gf l i j)=>match settle st v with
  |some (v',st')=>match st'.at l,Cy st' τ v' with
   |some (.Ao e te rows none kp),some (_,x)=>if h:τ=e then some (st'.Gk l (.Ao e te (rows.set i ((rows.getD i []).set j (h▸x))) none kp)) else none
   |_,_=>none
  |none=>none
 |some τ, .at (.Gh l j)=>match st.at l,v with
  |some (.Ao e te rows out kp), .at (.own m off len)=>match st.at m with
   |some (.arr _ _ e' _ xs)=>if h:e'=e/\(Nat.blt l Am&&(!Nat.beq m l&&!τ.Ac))=true/\off=0/\len=xs.length/\(out=none\/out=some j) then some (Nu st l j m e te rows (h.1▸xs) (Wg j kp)) else none
   |_=>none
  |_,_=>none
 |_,_=>none
def DZ (st:St):AV->Bool
 | .at (.Gf _ _ _)=>true
 | .at (.Gh l _)=>match st.at l with
  |some (.Ao _ _ _ _ _)=>true
  |_=>false
 |_=>false
def Km (st:St) (t:TypeId) (p v:AV):Option St:=match DZ st p with
 |true=>Vz T st t p v
 |false=>Oz T st t p v
def Lp (st:St) (k m:Nat) (b:OB):St:=let s:=st.Xk [m,k] []; {s with heap:=Ju s.heap k b}
def Zm (t:TypeId):Option (TypeId×Ty):=(T.elem t).bind λte=>(T.DY te).map λe=>(te,e)
def Rk (st:St) (dst:Nat) (t:TypeId) (l c:AV):Option (AV×St):=
 match Zm T t with
 |none=>Vw T st dst t l c
 |some (te,e)=>match l,c with
  | .at (.data _ (.int _) n), .at (.data _ (.int _) m)=>if WB n (Bm+1)=true/\n=m/\dst<Am then some (.at (.own dst 0 n.toNat),Lp st dst dst (.Ao e te (List.replicate n.toNat []) none none)) else none
  |_,_=>none
def Ez (st:St) (dst:Nat) (t:TypeId) (len:Nat) (parts:Array (Nat×Operand)):Option (AV×St):=
 match Zm T t with
 |none=>Hz T st dst t len parts
 |some (te,e)=>match parts.toList with
  | [(0,x)]=>match st.ev x with
   | .at (.own m off ln)=>match st.at m with
    |some (.arr _ _ e' _ xs)=>if h:e'=e/\(Nat.beq len 1&&(Nat.blt dst Am&&Nat.blt m Am))=true/\off=0/\ln=xs.length then some (.at (.own dst 0 1),Lp st dst m (.Ao e te [h.1▸xs] none none)) else none
    |_=>none
   |_=>none
  |_=>none
def Ma (st:St) (dst:Nat) (t:TypeId) (x y:Operand):Option (AV×St):=
 match Zm T t with
 |none=>Lz T st dst t x y
 |some (te,e)=>match st.ev x,st.ev y with
  | .at (.own l off len), .at (.own m NJ od)=>match st.at l,st.at m with
   |some (.Ao e1 te1 A none _),some (.Ao e2 qO B none _)=>
    if h:(e1=e/\e2=e)/\(decide (te1=te)&&decide (qO=te)&&(Nat.blt l Am&&(Nat.blt m Am&&!Nat.beq m l)))=true/\(off=0/\len=A.length)/\(NJ=0/\od=B.length)/\0<B.length/\A.length+B.length<=Bm then
     some (.at (.own l 0 (A.length+B.length)),Lp st l m (.Ao e te ((h.1.1▸A:List (List e.den))++(h.1.2▸B:List (List e.den))) none none))
    else none
   |_,_=>none
  |_,_=>none
def qi (fr:Bool):(c:CK)->c.den->Option OB
 | .Dy _,_=>none
 | .row e te,xs=>some (.arr (fr&&e.flat) false e te xs)
 | .Dx e te,xs=>some (.Dl e te xs)
 | .part e te,x=>some (.arr (fr&&e.flat) false e te x.1)
 | .Ao e te _,xs=>some (.Ao e te xs none none)
def x6 (H:List (Nat×OB)) (l:Nat):Option OB->List (Nat×OB)
 |some b=>Ju H l b
 |none=>H
def Ru (fr:Bool) (key:Nat->Nat):(k:Nat)->(cs:List CK)->CKs.den cs->List (Nat×OB)->List (Nat×OB)
 |_,[],_,H=>H
 |k,c::r,x,H=>Ru fr key (k+1) r x.2 (x6 H (key k) (qi fr c x.1))
def Wl (key:Nat->Nat):(k:Nat)->(cs:List CK)->CKs.den cs->List AC
 |_,[],_=> []
 |k,c::r,x=>(match c,x.1 with
  | .Dy τ,y=> .data τ.flat τ y
  | .row _ _,xs=> .own (key k) 0 (List.length xs)
  | .Dx _ _,xs=> .own (key k) 0 (List.length xs)
  | .Ao _ _ _,xs=> .own (key k) 0 (List.length xs)
  | .part _ _,_=> .undef)::Wl key (k+1) r x.2
def Uc:List (Option Nat)->List AC->List (Bool×List AC)
 |none::s,a::as=>(false,[a])::Uc s as
 |some n::s,as=>(true,as.take n)::Uc s (as.drop n)
 |_,_=> []
def Ael (Ej:Bool) (sh:List (Option Nat)) (as:List AC):Option AV:=
 if Ej then some (.Jq (Uc sh as)) else match Nj sh as with
  | [v]=>some v
  | []=>some .undef
  |_=>none
def iC (tks:List (Nat×Loc)):List Nat:=(tks.filter λt=>Nat.blt t.1 Am&&!t.2.reads).map λt=>t.2.Qx
def whole (tks:List (Nat×Loc)):List Nat:=tks.flatMap λt=>match t.2 with| .row l=> [l]|_=> []
def vA (tks:List (Nat×Loc)):List Nat:=(tks.filter λt=>t.2.reads).map λt=>t.2.Qx
def xg (ins:List (Bool×CK)) (te:TypeId) (used:List Nat):List (Nat×Loc)->Option Nat
 | []=>none
 |(k, .row l)::r=>if Nat.blt k Am&&(!used.contains l&&(match ins[k-500000]? with
   |some (false, .row _ Lw)=>decide (Lw=te)
   |some (false, .Dx _ Lw)=>decide (Lw=te)
   |some (false, .Ao _ Lw _)=>decide (Lw=te)
   |_=>false)) then some l else xg ins te used r
 |_::r=>xg ins te used r
def AA (ins:List (Bool×CK)) (tks:List (Nat×Loc)) (d:Nat):(k:Nat)->(used:List Nat)->List CK->List Nat
 |_,_,[]=> []
 |k,used,c::r=>match (match c with
   | .row _ te=>xg ins te used tks
   | .Dx _ te=>xg ins te used tks
   | .Ao _ te _=>xg ins te used tks
   |_=>none) with
  |some l=>l::AA ins tks d (k+1) (l::used) r
  |none=>NI d k::AA ins tks d (k+1) used r
def iv (s:MSpec) (tks:List (Nat×Loc)) (d:Nat):List Nat:=AA s.ins tks d 0 [] s.outs
def Cc (ks:List Nat) (j:Nat):Nat:=match ks[j]? with
 |some l=>l
 |none=>Am+j
def tP (ks:List Nat) (n:Nat):Bool:=Nat.beq ks.length n&&(Ub ks&&ks.all λl=>Nat.blt l Am)
def DT (st:St) (l:List Nat):Bool:=l.all λk=>match st.at k with|some (.arr fr _ _ _ _)=>fr|_=>false
def EZ (st:St) (s:MSpec) (args:List AV):Option (List Nat×List AC×List AV):=
 match s.ptr with
 |none=>some ([],[],args)
 |some p=>match args with
  | .at (.Eb l i)::rest=>match st.at l with
   |some (.var tid vs)=>if tid=p.1/\vs.length=p.2/\i=0 then some ([l],vs,rest) else none
   |_=>none
  |_=>none
def Qd:List (Bool×CK)->List AC->Bool
 |(true, .row _ _)::r, .own _ _ _::as=>Qd r as
 |(true, .Dx _ _)::r, .own _ _ _::as=>Qd r as
 |(true,_)::_,_::_=>false
 |(false,_)::r,_::as=>Qd r as
 |_,as=>as.isEmpty
def bT {α:Type} :List (Bool×CK)->List α->List α->List α
 |(true,_)::r,v::vs,as=>v::bT r vs as
 |(false,_)::r,_::vs,a::as=>a::bT r vs as
 |_,vs,_=>vs
def oP:List (Bool×CK)->Nat->Nat
 |(true,_)::r,n+1=>oP r n
 |(false,_)::r,n+1=>oP r n+1
 |_,_=>0
def MSpec.Ui (s:MSpec):Nat:=match s.ptr with|none=>0|some p=>oP s.ins p.2
def mq (ins:List (Bool×CK)) (as:List AC) (pl:List Nat) (st:St):St:=
 match pl with
 | []=>st
 |l::_=>match st.at l with
  |some (.var tid vs)=>st.Gk l (.var tid (bT ins vs as))
  |_=>st
def Ns (d:Nat):Nat:=NI d 999
def gR (s:MSpec) (d:Nat):List Nat:=match s.rp with|none=> []|some _=> [Ns d]
def Mo (s:MSpec) (tks:List (Nat×Loc)) (d:Nat):List Nat:=iv s tks d++gR s d
def iX (H:List (Nat×OB)) (l:Nat):Bool:=match Ag H l with
 |some (.Ao _ _ _ _ _)=>true
 |_=>false
def Wf (H:List (Nat×OB)) (ks:List Nat) (tks:List (Nat×Loc)):List (Nat×Nat)->List Nat
 | []=> []
 |(k,j)::r=>match tks.find? (λt=>Nat.beq t.1 (Cb false k)),ks[j]? with
  |some (_, .row l),some l'=>if Nat.beq l' l&&iX H l then l::Wf H ks tks r else Wf H ks tks r
  |_,_=>Wf H ks tks r
def mM (H:List (Nat×OB)) (l:Nat):Nat:=match Ag H l with
 |some (.Ao _ _ rows _ _)=>rows.length
 |_=>0
def Yw (H:List (Nat×OB)) (ls:List Nat) (n:Nat):List AV->Bool
 | []=>true
 | .at (.sub l i _)::r=>(!ls.contains l||(Nat.blt i n&&Nat.blt i (mM H l)))&&Yw H ls n r
 |_::r=>Yw H ls n r
def Hj (ls:List Nat):List AV->List AV->List AV
 | .at (.sub l i c)::r,v::vs=>(if ls.contains l then .at (.sub l i c) else v)::Hj ls r vs
 |_::r,v::vs=>v::Hj ls r vs
 |_,vs=>vs
def ZB:Option OB->Option (Nat×Nat)
 |some (.Ao _ _ _ _ kp)=>kp
 |_=>none
def OB.ye (b:OB) (kp:Option (Nat×Nat)):OB:=match b with
 | .Ao e te rows out _=> .Ao e te rows out kp
 |b=>b
def Yl (H0:List (Nat×OB)) (ls:List Nat) (n:Nat):List (Nat×OB)->List (Nat×OB)
 | []=> []
 |(l,b)::r=>(l,if ls.contains l then b.ye (Wg n (ZB (Ag H0 l))) else b)::Yl H0 ls n r
def gI (bY st:St) (ls:List Nat) (n:Nat):St:=match ls with
 | []=>st
 |_=> {tmps:=Hj ls bY.tmps st.tmps,heap:=Yl bY.heap ls n st.heap}
def TI (s:MSpec) (d:Nat) (as:List AC):Option AV:=match s.rp with
 |none=>Ael s.Ej s.Gm as
 |some _=>some (.at (.Eb (Ns d) 0))
def gh (st st1:St) (d:Nat) (s:MSpec) (pl:List Nat) (tks:List (Nat×Loc)) (r:CKs.den s.outs):St:=
 let ks:=Mo s tks d
 let key:=Cc ks
 let st2:=mq s.ins (Wl key 0 s.outs r) pl (st1.Xk (iC tks++ks++(if s.flat then [] else vA tks)) (whole tks))
 {st2 with heap:=Ru (DT st (iC tks)) key 0 s.outs r (x6 st2.heap (Ns d) (s.rp.map λtid=> .var tid ((Wl key 0 s.outs r).drop s.Ui)))}
def Ri (st:St) (dst:Option Nat) (s:MSpec) (args:List AV):Option (AV×St):=
 match EZ st s args with
 |none=>none
 |some (pl,vs,rest)=>match ungroup s.Hq rest with
 |none=>none
 |some jF=>match bA st 0 s.ins (vs++jF) with
  |none=>none
  |some (x,tks)=>if Ub (tks.map λt=>t.2.Qx)&&tP (Mo s tks (dst.getD 0)) (s.outs.length+(gR s (dst.getD 0)).length)&&Nat.blt s.outs.length 1000&&Nat.blt s.ins.length 1000&&(Qd s.ins vs&&pl.all λl=>!((tks.map λt=>t.2.Qx)++Mo s tks (dst.getD 0)).contains l) then match s.fn x with
   |none=>none
   |some (r,o)=>match Eg s.ins o (vs++jF) st with
    |none=>none
    |some st1=>match TI s (dst.getD 0) ((Wl (Cc (Mo s tks (dst.getD 0))) 0 s.outs r).drop s.Ui) with
     |none=>none
     |some v=>if Yw (gh st st1 (dst.getD 0) s pl tks r).heap (Wf st.heap (Mo s tks (dst.getD 0)) tks s.keeps) (s.Cz x) st.tmps=true then
       some (v,gI st (gh st st1 (dst.getD 0) s pl tks r) (Wf st.heap (Mo s tks (dst.getD 0)) tks s.keeps) (s.Cz x)) else none
   else none
def Kd:List Operand->St->Option St
 | [],st=>some st
 |x::r,st=>match settle st (st.ev x) with
  |some (_,st')=>Kd r st'
  |none=>none
def aW (s:Spec) (args:List AV):Bool:=!(s.fresh||s.res.flat||args.all (·.settled))
def evalOp (Γ:Env) (st:St) (o:Oper):Option (AV×St):=
 match o.op with
 | .assign x=>match st.ev x,o.dst,(T.elem o.type).bind λte=>(T.ty te).map λe=>(te,e) with
  | .at .Ie,some d,some (te,e)=>if d<Am then some (.at (.own d 0 0),st.new d (.arr (T.nM||e.flat) T.vo e te [])) else none
  |v,_,_=>some (v,st)
 | .alloc t=>match o.dst,T.ty t with
  |some d,some τ=>mkVar T st d t τ (zeroCells τ)
  |_,_=>none
 | .box t x=>match o.dst,T.ty t with
  |some d,some τ=>match cellsOf τ (st.ev x) with
   |some cs=>mkVar T st d t τ cs
   |none=>none
  |_,_=>none
 | .store t p x=>(Km T st t (st.ev p) (st.ev x)).map λs=>(.undef,s)
 | .makeSlice t l c=>match o.dst with
  |some d=>Rk T st d t (st.ev l) (st.ev c)
  |none=>none
 | .makeMap t none=>match o.dst with
  |some d=>Oy T st d t
  |none=>none
 | .mapUpdate t m k x=>(Fc T st t (st.ev m) (st.ev k) (st.ev x)).map λs=>(.undef,s)
 | .insert t m k x=>(Fc T st t (st.ev m) (st.ev k) (st.ev x)).map λs=>(.undef,s)
 | .buildSlice t len parts=>match o.dst with
  |some d=>Ez T st d t len parts
  |none=>none
 | .build t parts=>(Rh T st t parts).map λv=>(v,st)
 | .call {callee:= .builtin .append,args,argTypes} =>match o.dst,args.toList,argTypes.toList with
  |some d,[x,y],[t,t']=>if t=t' then Ma T st d t x y else none
  |_,_,_=>none
 | .call {callee:= .builtin .copy,args,argTypes} =>match args.toList,argTypes.toList with
  | [x,y],[t,t']=>cN T st t t' (st.ev x) (st.ev y)
  |_,_=>none
 | .call {callee:= .builtin .clear,args,argTypes} =>match args.toList,argTypes.toList with
  | [x],[t]=>(evalClear T st t (st.ev x)).map λs=>(.undef,s)
  |_,_=>none
 | .call {callee:= .value (.func f),args, .. } =>match Γ f with
  |some (.m s)=>Ri st o.dst s (args.toList.map st.ev)
  |some (.q s)=>if aW s (args.toList.map st.ev) then (match Kd args.toList st with
   |some st1=>(Cp T Γ st1 o).map λv=>(v,st1)
   |none=>none) else (Cp T Γ st o).map λv=>(v,st)
  |_=>(Cp T Γ st o).map λv=>(v,st)
 |_=>(Cp T Γ st o).map λv=>(v,st)
def aZ (e:Ty):Nat->List (Nat×Operand)->St->Option (Bool×List e.den)
 |_,[],_=>some (true,[])
 |i,(j,x)::r,st=>
  if i=j/\(st.ev x).settled=true then match Cy st e (st.ev x),aZ e (i+1) r st with
   |some (fr,y),some (Py,ys)=>some (fr&&Py,y::ys)
   |_,_=>none
  else none
def Vv (st:St) (t:TypeId) (len:Nat) (parts:Array (Nat×Operand)):Option AV:=
 match T.elem t with
 |none=>none
 |some te=>match T.ty te with
  |none=>none
  |some e=>if parts.size=len/\len<=64/\e.size<=64 then (aZ e 0 parts.toList st).map λp=> .at (.data p.1 (.slice e) p.2) else none
def Tc (Γ:Env) (st:St) (o:Oper):Option AV:=
 match o.op with
 | .buildSlice t len parts=>Vv T st t len parts
 | .build t parts=>Rh T st t parts
 |_=>Cp T Γ st o
def NA (q:Bool) (Γ:Env) (o:Oper):Bool:=
 match o.op with
 | .buildSlice _ _ _| .build _ _=>!q
 | .alloc _| .box _ _| .store _ _ _| .makeSlice _ _ _| .makeMap _ _| .mapUpdate _ _ _ _| .insert _ _ _ _=>true
 | .assign (.const _)=>true
 | .call {callee:= .builtin .append, .. } =>true
 | .call {callee:= .builtin .copy, .. } =>true
 | .call {callee:= .builtin .clear, .. } =>true
 | .call {callee:= .value (.func f), .. } =>match Γ f with
  |some (.m _)=>true
  |_=>false
 |_=>false
def Cq (Γ:Env) (ops:Array Oper) (st:St) (o:Oper):Option St:=
 match o.guard with
 |none=>(evalOp T Γ st o).map λr=>r.2.put o.dst r.1
 |some (j,want)=>match Rd st ((ops[j]?).bind (·.dst)) with
  |some (some b)=>if b==want then (evalOp T Γ st o).map λr=>r.2.put o.dst r.1 else some (st.put o.dst (.at .skip))
  |some none=>some (st.put o.dst (.at .skip))
  |none=>none
def Ur (Γ:Env) (ops:Array Oper):List Oper->St->Option St
 | [],st=>some st
 |o::r,st=>match Cq T Γ ops st o with
  |some st'=>Ur Γ ops r st'
  |none=>none
def Ft (q:Bool) (Γ:Env) (ops:Array Oper):List Nat:=
 (List.range ops.size).foldl (init:= []) λacc i=>match ops[i]? with
  |some o=>if NA q Γ o||o.after.any (λe=>Region.binds .any e&&acc.contains e.on) then acc++ [i] else acc
  |none=>acc
def Xm (q:Bool) (Γ:Env) (ops:Array Oper):List Nat:=(List.range ops.size).filter λi=>!(Ft q Γ ops).contains i
def iW (ops:Array Oper) (hd tl:List Nat) (i:Nat):Bool:=
 match ops[i]? with
 |some o=>(match o.op,o.guard with
  | .move (.tmp _),none=>true
  |_,_=>false)&&!((tl.take 1++hd).any λj=>decide (i<j)&&Region.waitsFor .any ops j i)
 |none=>false
def Px (q:Bool) (Γ:Env) (ops:Array Oper):List Nat:=(Xm q Γ ops).filter λi=>iW ops (Xm q Γ ops) (Ft q Γ ops) i
def Qa (q:Bool) (Γ:Env) (ops:Array Oper):List Nat:=(Xm q Γ ops).filter λi=>!iW ops (Xm q Γ ops) (Ft q Γ ops) i
def eB (q:Bool) (Γ:Env) (ops:Array Oper):List Nat:=Px q Γ ops++Qa q Γ ops
def MS (ops:Array Oper) (i:Nat):Bool:=match ops[i]? with
 |some o=>(match o.op,o.guard with
  | .extract _ _,none=>true
  |_,_=>false)
 |none=>false
def jr (ops:Array Oper):List Nat->Array Bool->Bool
 | [],Ad=>(Region.ready .any ops Ad).isEmpty
 |k::r,Ad=>(decide (Region.ready .any ops Ad= [k])||(MS ops k&&((Region.ready .any ops Ad).contains k&&Region.free .any ops Ad k)))&&jr ops r (Ad.setIfInBounds k true)
def kf (ops:Array Oper) (tl:List Nat):List Nat->Array Bool->Bool
 | [],Ad=>jr ops tl Ad
 |k::r,Ad=>(Region.ready .any ops Ad).contains k&&Region.free .any ops Ad k&&kf ops tl r (Ad.setIfInBounds k true)
def oV (ops:Array Oper) (hd:List Nat):List Nat->Bool
 | []=>true
 |f::r=>(hd.all λi=>(f::hd).any λj=>decide (i<j)&&Region.waitsFor .any ops j i)&&r.all λt=>(f::r).any λk=>Region.waitsFor .any ops t k
def iN (ops:Array Oper) (tl hd:List Nat):List Nat->Array Bool->Bool
 | [],Ad=>kf ops tl hd Ad
 |k::r,Ad=>(Region.ready .any ops Ad).contains k&&Region.free .any ops Ad k&&iN ops tl hd r (Ad.setIfInBounds k true)
def eJ (q:Bool) (Γ:Env) (ops:Array Oper):Bool:=
 Region.noSelect ops&&((Px q Γ ops).length+((Qa q Γ ops).length+(Ft q Γ ops).length)==ops.size)&&iN ops (Ft q Γ ops) (Qa q Γ ops) (Px q Γ ops) (Array.replicate ops.size false)&&oV ops (Qa q Γ ops) (Ft q Γ ops)
def cm (Γ:Env) (ops:Array Oper) (st:St) (o:Oper):Option AV:=
 match o.guard with
 |none=>Tc T Γ st o
 |some (j,want)=>match Rd st ((ops[j]?).bind (·.dst)) with
  |some (some b)=>if b==want then Tc T Γ st o else some (.at .skip)
  |some none=>some (.at .skip)
  |none=>none
def Ef (Γ:Env) (ops:Array Oper):List Nat->St->Option St
 | [],st=>some st
 |i::r,st=>match ops[i]? with
  |none=>none
  |some o=>match cm T Γ ops st o with
   |some v=>Ef Γ ops r (st.put o.dst v)
   |none=>none
def Jw (Γ:Env) (ops:Array Oper):List Nat->St->Option St
 | [],st=>some st
 |i::r,st=>match ops[i]? with
  |none=>none
  |some o=>match Cq T Γ ops st o with
   |some st'=>Jw Γ ops r st'
   |none=>none
def Mb (Γ:Env) (ops:Array Oper) (draw:Bool) (st:St):Option St:=
 if draw then (if eJ false Γ ops then (match Ef T Γ ops (eB false Γ ops) st with
  |some st'=>Jw T Γ ops (Ft false Γ ops) st'
  |none=>none) else if eJ true Γ ops then (match Ef T Γ ops (eB true Γ ops) st with
  |some st'=>Jw T Γ ops (Ft true Γ ops) st'
  |none=>none) else none)
 else Ur T Γ ops ops.toList st
def tH (ops:Array Oper) (i:Nat):Bool:=match ops[i]? with
 |some o=>(match o.op,o.guard with
  | .move (.tmp _),none=>true
  |_,_=>false)
 |none=>false
def eG (ops:Array Oper) (i:Nat):Bool:=match ops[i]? with
 |some o=>(match o.op,o.guard with
  | .move (.tmp _),none=>true
  | .nilCheck _,none=>true
  | .fieldAddr _ _ _,none=>true
  |_,_=>false)
 |none=>false
def Aer (q:Bool) (ops:Array Oper) (i:Nat):Bool:=match q with
 |true=>eG ops i
 |false=>tH ops i
def Fp (q:Bool) (ops:Array Oper):List Nat->Array Bool->List Nat
 | [],_=> []
 |i::r,Ad=>if Aer q ops i&&((Region.ready .any ops Ad).contains i&&Region.free .any ops Ad i) then i::Fp q ops r (Ad.setIfInBounds i true) else Fp q ops r Ad
def NH (q:Bool) (ops:Array Oper):List Nat:=Fp q ops (List.range ops.size) (Array.replicate ops.size false)
def eu (q:Bool) (ops:Array Oper):Bool:=Nat.ble (ops.size-(NH q ops).length) 8
def Kp (ops:Array Oper):List Nat:=NH (!eu false ops) ops
def Ek:List Nat->Array Bool->Array Bool
 | [],Ad=>Ad
 |i::r,Ad=>Ek r (Ad.setIfInBounds i true)
def anyS (Γ:Env) (ops:Array Oper) (K:St->Prop):Nat->Array Bool->St->Prop
 |0,Ad,st=>Region.ready .any ops Ad= []/\K st
 |f+1,Ad,st=>Region.ready .any ops Ad≠ []/\ ∀i∈Region.ready .any ops Ad,∃o st',ops[i]?=some o/\Cq T Γ ops st o=some st'/\anyS Γ ops K f (Ad.setIfInBounds i true) st'
def sF (Γ:Env) (ops:Array Oper) (draw:Bool) (st:St) (K:St->Prop):Prop:=
 (∃st',Mb T Γ ops draw st=some st'/\K st')\/
 (draw=true/\Region.noSelect ops=true/\ ∃bY,Ef T Γ ops (Kp ops) st=some bY/\anyS T Γ ops K (ops.size-(Kp ops).length) (Ek (Kp ops) (Array.replicate ops.size false)) bY)
def uv (Γ:Env) (draw:Bool):Env:= λf=>match Γ f with
 |some (.b s m)=>some (if draw then .q s else .m m)
 |r=>r
inductive Hi where
 |normal
 |exit (id:Nat)
 |ret
def Gg (live:List Nat):Nat->List AV->List AV
 |_,[]=> []
 |i,v::r=>(if live.contains i then v else .undef)::Gg live (i+1) r
def AV.refs:AV->List Nat
 | .at a=>a.refs
 | .agg cs=>cs.flatMap AC.refs
 | .Vn _ _ _=> []
 | .Jq l=>l.flatMap λp=>p.2.flatMap AC.refs
def OB.refs:OB->List Nat
 | .var _ vs=>vs.flatMap AC.refs
 |_=> []
def Zk:List Nat->St->St
 | [],st=>st
 |l::r,st=>Zk r (st.forget l)
def kG (l k m:Nat):Nat:=if m=l then k else m
def Pg (l k:Nat):AC->AC
 | .own m off len=> .own (kG l k m) off len
 | .Eb m i=> .Eb (kG l k m) i
 | .Gh m i=> .Gh (kG l k m) i
 | .clo f Cd=> .clo f (Cd.map λp=>(kG l k p.1,p.2))
 | .Gt m=> .Gt (kG l k m)
 | .sub m i c=> .sub (kG l k m) i c
 | .Gf m i c=> .Gf (kG l k m) i c
 |a=>a
def St.rename (l k:Nat) (st:St):St:=
 match Ag st.heap k,Ag st.heap l with
 |none,some b=>if (Nat.blt l Am&&Nat.blt k Am)=true then
   (let s:=st.Gs (Pg l k); {s with heap:=Ju (Ug s.heap l) k (b.map (Pg l k))}) else st
 |_,_=>st
def Ii:Nat->Nat->St->St
 |0,_,st=>st
 |n+1,t,st=>Ii n (t+1) (match st.get t with
  | .at (.own l _ _)=>match Ag st.heap l with
   |some (.arr _ _ _ _ _)=>if (st.tmps.take t).any (λv=>v.refs.contains l) then st else st.rename l (700000+t)
   |_=>st
  |_=>st)
def Xt:Nat:=1000000007
def OB.Fe (flat all:Bool):OB->OB
 | .arr fr tr e tid xs=> .arr (fr&&!(all||(flat&&e.flat))) (tr&&!all) e tid xs
 |b=>b
def Tt:Nat:=1000000009
def yO:Nat:=1100000000
def St.Fe (live:List Nat) (st:St):St:= {st with heap:=st.heap.map λp=>(p.1,p.2.Fe (live.contains Tt) (live.contains (yO+p.1)))}
def Ih:Nat:=900000000
def Wn (t:Nat) (st:St):St:=match st.get t with
 | .at (.own l off len)=>match Ag st.heap l with
  |some (.arr fr tr e tid xs)=>if Nat.blt l Am=true then (st.new l (.arr fr tr e tid ((xs.drop off).take len))).put (some t) (.at (.own l 0 ((xs.drop off).take len).length)) else st
  |_=>st
 |_=>st
def Kc (live:List Nat):Nat->Nat->St->St
 |0,_,st=>st
 |n+1,t,st=>Kc live n (t+1) (if live.contains (Ih+t) then Wn t st else st)
def St.clean (live:List Nat) (st:St):St:=
 let s:St:= {st with tmps:=Gg live 0 st.tmps}
 let r1:=s.tmps.flatMap AV.refs
 let r2:=r1++(s.heap.filter λp=>r1.contains p.1).flatMap λp=>p.2.refs
 let s2:=Zk ((s.heap.map (·.1)).filter λl=>!r2.contains l&&Nat.blt l Am) s
 let s2:=if live.any (λt=>Nat.ble Ih t&&Nat.blt t Xt) then Kc live s2.tmps.length 0 s2 else s2
 let s3:=if live.contains Xt then Ii s2.tmps.length 0 s2 else s2
 if live.any (λt=>Nat.ble Tt t) then s3.Fe live else s3
def Cl:Code->Nat
 | .region id _ _=>id
 | .seq a _=>Cl a
 | .cond _ a _=>Cl a
 | .block _ c=>Cl c
 | .loop c=>1000+Cl c
 |_=>0
def WT (a b:List Nat):List Nat:=a++b.filter λt=>!a.contains t
def tV:List Oper->List Nat->List Nat
 | [],out=>out
 |o::r,out=>WT (o.op.operands.toList.filterMap λ | .tmp t=>some t|_=>none) (match o.dst with|some d=>(tV r out).filter (·!=d)|none=>tV r out)
def zA:List (Nat×List Nat)->Nat->List Nat
 | [],_=> []
 |(k,l)::r,id=>if k=id then l else zA r id
def lE:Code->List (Nat×List Nat)->List Nat->List Nat->List Nat×List (Nat×List Nat)
 | .region _ ops _,_,_,out=>(tV ops.toList out,[])
 | .seq a b,env,ret,out=>let rb:=lE b env ret out;let ra:=lE a env ret rb.1;(ra.1,ra.2++rb.2)
 | .cond c a b,env,ret,out=>let ra:=lE a env ret out;let rb:=lE b env ret out
  (WT (match c with| .tmp t=> [t]|_=> []) (WT ra.1 rb.1),ra.2++rb.2)
 | .block id c,env,ret,out=>lE c ((id,out)::env) ret out
 | .exit id,env,_,_=>(zA env id,[])
 | .ret,_,ret,_=>(ret,[])
 | .loop c,env,ret,_=>let l:=(lE c env ret []).1;let r:=lE c env ret l;(l,(Cl c,l)::r.2)
 |_,_,_,out=>(out,[])
def tW:List ResultVar->List Nat
 | []=> []
 | .tmp t::r=>t::tW r
 | .cell p _::r=>p::tW r
def tT (marks:List Nat) (fn:Func) (c:Code):Nat->List Nat:=let ret:=tW fn.results.toList;let g:=zA (lE c [] ret ret).2;match marks with
 | []=>g
 |m=> λid=>g id++m
def AO (K:St->Prop) (Q:Hi->St->Prop):Hi->St->Prop
 | .normal,s=>K s
 |e,s=>Q e s
def rE (id:Nat) (Q:Hi->St->Prop):Hi->St->Prop
 | .exit GQ,s=>if GQ=id then Q .normal s else Q (.exit GQ) s
 |e,s=>Q e s
inductive Jt (Γ:Env) (live:Nat->List Nat):Code->St->(Hi->St->Prop)->Prop where
 |skip {st:St} {Q:Hi->St->Prop} :Q .normal st->Jt Γ live .skip st Q
 |label {l:Nat} {st:St} {Q:Hi->St->Prop} :Q .normal st->Jt Γ live (.label l) st Q
 |exit {id:Nat} {st:St} {Q:Hi->St->Prop} :Q (.exit id) st->Jt Γ live (.exit id) st Q
 |ret {st:St} {Q:Hi->St->Prop} :Q .ret st->Jt Γ live .ret st Q
 |region {id:Nat} {ops:Array Oper} {draw:Bool} {st:St} {Q:Hi->St->Prop} :sF T (uv Γ draw) ops draw st (Q .normal)->Jt Γ live (.region id ops draw) st Q
 |seq {x y:Code} {st:St} {Q:Hi->St->Prop} (Q1:Hi->St->Prop):Jt Γ live x st Q1->(∀s,Q1 .normal s->Jt Γ live y s Q)->(∀e s,e≠ .normal->Q1 e s->Q e s)->Jt Γ live (.seq x y) st Q
 |cond {c:Operand} {x y:Code} {st:St} {fr t:Bool} {Q:Hi->St->Prop} :st.ev c= .at (.data fr .bool t)->(t=true->Jt Γ live x st Q)->(t=false->Jt Γ live y st Q)->Jt Γ live (.cond c x y) st Q
 |block {id:Nat} {c:Code} {st:St} {Q:Hi->St->Prop} (Q1:Hi->St->Prop):Jt Γ live c st Q1->(∀e s,Q1 e s->rE id Q e s)->Jt Γ live (.block id c) st Q
 |loop {c:Code} {st:St} {Q:Hi->St->Prop} (Q1:Hi->St->Prop):Jt Γ live c (st.clean (live (Cl c))) Q1->(∀s,Q1 .normal s->Jt Γ live (.loop c) s Q)->(∀e s,e≠ .normal->Q1 e s->Q e s)->Jt Γ live (.loop c) st Q
def Yr (st:St):List ResultVar->Option (List AV)
 | []=>some []
 | .tmp t::r=>(Yr st r).map λl=>st.get t::l
 | .cell p t::r=>match Ku T st t (st.get p),Yr st r with
  |some v,some l=>some (v::l)
  |_,_=>none
def iK (s:Spec) (fn:Func) (st:St):Option (Bool×s.res.den):=
 match Yr T st fn.results.toList with
 |some [v]=>if s.Ej then none else Cy st s.res v
 |some [v,u]=>if s.Ej then Ca st s.res [v,u] else none
 |some [v,u,t]=>if s.Ej then Ca st s.res [v,u,t] else none
 |_=>none
def Nf:(τ:Ty)->τ.den->List AV
 | .pair a r,x=> .at (.data a.flat a x.1)::Nf r x.2
 |_,_=> []
def eY (st:St):(c:CK)->AC->Option (c.den×List Nat)
 | .Dy τ,a=>if τ.flat||a.settled then (Bv st τ a).map λp=>(p.2,[]) else none
 | .row e te, .own l off len=>match st.at l with
  |some (.arr _ _ e' Lw xs)=>if h:e'=e/\Lw=te then some ((((h.1▸xs:List e.den).drop off).take len),[l]) else none
  |_=>none
 | .row _ _, .Ie=>some ([],[])
 | .Dx e te, .own l off len=>match st.at l with
  |some (.arr _ tr e' Lw xs)=>if h:e'=e/\Lw=te/\(tr||e.flat)=true then some ((((h.1▸xs:List e.den).drop off).take len),[l]) else none
  |some (.Dl e' Lw xs)=>if h:e'=e/\Lw=te then some ((((h.1▸xs:List e.den).drop off).take len),[l]) else none
  |_=>none
 | .Dx _ _, .Ie=>some ([],[])
 | .Ao e te _, .own l off len=>match st.at l with
  |some (.Ao e' Lw rows none _)=>if h:e'=e/\Lw=te/\off=0/\len=rows.length then some ((h.1▸rows:List (List e.den)),[l]) else none
  |_=>none
 |_,_=>none
def Pf (st:St):(cs:List CK)->List AC->Option (CKs.den cs×List Nat)
 | [],[]=>some ((),[])
 |c::r,a::as=>match eY st c a,Pf st r as with
  |some (x,t1),some (y,t2)=>some ((x,y),t1++t2)
  |_,_=>none
 |_,_=>none
def lg (st:St) (l:Nat):(c:CK)->Option c.den
 | .Dy _=>none
 | .row e te=>match st.at l with
  |some (.arr _ _ e' Lw xs)=>if h:e'=e/\Lw=te then some (h.1▸xs) else none
  |_=>none
 | .Dx e te=>match st.at l with
  |some (.Dl e' Lw xs)=>if h:e'=e/\Lw=te then some (h.1▸xs) else none
  |_=>none
 | .part _ _=>none
 | .Ao _ _ _=>none
def Jz (st:St):(k:Nat)->(cs:List (Bool×CK))->Option (IOs.den cs)
 |_,[]=>some ()
 |k,(true, .Dy _)::r=>Jz st (k+1) r
 |k,(true, .Ao _ _ _)::r=>Jz st (k+1) r
 |k,(true, .row e te)::r=>match lg st (Cb true k) (.row e te),Jz st (k+1) r with
  |some x,some y=>some (x,y)
  |_,_=>none
 |k,(true, .Dx e te)::r=>match lg st (Cb true k) (.Dx e te),Jz st (k+1) r with
  |some x,some y=>some (x,y)
  |_,_=>none
 |k,(true, .part e te)::r=>match lg st (Cb true k) (.row e te),Jz st (k+1) r with
  |some x,some y=>some (x,y)
  |_,_=>none
 |k,(false,_)::r=>Jz st (k+1) r
def Ko:(k:Nat)->List (Bool×CK)->List Nat
 |_,[]=> []
 |k,(true, .Dy _)::r=>Ko (k+1) r
 |k,(true, .Ao _ _ _)::r=>Ko (k+1) r
 |k,(true,_)::r=>Cb true k::Ko (k+1) r
 |k,(false,_)::r=>Ko (k+1) r
def Mm:Nat:=1900000000
def Fh:(k:Nat)->List (Bool×CK)->List AC->Option (List AC)
 |_,_,[]=>some []
 |k,(true, .row _ _)::r, .own l _ _::as=>if Nat.beq l (Cb true k) then Fh (k+1) r as else none
 |k,(true, .Dx _ _)::r, .own l _ _::as=>if Nat.beq l (Cb true k) then Fh (k+1) r as else none
 |k,(false,_)::r,a::as=>(Fh (k+1) r as).map λl=>a::l
 |_,_,_=>none
def de (st:St):List AC->List (Bool×CK)->Prop
 | .own l off len::as,(true,_)::r=>(off=0/\match st.at l with
  |some (.arr _ _ _ _ xs)=>len=xs.length
  |some (.Dl _ _ xs)=>len=xs.length
  |_=>False)/\de st as r
 |_::as,(false,_)::r=>de st as r
 |_,_=>True
def BI (s:MSpec) (st:St) (l:List AV):Option (List AC×List Nat):=match s.rp with
 |none=>if s.Ej=Nat.blt 1 l.length then (ungroup s.Gm l).map λas=>(as,[]) else none
 |some tid=>match l with
  | [.at (.Eb m i)]=>match st.at m with
   |some (.var Ov vs)=>if Ov=tid/\i=0/\Nat.blt m Am=true then some (vs,[m]) else none
   |_=>none
  |_=>none
def rI (st:St) (n:Nat) (as:List AC):List (Nat×Nat)->Prop
 | []=>True
 |(k,j)::r=>(match as[j]? with
  |some (.own l _ _)=>match st.at l with
   |some (.Ao _ _ _ _ (some p))=>p.1=Cb false k/\n<=p.2/\Nat.blt k 1000=true
   |_=>False
  |_=>False)/\rI st n as r
def eL (s:MSpec) (fn:Func) (x:Ins.den s.ins) (st:St) (cs:List AC) (P:CKs.den s.outs×IOs.den s.ins->Prop):Prop:=
 match Yr T st fn.results.toList with
 |none=>False
 |some l=>match BI s st l with
  |none=>False
  |some (as,ml)=>match Pf st s.outs (cs++as),Jz st 0 s.ins with
   |some (r,ls),some o=>(Ub (ml++ls++Ko 0 s.ins)&&Nat.blt s.ins.length 1000&&Nat.blt s.outs.length 1000&&s.NG)=true/\rI st (s.Cz x) (cs++as) s.keeps/\P (r,o)
   |_,_=>False
def KG (s:MSpec) (fn:Func) (x:Ins.den s.ins) (st:St) (P:CKs.den s.outs×IOs.den s.ins->Prop):Prop:=
 match s.ptr with
 |none=>eL T s fn x st [] P
 |some p=> ∃vs cs,st.at Mm=some (.var p.1 vs)/\vs.length=p.2/\Fh 0 s.ins vs=some cs/\de st vs s.ins/\eL T s fn x st cs P
def Uh (s:MSpec) (as:List AC):List AV:=match s.ptr with
 |none=>Nj s.Hq as
 |some p=> .at (.Eb Mm 0)::Nj s.Hq (as.drop p.2)
def lA (s:MSpec) (x:Ins.den s.ins):List (Nat×OB):=match s.ptr with
 |none=>Tj 0 s.ins x
 |some p=>Tj 0 s.ins x++ [(Mm, .var p.1 ((Wc 0 s.ins x).take p.2))]
def Tm:List (Bool×CK)->Bool
 | []=>true
 |(true, .Ao _ _ _)::_=>false
 |_::r=>Tm r
def uo (s:MSpec):Bool:=Tm s.ins&&match s.ptr with
 |none=>true
 |some p=>Nat.ble p.2 s.ins.length
def UG (Γ:Env) (s:MSpec) (fn:Func) (x:Ins.den s.ins) (P:CKs.den s.outs×IOs.den s.ins->Prop):Prop:=
 (Nat.blt s.ins.length 1000&&uo s)=true/\ ∃c,fn.body=some c/\Jt T Γ (tT T.marks fn c) c {tmps:=Uh s (Wc 0 s.ins x)++List.replicate (fn.ntmps-(Uh s (Wc 0 s.ins x)).length) .undef,heap:=lA s x}
  (λe st=>(∀id,e≠ .exit id)/\KG T s fn x st P)
def KH (Γ:Env) (s:Spec) (fn:Func) (x:s.arg.den) (P:s.res.den->Prop):Prop:=
 ∃c,fn.body=some c/\Jt T Γ (tT T.marks fn c) c {tmps:=Nf s.arg x++List.replicate (fn.ntmps-(Nf s.arg x).length) .undef,heap:= []}
  (λe st=>(∀id,e≠ .exit id)/\ ∃fr y,iK T s fn st=some (fr,y)/\(fr||!s.fresh)=true/\P y)
end Go.Proofs.Ytjbdmibbbpdnnaa
