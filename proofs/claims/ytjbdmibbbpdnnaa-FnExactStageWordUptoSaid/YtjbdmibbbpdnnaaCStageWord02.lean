/-
  Part 3 of the proof that the statement FnExactStageWord holds.
-/
import Derived.Test.YtjbdmibbbpdnnaaCStageWord01
namespace Go.Proofs.Ytjbdmibbbpdnnaa
open Go.RowKit
def Dq:Nat->St->List AC->Option (List AC×St)
 |0,st,cs=>if cs.all (·.settled) then some (cs,st) else none
 |n+1,st,cs=>
  match cs.find? (λc=>!c.settled) with
  |none=>some (cs,st)
  |some (.own l _ _)=>match st.at l with
   |some (.arr fr _ e _ xs)=>Dq n (st.freeze l fr e xs) (cs.map (Az l fr e xs))
   |some (.Df e _ xs)=>Dq n (st.freeze l false e xs) (cs.map (Az l false e xs))
   |_=>none
  |some (.Gf l)=>match st.at l with
   |some (.Oh v m)=>Dq n (st.Ej l v m) (cs.map (Dj l v m))
   |_=>none
  |some _=>none
def settle (st:St):AV->Option (AV×St)
 | .at (.own l off len)=>match st.at l with
  |some (.arr fr _ e _ xs)=>some (.at (.data fr (.slice e) ((xs.drop off).take len)),st.freeze l fr e xs)
  |some (.Df e _ xs)=>some (.at (.data false (.slice e) ((xs.drop off).take len)),st.freeze l false e xs)
  |_=>none
 | .at (.Gf l)=>match st.at l with
  |some (.Oh v m)=>some (.at (.data false (.smap v) m),st.Ej l v m)
  |_=>none
 | .at a=>if a.settled then some (.at a,st) else none
 | .agg cs=>(Dq cs.length st cs).map λp=>(.agg p.1,p.2)
 | .Uc fr τ x=>some (.Uc fr τ x,st)
 | .It _=>none
def AC.refs:AC->List Nat
 | .own l _ _| .Dw l _| .Fq l _| .Gf l| .sub l _ _| .Fo l _ _=> [l]
 | .clo _ Bs=>Bs.map (·.1)
 |_=> []
def Sn:List Nat->Bool
 | []=>true
 |a::r=>!r.contains a&&Sn r
def Ty.tree:Ty->Bool
 | .int _| .bool| .str| .unit=>true
 | .slice e=>e.tree
 | .pair a r=>a.tree&&r.tree
 |_=>false
def Ll (st:St):AC->Bool
 | .data _ τ _=>τ.flat
 | .Hm=>true
 | .own l _ _=>match st.at l with
  |some (.arr _ tr e _ _)=>tr||e.flat
  |some (.Df _ _ _)=>true
  |_=>false
 |_=>false
def Mp (st:St):AV->Bool
 | .at a=>Ll st a
 | .agg cs=>cs.all (Ll st)&&Sn (cs.flatMap AC.refs)
 |_=>false
def Aj:Nat:=1000000000
variable (T:Tab)
def zG (t:TypeId) (τ:Ty) (i:Nat):Option TypeId:=
 if τ.Ab then (List.range 24).findSome? λf=>match T.off t f with
  |some (o,u)=>if o=i then some u else none
  |none=>none
 else some t
def Tab.zS (te:TypeId):Option Ty:=if T.QJ.contains te then (match T.ty te with
 |some (.slice e)=>some e
 |_=>none) else none
def Xq (te:TypeId) (e:Ty):OB:=match T.zS te with
 |some e'=> .Ak e' te [] none none
 |none=> .arr (T.me||e.flat) T.tw e te []
def Nk (b:OB) (key l i:Nat) (st:St):St:=
 match st.at l with
 |some (.var _ vs)=>match vs[i]? with
  |some .Hm=>
   let s1:=st.new key b
   match s1.at l with
   |some (.var tid tV)=>s1.Fu l (.var tid (Nn tV i (.own key 0 0)))
   |_=>s1
  |_=>st
 |_=>st
def ae (l:Nat) (t:TypeId) (τ:Ty):Nat->Nat->St->St
 |0,_,st=>st
 |n+1,i,st=>
  ae l t τ n (i+1) (match ((zG T t τ i).bind T.elem).bind λte=>(T.ty te).map λe=>(te,e) with
   |some (te,e)=>Nk (Xq T te e) (100000+l*100+i) l i st
   |none=>st)
def Yl (l off:Nat) (t:TypeId) (τ:Ty):Nat->Nat->St->St
 |0,_,st=>st
 |n+1,i,st=>
  Yl l off t τ n (i+1) (match ((zG T t τ i).bind T.elem).bind λte=>(T.ty te).map λe=>(te,e) with
   |some (te,e)=>Nk (Xq T te e) (100000+l*100+(off+i)) l (off+i) st
   |none=>st)
def zeroCells:(τ:Ty)->List AC
 | .unit=> []
 | .pair a r=>zeroCells a++zeroCells r
 | .slice _=> [.Hm]
 | .oslice _=> [.Hm]
 | .ptr _=> [.Qn]
 | .optr _=> [.Qn]
 | .clo _ _=> [.undef]
 |τ=> [.data true τ τ.zero]
def cellsOf (τ:Ty):AV->Option (List AC)
 | .agg cs=>if τ.Ab&&cs.length==τ.size then some cs else none
 | .at (.data fr Iv x)=>if Iv=τ then some (Rf fr Iv x) else none
 | .at .undef=>none
 | .at .skip=>none
 | .at a=>if τ.Ab then none else some [a]
 |_=>none
def mkVar (st:St) (l:Nat) (t:TypeId) (τ:Ty) (cs:List AC):Option (AV×St):=
 if Aj<=100000+l*100+cs.length then none else
 let s:=ae T l t τ cs.length 0 (st.new l (.var t (cs.map (Ay l))))
 match s.at l with
 |some (.var _ _)=>some (.at (.Dw l 0),s)
 |_=>none
def Bf {α:Type} (xs:List α) (i:Nat) (ys:List α):List α:=xs.take i++ys++xs.drop (i+ys.length)
def Nr (st:St) (t:TypeId) (p v:AV):Option St:=
 match T.ty t,p with
 |some τ, .at (.Dw l i)=>match st.at l,cellsOf τ v with
  |some (.var tid vs),some cs=>if i+cs.length<=vs.length then some (if τ.Ab&&Nat.blt (100000+l*100+(i+cs.length)) Aj then Yl T l i t τ cs.length 0 (st.Fu l (.var tid (Bf vs i cs))) else st.Fu l (.var tid (Bf vs i cs))) else none
  |_,_=>none
 |some τ, .at (.Fq l j)=>match settle st v with
  |some (v',st')=>match st'.at l,Cr st' τ v' with
   |some (.arr fr tr e tid xs),some (On,x)=>if h:τ=e then (if j<xs.length then some (st'.Fu l (.arr (fr&&On) (tr&&(Mp st v&&e.tree)) e tid (xs.set j (h▸x)))) else none) else none
   |_,_=>none
  |none=>none
 |_,_=>none
def Bm:Nat:=4294967296
def Io (st:St) (dst:Nat) (t:TypeId) (x y:Operand):Option (AV×St):=
 match T.elem t with
 |none=>none
 |some te=>match T.ty te,settle st (st.ev y) with
  |some e,some (y',st')=>match Cr st' (.slice e) y' with
   |none=>none
   |some (ll,ys)=>
    let tr2:=e.flat||(Mp st (st.ev y)&&e.tree)
    match st'.ev x with
    | .at .Hm=>if ys.length<=Bm/\dst<Aj then some (.at (.own dst 0 (0+ys.length)),(st'.new dst (.arr (T.me||e.flat) T.tw e te [])).new dst (.arr ((T.me||e.flat)&&(ll||e.flat)) (T.tw&&tr2) e te (((([]:List e.den).drop 0).take 0)++ys))) else none
    | .at (.own l off len)=>match st'.at l with
     |some (.arr fr tr e' tid xs)=>if h:e'=e/\tid=te then
       (if len+ys.length<=Bm/\l<Aj then
        some (.at (.own l 0 (len+ys.length)),st'.new l (.arr (fr&&(ll||e.flat)) (tr&&tr2) e te ((((h.1▸xs:List e.den).drop off).take len)++ys))) else none)
      else none
     |_=>none
    |_=>none
  |_,_=>none
def Ka (st:St) (l i m:Nat) (e:Ty) (te tid:TypeId) (rows:List (List e.den)) (kp:Option (Nat×Nat)):St:=
 (st.Fu l (.Ak e te rows (some i) kp)).new m (.arr false false e tid (rows.getD i []))
def Lc (st:St) (dst:Nat) (t:TypeId) (x y:Operand):Option (AV×St):=
 match x with
 | .tmp tx=>match st.get tx with
  | .at (.sub l i _)=>match st.at l,T.elem t with
   |some (.Ak e te rows none kp),some tid=>if (Nat.blt l Aj&&(Nat.blt dst Aj&&!Nat.beq dst l))=true then Io T ((Ka st l i dst e te tid rows kp).put (some tx) (.at (.own dst 0 (rows.getD i []).length))) dst t x y else none
   |_,_=>none
  |_=>Io T st dst t x y
 |_=>Io T st dst t x y
def fP:Ty->Bool
 | .int _| .bool| .str| .slice _| .oslice _=>true
 |_=>false
def aH:Ty->Bool
 | .unit=>true
 | .pair a r=>aH a&&aH r
 |e=>fP e
def Ul (st:St) (dst:Nat) (t:TypeId) (l c:AV):Option (AV×St):=
 match T.elem t,l,c with
 |some te, .at (.data _ (.int _) n), .at (.data _ (.int _) m)=>match T.ty te with
  |some e=>if RS n (Bm+1)=true/\n=m/\aH e=true/\dst<Aj then some (.at (.own dst 0 n.toNat),st.new dst (.arr (T.me||e.flat) (T.tw&&e.tree) e te (List.replicate n.toNat e.zero))) else none
  |none=>none
 |_,_,_=>none
def Gm (e:Ty):Nat->List (Nat×Operand)->St->Option (Bool×Bool×List e.den×St)
 |_,[],st=>some (true,true,[],st)
 |i,(j,x)::r,st=>
  if i=j then match settle st (st.ev x) with
   |some (v,st')=>match Cr st' e v with
    |some (fr,y)=>match Gm e (i+1) r st' with
     |some (On,KZ,ys,Agc)=>some (fr&&On,Mp st (st.ev x)&&e.tree&&KZ,y::ys,Agc)
     |none=>none
    |none=>none
   |none=>none
  else none
def Hi (st:St) (dst:Nat) (t:TypeId) (len:Nat) (parts:Array (Nat×Operand)):Option (AV×St):=
 match T.elem t with
 |none=>none
 |some te=>match T.ty te with
  |none=>none
  |some e=>if parts.size=len/\len<=64/\e.size<=64/\dst<Aj then (match Gm e 0 parts.toList st with
   |some (fr,tr,ys,st')=>some (.at (.own dst 0 len),st'.new dst (.arr ((T.me||e.flat)&&fr) (T.tw&&tr) e te ys))
   |none=>none) else none
def Nq (st:St) (dst:Nat) (t:TypeId):Option (AV×St):=
 match T.mapOf t with
 |some v=>if dst<Aj then some (.at (.Gf dst),st.new dst (.Oh v λ_=>none)) else none
 |none=>none
def aE {α:Type} (m:ByteArray->Option α) (k:ByteArray) (x:α):ByteArray->Option α:= λs=>if s=k then some x else m s
def Er (st:St) (t:TypeId) (m k x:AV):Option St:=
 match T.mapOf t,m,k with
 |some v, .at (.Gf l), .at (.data _ .str s)=>match st.at l,Cr st v x with
  |some (.Oh v' f),some (_,y)=>if h:v'=v/\v.flat=true/\v.Ab=false then some (st.Fu l (.Oh v (aE (h.1▸f:ByteArray->Option v.den) s y))) else none
  |_,_=>none
 |_,_,_=>none
def bO (st:St) (t t':TypeId) (x y:AV):Option (AV×St):=
 match x,(T.elem t).bind T.ty with
 | .at (.own l off len),some e=>if T.elem t=T.elem t'/\e.flat=true/\e.size=1 then match st.at l,Cr st (.slice e) y with
  |some (.arr fr _ e' tid xs),some (_,ys)=>if h:e'=e/\T.elem t=some tid then
    some (.at (.data true (.int .i64) (min len ys.length:Nat)),st.Fu l (.arr fr false e tid (Bf (h.1▸xs:List e.den) off (ys.take len))))
   else none
  |_,_=>none
  else none
 |_,_=>none
def evalClear (st:St) (t:TypeId) (x:AV):Option St:=
 match x,(T.elem t).bind T.ty with
 | .at (.own l off len),some e=>if e.flat=true/\fP e=true then match st.at l with
  |some (.arr fr _ e' tid xs)=>if h:e'=e/\T.elem t=some tid then
    some (st.Fu l (.arr fr false e tid (Bf (h.1▸xs:List e.den) off (List.replicate len e.zero))))
   else none
  |_=>none
  else none
 |_,_=>none
def Hf (st:St) (t:TypeId):List (Nat×Operand)->List AC->Option (List AC)
 | [],cs=>some cs
 |(i,x)::r,cs=>
  match T.off t i with
  |some (o,u)=>match T.ty u with
   |some ρ=>match cellsOf ρ (st.ev x) with
    |some c=>if o+c.length<=cs.length then Hf st t r (Bf cs o c) else none
    |none=>none
   |none=>none
  |none=>none
def Qa (st:St) (t:TypeId) (parts:Array (Nat×Operand)):Option AV:=
 match T.ty t with
 |none=>none
 |some τ=>if τ.Ab then (Hf T st t parts.toList (zeroCells τ)).map .agg else none
def Bo (io:Bool) (k:Nat):Nat:=if io then 1000000000+k else 500000+k
def Fh (k:Nat):Nat:=600000+k
def JC (dst:Nat) (k:Nat):Nat:=1000000*(dst+1)+k
def Mi:List (Option Nat)->List AC->List AV
 |none::s,a::as=> .at a::Mi s as
 |some n::s,as=> .agg (as.take n)::Mi s (as.drop n)
 |_,_=> []
def Gp:List (Option Nat)->List Value->List Value
 |none::s,u::us=>u::Gp s us
 |some n::s,us=> .agg (us.take n).toArray::Gp s (us.drop n)
 |_,_=> []
def ungroup:List (Option Nat)->List AV->Option (List AC)
 | [],[]=>some []
 |none::s, .at a::as=>(ungroup s as).map λr=>a::r
 |some n::s, .agg cs::as=>if cs.length=n then (ungroup s as).map λr=>cs++r else none
 |_,_=>none
def dH (l:Nat):(c:CK)->c.den->Option OB
 | .Fc _,_=>none
 | .row e te,xs=>some (.arr false false e te xs)
 | .Du e te,xs=>some (.Df e te xs)
 | .part e te,x=>some (.arr false false e te x.1)
 | .Ak e te kp,xs=>some (.Ak e te xs none (if kp then some (l,List.length xs) else none))
def Adb (l:Nat):(c:CK)->c.den->AC
 | .Fc τ,x=> .data τ.flat τ x
 | .row _ _,xs=> .own l 0 (List.length xs)
 | .Du _ _,xs=> .own l 0 (List.length xs)
 | .part _ _,x=> .own l x.2.1 x.2.2
 | .Ak _ _ _,xs=> .own l 0 (List.length xs)
def bI {α:Type} (l:Nat):Option α->List (Nat×α)->List (Nat×α)
 |none,r=>r
 |some b,r=>(l,b)::r
def Ry:(k:Nat)->(cs:List (Bool×CK))->Ins.den cs->List (Nat×OB)
 |_,[],_=> []
 |k,p::r,x=>bI (Bo p.1 k) (dH (Bo p.1 k) p.2 x.1) (Ry (k+1) r x.2)
def Us:(k:Nat)->(cs:List (Bool×CK))->Ins.den cs->List AC
 |_,[],_=> []
 |k,p::r,x=>Adb (Bo p.1 k) p.2 x.1::Us (k+1) r x.2
inductive Loc where
 |row (l:Nat)
 |sub (l i c:Nat)
 |view (l:Nat)
 deriving DecidableEq
def Loc.Pq:Loc->Nat
 | .row l=>l
 | .sub l _ _=>l
 | .view l=>l
def Loc.reads:Loc->Bool
 | .view _=>true
 |_=>false
def Vh (st:St) (ls:List Nat):Bool:=ls.all λl=>match st.at l with|some (.var _ vs)=>vs.all (·.settled)|_=>false
def views (k:Nat) (ls:List Nat):List (Nat×Loc):=ls.map λl=>(Bo false k, .view l)
def Hb (st:St) (io:Bool) (k:Nat):(c:CK)->AC->Option (c.den×List (Nat×Loc))
 | .Fc τ, .own l off len=>(Bj st τ (.own l off len)).map λp=>(p.2,[(Bo false k, .view l)])
 | .Fc τ, .clo g Bs=>if Vh st (Bs.map (·.1))&&!τ.Ab then (Fb st τ (.clo g Bs)).map λp=>(p.2,views k (Bs.map (·.1))) else none
 | .Fc τ, .Dw l i=>if Vh st [l]&&!τ.Ab then (Fb st τ (.Dw l i)).map λp=>(p.2,views k [l]) else none
 | .Fc τ, .sub l i c=>(Bj st τ (.sub l i c)).map λp=>(p.2,[(Bo false k, .view l)])
 | .Fc τ,a=>if τ.flat||a.settled then (Bj st τ a).map λp=>(p.2,[]) else none
 | .row e te, .own l off len=>match st.at l with
  |some (.arr _ _ e' Kz xs)=>if h:e'=e/\Kz=te/\off=0/\len=xs.length then some ((h.1▸xs:List e.den),[(Bo io k, .row l)]) else none
  |_=>none
 | .row e _, .sub l i c=>match st.at l with
  |some (.Df e' _ xs)=>if h:e'= .slice e/\e.flat=true/\io=true/\c=0 then xs[i]?.map λy=>((h.1▸y:(Ty.slice e).den),[(Bo io k, .sub l i c)]) else none
  |_=>none
 | .row _ _, .Hm=>some ([],[])
 | .Du e te, .own l off len=>match st.at l with
  |some (.Df e' Kz xs)=>if h:e'=e/\Kz=te/\off=0/\len=xs.length then some ((h.1▸xs:List e.den),[(Bo io k, .row l)]) else none
  |_=>none
 | .Du e _, .sub l i c=>match st.at l with
  |some (.Df e' _ xs)=>if h:e'= .slice e/\io=true/\c=0 then xs[i]?.map λy=>((h.1▸y:(Ty.slice e).den),[(Bo io k, .sub l i c)]) else none
  |_=>none
 | .Du _ _, .Hm=>some ([],[])
 | .part e te, .own l off len=>match st.at l with
  |some (.arr _ _ e' Kz xs)=>if h:e'=e/\Kz=te/\e.flat=true/\io=true then some (((h.1▸xs:List e.den),off,len),[(Bo io k, .row l)]) else none
  |_=>none
 | .Ak e te _, .own l off len=>match st.at l with
  |some (.Ak e' Kz rows none _)=>if h:e'=e/\Kz=te/\off=0/\len=rows.length/\io=false then some ((h.1▸rows:List (List e.den)),[(Bo io k, .row l)]) else none
  |_=>none
 |_,_=>none
def aD (st:St):(k:Nat)->(cs:List (Bool×CK))->List AC->Option (Ins.den cs×List (Nat×Loc))
 |_,[],[]=>some ((),[])
 |k,p::r,a::as=>match Hb st p.1 k p.2 a,aD st (k+1) r as with
  |some (x,t1),some (y,t2)=>some ((x,y),t1++t2)
  |_,_=>none
 |_,_,_=>none
def Vm (st:St):(c:CK)->c.den->AC->Option St
 | .row e _,ys, .own l _ len=>match st.at l with
  |some (.arr fr tr e' te xs)=>if h:e=e'/\List.length ys=len/\xs.length=len then some (st.Fu l (.arr (fr&&e'.flat) (tr&&e'.flat) e' te (h.1▸ys))) else none
  |_=>none
 | .Du e _,ys, .own l _ len=>match st.at l with
  |some (.Df e' te xs)=>if h:e=e'/\List.length ys=len/\xs.length=len then some (st.Fu l (.Df e' te (h.1▸ys))) else none
  |_=>none
 | .row e _,ys, .sub l i _=>match st.at l with
  |some (.Df e' te xs)=>if h: .slice e=e' then (match xs[i]? with
   |some y=>if List.length ys=List.length (h▸y:(Ty.slice e).den) then some (st.Fu l (.Df e' te (xs.set i (h▸(ys:(Ty.slice e).den))))) else none
   |none=>none) else none
  |_=>none
 | .Du e _,ys, .sub l i _=>match st.at l with
  |some (.Df e' te xs)=>if h: .slice e=e' then (match xs[i]? with
   |some y=>if List.length ys=List.length (h▸y:(Ty.slice e).den) then some (st.Fu l (.Df e' te (xs.set i (h▸(ys:(Ty.slice e).den))))) else none
   |none=>none) else none
  |_=>none
 |_,_, .Hm=>some st
 |_,_,_=>none
def yJ (st:St) (e:Ty) (ys:List e.den):AC->Option St
 | .own l _ _=>match st.at l with
  |some (.arr fr tr e' te xs)=>if h:e=e'/\List.length ys=xs.length then some (st.Fu l (.arr fr tr e' te (h.1▸ys))) else none
  |_=>none
 |_=>none
def Ec:(cs:List (Bool×CK))->IOs.den cs->List AC->St->Option St
 | [],_,_,st=>some st
 |(true, .Fc _)::r,x,_::as,st=>Ec r x as st
 |(true, .row e te)::r,x,a::as,st=>match Vm st (.row e te) x.1 a with
  |some st'=>Ec r x.2 as st'
  |none=>none
 |(true, .Du e te)::r,x,a::as,st=>match Vm st (.Du e te) x.1 a with
  |some st'=>Ec r x.2 as st'
  |none=>none
 |(true, .part e _)::r,x,a::as,st=>match yJ st e x.1 a with
  |some st'=>Ec r x.2 as st'
  |none=>none
 |(true, .Ak _ _ _)::r,x,_::as,st=>Ec r x as st
 |(false,_)::r,x,_::as,st=>Ec r x as st
 |_,_,_,_=>none
def Au (dead part:List Nat) (c:AC):AC:=if c.refs.any (λl=>dead.contains l) then .undef else match c with
 | .sub l i c=>if part.contains l then .undef else .sub l i c
 | .Fo l i c=>if part.contains l then .undef else .Fo l i c
 |c=>c
def Py:List (Nat×OB)->List Nat->List (Nat×OB)
 | [],_=> []
 |(k,b)::r,dead=>if dead.contains k then Py r dead else (k,b)::Py r dead
def St.Vu (st:St) (dead part:List Nat):St:=let s:=st.Ge (Au dead part); {s with heap:=Py s.heap dead}
def Ms (st:St) (l j m:Nat) (e:Ty) (te:TypeId) (rows:List (List e.den)) (xs:List e.den) (kp:Option (Nat×Nat)):St:=
 (st.Vu [m] [l]).Fu l (.Ak e te (rows.set j xs) none kp)
def Uw (j:Nat):Option (Nat×Nat)->Option (Nat×Nat)
 |none=>none
 |some p=>some (p.1,min p.2 j)
def Uo (st:St) (t:TypeId) (p v:AV):Option St:=
 match T.ty t,p with
 |some τ, .at (.Fo l i j)=>match settle st v with
  |some (v',st')=>match st'.at l,Cr st' τ v' with
   |some (.Ak e te rows none kp),some (_,x)=>if h:τ=e then some (st'.Fu l (.Ak e te (rows.set i ((rows.getD i []).set j (h▸x))) none kp)) else none
   |_,_=>none
  |none=>none
 |some τ, .at (.Fq l j)=>match st.at l,v with
  |some (.Ak e te rows out kp), .at (.own m off len)=>match st.at m with
   |some (.arr _ _ e' _ xs)=>if h:e'=e/\(Nat.blt l Aj&&(!Nat.beq m l&&!τ.Ab))=true/\off=0/\len=xs.length/\(out=none\/out=some j) then some (Ms st l j m e te rows (h.1▸xs) (Uw j kp)) else none
   |_=>none
  |_,_=>none
 |_,_=>none
def zT (st:St):AV->Bool
 | .at (.Fo _ _ _)=>true
 | .at (.Fq l _)=>match st.at l with
  |some (.Ak _ _ _ _ _)=>true
  |_=>false
 |_=>false
def Jt (st:St) (t:TypeId) (p v:AV):Option St:=match zT st p with
 |true=>Uo T st t p v
 |false=>Nr T st t p v
def Kv (st:St) (k m:Nat) (b:OB):St:=let s:=st.Vu [m,k] []; {s with heap:=Iy s.heap k b}
def Xy (t:TypeId):Option (TypeId×Ty):=(T.elem t).bind λte=>(T.zS te).map λe=>(te,e)
def Qd (st:St) (dst:Nat) (t:TypeId) (l c:AV):Option (AV×St):=
 match Xy T t with
 |none=>Ul T st dst t l c
 |some (te,e)=>match l,c with
  | .at (.data _ (.int _) n), .at (.data _ (.int _) m)=>if RS n (Bm+1)=true/\n=m/\dst<Aj then some (.at (.own dst 0 n.toNat),Kv st dst dst (.Ak e te (List.replicate n.toNat []) none none)) else none
  |_,_=>none
def Eo (st:St) (dst:Nat) (t:TypeId) (len:Nat) (parts:Array (Nat×Operand)):Option (AV×St):=
 match Xy T t with
 |none=>Hi T st dst t len parts
 |some (te,e)=>match parts.toList with
  | [(0,x)]=>match st.ev x with
   | .at (.own m off ln)=>match st.at m with
    |some (.arr _ _ e' _ xs)=>if h:e'=e/\(Nat.beq len 1&&(Nat.blt dst Aj&&Nat.blt m Aj))=true/\off=0/\ln=xs.length then some (.at (.own dst 0 1),Kv st dst m (.Ak e te [h.1▸xs] none none)) else none
    |_=>none
   |_=>none
  |_=>none
def Ld (st:St) (dst:Nat) (t:TypeId) (x y:Operand):Option (AV×St):=
 match Xy T t with
 |none=>Lc T st dst t x y
 |some (te,e)=>match st.ev x,st.ev y with
  | .at (.own l off len), .at (.own m JD mI)=>match st.at l,st.at m with
   |some (.Ak e1 te1 A none _),some (.Ak e2 pe B none _)=>
    if h:(e1=e/\e2=e)/\(decide (te1=te)&&decide (pe=te)&&(Nat.blt l Aj&&(Nat.blt m Aj&&!Nat.beq m l)))=true/\(off=0/\len=A.length)/\(JD=0/\mI=B.length)/\0<B.length/\A.length+B.length<=Bm then
     some (.at (.own l 0 (A.length+B.length)),Kv st l m (.Ak e te ((h.1.1▸A:List (List e.den))++(h.1.2▸B:List (List e.den))) none none))
    else none
   |_,_=>none
  |_,_=>none
def oG (fr:Bool):(c:CK)->c.den->Option OB
 | .Fc _,_=>none
 | .row e te,xs=>some (.arr (fr&&e.flat) false e te xs)
 | .Du e te,xs=>some (.Df e te xs)
 | .part e te,x=>some (.arr (fr&&e.flat) false e te x.1)
 | .Ak e te _,xs=>some (.Ak e te xs none none)
def vf (H:List (Nat×OB)) (l:Nat):Option OB->List (Nat×OB)
 |some b=>Iy H l b
 |none=>H
def Qp (fr:Bool) (key:Nat->Nat):(k:Nat)->(cs:List CK)->CKs.den cs->List (Nat×OB)->List (Nat×OB)
 |_,[],_,H=>H
 |k,c::r,x,H=>Qp fr key (k+1) r x.2 (vf H (key k) (oG fr c x.1))
def Uz (key:Nat->Nat):(k:Nat)->(cs:List CK)->CKs.den cs->List AC
 |_,[],_=> []
 |k,c::r,x=>(match c,x.1 with
  | .Fc τ,y=> .data τ.flat τ y
  | .row _ _,xs=> .own (key k) 0 (List.length xs)
  | .Du _ _,xs=> .own (key k) 0 (List.length xs)
  | .Ak _ _ _,xs=> .own (key k) 0 (List.length xs)
  | .part _ _,_=> .undef)::Uz key (k+1) r x.2
def So:List (Option Nat)->List AC->List (Bool×List AC)
 |none::s,a::as=>(false,[a])::So s as
 |some n::s,as=>(true,as.take n)::So s (as.drop n)
 |_,_=> []
def Ab0 (Fv:Bool) (sh:List (Option Nat)) (as:List AC):Option AV:=
 if Fv then some (.It (So sh as)) else match Mi sh as with
  | [v]=>some v
  | []=>some .undef
  |_=>none
def gf (tks:List (Nat×Loc)):List Nat:=(tks.filter λt=>Nat.blt t.1 Aj&&!t.2.reads).map λt=>t.2.Pq
def whole (tks:List (Nat×Loc)):List Nat:=tks.flatMap λt=>match t.2 with| .row l=> [l]|_=> []
def tD (tks:List (Nat×Loc)):List Nat:=(tks.filter λt=>t.2.reads).map λt=>t.2.Pq
def vB (ins:List (Bool×CK)) (te:TypeId) (used:List Nat):List (Nat×Loc)->Option Nat
 | []=>none
 |(k, .row l)::r=>if Nat.blt k Aj&&(!used.contains l&&(match ins[k-500000]? with
   |some (false, .row _ Kz)=>decide (Kz=te)
   |some (false, .Du _ Kz)=>decide (Kz=te)
   |some (false, .Ak _ Kz _)=>decide (Kz=te)
   |_=>false)) then some l else vB ins te used r
 |_::r=>vB ins te used r
def yh (ins:List (Bool×CK)) (tks:List (Nat×Loc)) (d:Nat):(k:Nat)->(used:List Nat)->List CK->List Nat
 |_,_,[]=> []
 |k,used,c::r=>match (match c with
   | .row _ te=>vB ins te used tks
   | .Du _ te=>vB ins te used tks
   | .Ak _ te _=>vB ins te used tks
   |_=>none) with
  |some l=>l::yh ins tks d (k+1) (l::used) r
  |none=>JC d k::yh ins tks d (k+1) used r
def fX (s:MSpec) (tks:List (Nat×Loc)) (d:Nat):List Nat:=yh s.ins tks d 0 [] s.outs
def Bp (ks:List Nat) (j:Nat):Nat:=match ks[j]? with
 |some l=>l
 |none=>Aj+j
def s6 (ks:List Nat) (n:Nat):Bool:=Nat.beq ks.length n&&(Sn ks&&ks.all λl=>Nat.blt l Aj)
def zO (st:St) (l:List Nat):Bool:=l.all λk=>match st.at k with|some (.arr fr _ _ _ _)=>fr|_=>false
def AR (st:St) (s:MSpec) (args:List AV):Option (List Nat×List AC×List AV):=
 match s.ptr with
 |none=>some ([],[],args)
 |some p=>match args with
  | .at (.Dw l i)::rest=>match st.at l with
   |some (.var tid vs)=>if tid=p.1/\vs.length=p.2/\i=0 then some ([l],vs,rest) else none
   |_=>none
  |_=>none
def Ou:List (Bool×CK)->List AC->Bool
 |(true, .row _ _)::r, .own _ _ _::as=>Ou r as
 |(true, .Du _ _)::r, .own _ _ _::as=>Ou r as
 |(true,_)::_,_::_=>false
 |(false,_)::r,_::as=>Ou r as
 |_,as=>as.isEmpty
def aX {α:Type} :List (Bool×CK)->List α->List α->List α
 |(true,_)::r,v::vs,as=>v::aX r vs as
 |(false,_)::r,_::vs,a::as=>a::aX r vs as
 |_,vs,_=>vs
def nj:List (Bool×CK)->Nat->Nat
 |(true,_)::r,n+1=>nj r n
 |(false,_)::r,n+1=>nj r n+1
 |_,_=>0
def MSpec.Sv (s:MSpec):Nat:=match s.ptr with|none=>0|some p=>nj s.ins p.2
def l4 (ins:List (Bool×CK)) (as:List AC) (pl:List Nat) (st:St):St:=
 match pl with
 | []=>st
 |l::_=>match st.at l with
  |some (.var tid vs)=>st.Fu l (.var tid (aX ins vs as))
  |_=>st
def Mq (d:Nat):Nat:=JC d 999
def fF (s:MSpec) (d:Nat):List Nat:=match s.rp with|none=> []|some _=> [Mq d]
def Lo (s:MSpec) (tks:List (Nat×Loc)) (d:Nat):List Nat:=fX s tks d++fF s d
def gD (H:List (Nat×OB)) (l:Nat):Bool:=match Ae H l with
 |some (.Ak _ _ _ _ _)=>true
 |_=>false
def Uv (H:List (Nat×OB)) (ks:List Nat) (tks:List (Nat×Loc)):List (Nat×Nat)->List Nat
 | []=> []
 |(k,j)::r=>match tks.find? (λt=>Nat.beq t.1 (Bo false k)),ks[j]? with
  |some (_, .row l),some l'=>if Nat.beq l' l&&gD H l then l::Uv H ks tks r else Uv H ks tks r
  |_,_=>Uv H ks tks r
def lq (H:List (Nat×OB)) (l:Nat):Nat:=match Ae H l with
 |some (.Ak _ _ rows _ _)=>rows.length
 |_=>0
def Xh (H:List (Nat×OB)) (ls:List Nat) (n:Nat):List AV->Bool
 | []=>true
 | .at (.sub l i _)::r=>(!ls.contains l||(Nat.blt i n&&Nat.blt i (lq H l)))&&Xh H ls n r
 |_::r=>Xh H ls n r
def Gu (ls:List Nat):List AV->List AV->List AV
 | .at (.sub l i c)::r,v::vs=>(if ls.contains l then .at (.sub l i c) else v)::Gu ls r vs
 |_::r,v::vs=>v::Gu ls r vs
 |_,vs=>vs
def UK:Option OB->Option (Nat×Nat)
 |some (.Ak _ _ _ _ kp)=>kp
 |_=>none
def OB.wy (b:OB) (kp:Option (Nat×Nat)):OB:=match b with
 | .Ak e te rows out _=> .Ak e te rows out kp
 |b=>b
def Wv (H0:List (Nat×OB)) (ls:List Nat) (n:Nat):List (Nat×OB)->List (Nat×OB)
 | []=> []
 |(l,b)::r=>(l,if ls.contains l then b.wy (Uw n (UK (Ae H0 l))) else b)::Wv H0 ls n r
def fq (bd st:St) (ls:List Nat) (n:Nat):St:=match ls with
 | []=>st
 |_=> {tmps:=Gu ls bd.tmps st.tmps,heap:=Wv bd.heap ls n st.heap}
def OU (s:MSpec) (d:Nat) (as:List AC):Option AV:=match s.rp with
 |none=>Ab0 s.Fv s.Fz as
 |some _=>some (.at (.Dw (Mq d) 0))
def eR (st st1:St) (d:Nat) (s:MSpec) (pl:List Nat) (tks:List (Nat×Loc)) (r:CKs.den s.outs):St:=
 let ks:=Lo s tks d
 let key:=Bp ks
 let st2:=l4 s.ins (Uz key 0 s.outs r) pl (st1.Vu (gf tks++ks++(if s.flat then [] else tD tks)) (whole tks))
 {st2 with heap:=Qp (zO st (gf tks)) key 0 s.outs r (vf st2.heap (Mq d) (s.rp.map λtid=> .var tid ((Uz key 0 s.outs r).drop s.Sv)))}
def Qb (st:St) (dst:Option Nat) (s:MSpec) (args:List AV):Option (AV×St):=
 match AR st s args with
 |none=>none
 |some (pl,vs,rest)=>match ungroup s.Gy rest with
 |none=>none
 |some iz=>match aD st 0 s.ins (vs++iz) with
  |none=>none
  |some (x,tks)=>if Sn (tks.map λt=>t.2.Pq)&&s6 (Lo s tks (dst.getD 0)) (s.outs.length+(fF s (dst.getD 0)).length)&&Nat.blt s.outs.length 1000&&Nat.blt s.ins.length 1000&&(Ou s.ins vs&&pl.all λl=>!((tks.map λt=>t.2.Pq)++Lo s tks (dst.getD 0)).contains l) then match s.fn x with
   |none=>none
   |some (r,o)=>match Ec s.ins o (vs++iz) st with
    |none=>none
    |some st1=>match OU s (dst.getD 0) ((Uz (Bp (Lo s tks (dst.getD 0))) 0 s.outs r).drop s.Sv) with
     |none=>none
     |some v=>if Xh (eR st st1 (dst.getD 0) s pl tks r).heap (Uv st.heap (Lo s tks (dst.getD 0)) tks s.keeps) (s.Cs x) st.tmps=true then
       some (v,fq st (eR st st1 (dst.getD 0) s pl tks r) (Uv st.heap (Lo s tks (dst.getD 0)) tks s.keeps) (s.Cs x)) else none
   else none
def Jk:List Operand->St->Option St
 | [],st=>some st
 |x::r,st=>match settle st (st.ev x) with
  |some (_,st')=>Jk r st'
  |none=>none
def a6 (s:Spec) (args:List AV):Bool:=!(s.fresh||s.res.flat||args.all (·.settled))
def evalOp (Γ:Env) (st:St) (o:Oper):Option (AV×St):=
 match o.op with
 | .assign x=>match st.ev x,o.dst,(T.elem o.type).bind λte=>(T.ty te).map λe=>(te,e) with
  | .at .Hm,some d,some (te,e)=>if d<Aj then some (.at (.own d 0 0),st.new d (.arr (T.me||e.flat) T.tw e te [])) else none
  |v,_,_=>some (v,st)
 | .alloc t=>match o.dst,T.ty t with
  |some d,some τ=>mkVar T st d t τ (zeroCells τ)
  |_,_=>none
 | .box t x=>match o.dst,T.ty t with
  |some d,some τ=>match cellsOf τ (st.ev x) with
   |some cs=>mkVar T st d t τ cs
   |none=>none
  |_,_=>none
 | .store t p x=>(Jt T st t (st.ev p) (st.ev x)).map λs=>(.undef,s)
 | .makeSlice t l c=>match o.dst with
  |some d=>Qd T st d t (st.ev l) (st.ev c)
  |none=>none
 | .makeMap t none=>match o.dst with
  |some d=>Nq T st d t
  |none=>none
 | .mapUpdate t m k x=>(Er T st t (st.ev m) (st.ev k) (st.ev x)).map λs=>(.undef,s)
 | .insert t m k x=>(Er T st t (st.ev m) (st.ev k) (st.ev x)).map λs=>(.undef,s)
 | .buildSlice t len parts=>match o.dst with
  |some d=>Eo T st d t len parts
  |none=>none
 | .build t parts=>(Qa T st t parts).map λv=>(v,st)
 | .call {callee:= .builtin .append,args,argTypes} =>match o.dst,args.toList,argTypes.toList with
  |some d,[x,y],[t,t']=>if t=t' then Ld T st d t x y else none
  |_,_,_=>none
 | .call {callee:= .builtin .copy,args,argTypes} =>match args.toList,argTypes.toList with
  | [x,y],[t,t']=>bO T st t t' (st.ev x) (st.ev y)
  |_,_=>none
 | .call {callee:= .builtin .clear,args,argTypes} =>match args.toList,argTypes.toList with
  | [x],[t]=>(evalClear T st t (st.ev x)).map λs=>(.undef,s)
  |_,_=>none
 | .call {callee:= .value (.func f),args, .. } =>match Γ f with
  |some (.m s)=>Qb st o.dst s (args.toList.map st.ev)
  |some (.q s)=>if a6 s (args.toList.map st.ev) then (match Jk args.toList st with
   |some st1=>(Ch T Γ st1 o).map λv=>(v,st1)
   |none=>none) else (Ch T Γ st o).map λv=>(v,st)
  |_=>(Ch T Γ st o).map λv=>(v,st)
 |_=>(Ch T Γ st o).map λv=>(v,st)
def aa (e:Ty):Nat->List (Nat×Operand)->St->Option (Bool×List e.den)
 |_,[],_=>some (true,[])
 |i,(j,x)::r,st=>
  if i=j/\(st.ev x).settled=true then match Cr st e (st.ev x),aa e (i+1) r st with
   |some (fr,y),some (On,ys)=>some (fr&&On,y::ys)
   |_,_=>none
  else none
def Uk (st:St) (t:TypeId) (len:Nat) (parts:Array (Nat×Operand)):Option AV:=
 match T.elem t with
 |none=>none
 |some te=>match T.ty te with
  |none=>none
  |some e=>if parts.size=len/\len<=64/\e.size<=64 then (aa e 0 parts.toList st).map λp=> .at (.data p.1 (.slice e) p.2) else none
def Rq (Γ:Env) (st:St) (o:Oper):Option AV:=
 match o.op with
 | .buildSlice t len parts=>Uk T st t len parts
 | .build t parts=>Qa T st t parts
 |_=>Ch T Γ st o
def IV (q:Bool) (Γ:Env) (o:Oper):Bool:=
 match o.op with
 | .buildSlice _ _ _| .build _ _=>!q
 | .alloc _| .box _ _| .store _ _ _| .makeSlice _ _ _| .makeMap _ _| .mapUpdate _ _ _ _| .insert _ _ _ _=>true
 | .assign (.const _)=>true
 | .call {callee:= .builtin .append, .. } =>true
 | .call {callee:= .builtin .copy, .. } =>true
 | .call {callee:= .builtin .clear, .. } =>true
 | .call {callee:= .value (.func f), .. } =>match Γ f with
  |some (.m _)=>true
  |_=>false
 |_=>false
def Ci (Γ:Env) (ops:Array Oper) (st:St) (o:Oper):Option St:=
 match o.guard with
 |none=>(evalOp T Γ st o).map λr=>r.2.put o.dst r.1
 |some (j,want)=>match Pw st ((ops[j]?).bind (·.dst)) with
  |some (some b)=>if b==want then (evalOp T Γ st o).map λr=>r.2.put o.dst r.1 else some (st.put o.dst (.at .skip))
  |some none=>some (st.put o.dst (.at .skip))
  |none=>none
def Tg (Γ:Env) (ops:Array Oper):List Oper->St->Option St
 | [],st=>some st
 |o::r,st=>match Ci T Γ ops st o with
  |some st'=>Tg Γ ops r st'
  |none=>none
def Ez (q:Bool) (Γ:Env) (ops:Array Oper):List Nat:=
 (List.range ops.size).foldl (init:= []) λacc i=>match ops[i]? with
  |some o=>if IV q Γ o||o.after.any (λe=>Region.binds .any e&&acc.contains e.on) then acc++ [i] else acc
  |none=>acc
def Vw (q:Bool) (Γ:Env) (ops:Array Oper):List Nat:=(List.range ops.size).filter λi=>!(Ez q Γ ops).contains i
def gC (ops:Array Oper) (hd tl:List Nat) (i:Nat):Bool:=
 match ops[i]? with
 |some o=>(match o.op,o.guard with
  | .move (.tmp _),none=>true
  |_,_=>false)&&!((tl.take 1++hd).any λj=>decide (i<j)&&Region.waitsFor .any ops j i)
 |none=>false
def Om (q:Bool) (Γ:Env) (ops:Array Oper):List Nat:=(Vw q Γ ops).filter λi=>gC ops (Vw q Γ ops) (Ez q Γ ops) i
def Oq (q:Bool) (Γ:Env) (ops:Array Oper):List Nat:=(Vw q Γ ops).filter λi=>!gC ops (Vw q Γ ops) (Ez q Γ ops) i
def dm (q:Bool) (Γ:Env) (ops:Array Oper):List Nat:=Om q Γ ops++Oq q Γ ops
def hY (ops:Array Oper):List Nat->Array Bool->Bool
 | [],Ac=>(Region.ready .any ops Ac).isEmpty
 |k::r,Ac=>decide (Region.ready .any ops Ac= [k])&&hY ops r (Ac.setIfInBounds k true)
def iY (ops:Array Oper) (tl:List Nat):List Nat->Array Bool->Bool
 | [],Ac=>hY ops tl Ac
 |k::r,Ac=>(Region.ready .any ops Ac).contains k&&Region.free .any ops Ac k&&iY ops tl r (Ac.setIfInBounds k true)
def fH (ops:Array Oper) (hd:List Nat):List Nat->Bool
 | []=>true
 |f::r=>(hd.all λi=>(f::hd).any λj=>decide (i<j)&&Region.waitsFor .any ops j i)&&chain f r
where chain:Nat->List Nat->Bool
 |_,[]=>true
 |k,t::r=>Region.waitsFor .any ops t k&&chain t r
def gr (ops:Array Oper) (tl hd:List Nat):List Nat->Array Bool->Bool
 | [],Ac=>iY ops tl hd Ac
 |k::r,Ac=>(Region.ready .any ops Ac).contains k&&Region.free .any ops Ac k&&gr ops tl hd r (Ac.setIfInBounds k true)
def dw (q:Bool) (Γ:Env) (ops:Array Oper):Bool:=
 Region.noSelect ops&&((Om q Γ ops).length+((Oq q Γ ops).length+(Ez q Γ ops).length)==ops.size)&&gr ops (Ez q Γ ops) (Oq q Γ ops) (Om q Γ ops) (Array.replicate ops.size false)&&fH ops (Oq q Γ ops) (Ez q Γ ops)
def bo (Γ:Env) (ops:Array Oper) (st:St) (o:Oper):Option AV:=
 match o.guard with
 |none=>Rq T Γ st o
 |some (j,want)=>match Pw st ((ops[j]?).bind (·.dst)) with
  |some (some b)=>if b==want then Rq T Γ st o else some (.at .skip)
  |some none=>some (.at .skip)
  |none=>none
def Ea (Γ:Env) (ops:Array Oper):List Nat->St->Option St
 | [],st=>some st
 |i::r,st=>match ops[i]? with
  |none=>none
  |some o=>match bo T Γ ops st o with
   |some v=>Ea Γ ops r (st.put o.dst v)
   |none=>none
def Iz (Γ:Env) (ops:Array Oper):List Nat->St->Option St
 | [],st=>some st
 |i::r,st=>match ops[i]? with
  |none=>none
  |some o=>match Ci T Γ ops st o with
   |some st'=>Iz Γ ops r st'
   |none=>none
def Le (Γ:Env) (ops:Array Oper) (draw:Bool) (st:St):Option St:=
 if draw then (if dw false Γ ops then (match Ea T Γ ops (dm false Γ ops) st with
  |some st'=>Iz T Γ ops (Ez false Γ ops) st'
  |none=>none) else if dw true Γ ops then (match Ea T Γ ops (dm true Γ ops) st with
  |some st'=>Iz T Γ ops (Ez true Γ ops) st'
  |none=>none) else none)
 else Tg T Γ ops ops.toList st
def rW (ops:Array Oper) (i:Nat):Bool:=match ops[i]? with
 |some o=>(match o.op,o.guard with
  | .move (.tmp _),none=>true
  |_,_=>false)
 |none=>false
def du (ops:Array Oper) (i:Nat):Bool:=match ops[i]? with
 |some o=>(match o.op,o.guard with
  | .move (.tmp _),none=>true
  | .nilCheck _,none=>true
  | .fieldAddr _ _ _,none=>true
  |_,_=>false)
 |none=>false
def Ab7 (q:Bool) (ops:Array Oper) (i:Nat):Bool:=match q with
 |true=>du ops i
 |false=>rW ops i
def Ex (q:Bool) (ops:Array Oper):List Nat->Array Bool->List Nat
 | [],_=> []
 |i::r,Ac=>if Ab7 q ops i&&((Region.ready .any ops Ac).contains i&&Region.free .any ops Ac i) then i::Ex q ops r (Ac.setIfInBounds i true) else Ex q ops r Ac
def JA (q:Bool) (ops:Array Oper):List Nat:=Ex q ops (List.range ops.size) (Array.replicate ops.size false)
def dh (q:Bool) (ops:Array Oper):Bool:=Nat.ble (ops.size-(JA q ops).length) 8
def Jx (ops:Array Oper):List Nat:=JA (!dh false ops) ops
def Ee:List Nat->Array Bool->Array Bool
 | [],Ac=>Ac
 |i::r,Ac=>Ee r (Ac.setIfInBounds i true)
def anyS (Γ:Env) (ops:Array Oper) (K:St->Prop):Nat->Array Bool->St->Prop
 |0,Ac,st=>Region.ready .any ops Ac= []/\K st
 |f+1,Ac,st=>Region.ready .any ops Ac≠ []/\ ∀i∈Region.ready .any ops Ac,∃o st',ops[i]?=some o/\Ci T Γ ops st o=some st'/\anyS Γ ops K f (Ac.setIfInBounds i true) st'
def qU (Γ:Env) (ops:Array Oper) (draw:Bool) (st:St) (K:St->Prop):Prop:=
 (∃st',Le T Γ ops draw st=some st'/\K st')\/
 (draw=true/\Region.noSelect ops=true/\ ∃bd,Ea T Γ ops (Jx ops) st=some bd/\anyS T Γ ops K (ops.size-(Jx ops).length) (Ee (Jx ops) (Array.replicate ops.size false)) bd)
def sH (Γ:Env) (draw:Bool):Env:= λf=>match Γ f with
 |some (.b s m)=>some (if draw then .q s else .m m)
 |r=>r
inductive Gr where
 |normal
 |exit (id:Nat)
 |ret
def Fp (live:List Nat):Nat->List AV->List AV
 |_,[]=> []
 |i,v::r=>(if live.contains i then v else .undef)::Fp live (i+1) r
def AV.refs:AV->List Nat
 | .at a=>a.refs
 | .agg cs=>cs.flatMap AC.refs
 | .Uc _ _ _=> []
 | .It l=>l.flatMap λp=>p.2.flatMap AC.refs
def OB.refs:OB->List Nat
 | .var _ vs=>vs.flatMap AC.refs
 |_=> []
def Xw:List Nat->St->St
 | [],st=>st
 |l::r,st=>Xw r (st.forget l)
def jq (l k m:Nat):Nat:=if m=l then k else m
def Nx (l k:Nat):AC->AC
 | .own m off len=> .own (jq l k m) off len
 | .Dw m i=> .Dw (jq l k m) i
 | .Fq m i=> .Fq (jq l k m) i
 | .clo f Bs=> .clo f (Bs.map λp=>(jq l k p.1,p.2))
 | .Gf m=> .Gf (jq l k m)
 | .sub m i c=> .sub (jq l k m) i c
 | .Fo m i c=> .Fo (jq l k m) i c
 |a=>a
def St.rename (l k:Nat) (st:St):St:=
 match Ae st.heap k,Ae st.heap l with
 |none,some b=>if (Nat.blt l Aj&&Nat.blt k Aj)=true then
   (let s:=st.Ge (Nx l k); {s with heap:=Iy (Ss s.heap l) k (b.map (Nx l k))}) else st
 |_,_=>st
def Hp:Nat->Nat->St->St
 |0,_,st=>st
 |n+1,t,st=>Hp n (t+1) (match st.get t with
  | .at (.own l _ _)=>match Ae st.heap l with
   |some (.arr _ _ _ _ _)=>if (st.tmps.take t).any (λv=>v.refs.contains l) then st else st.rename l (700000+t)
   |_=>st
  |_=>st)
def We:Nat:=1000000007
def OB.Es (flat all:Bool):OB->OB
 | .arr fr tr e tid xs=> .arr (fr&&!(all||(flat&&e.flat))) (tr&&!all) e tid xs
 |b=>b
def Sh:Nat:=1000000009
def x6:Nat:=1100000000
def St.Es (live:List Nat) (st:St):St:= {st with heap:=st.heap.map λp=>(p.1,p.2.Es (live.contains Sh) (live.contains (x6+p.1)))}
def Ho:Nat:=900000000
def Va (t:Nat) (st:St):St:=match st.get t with
 | .at (.own l off len)=>match Ae st.heap l with
  |some (.arr fr tr e tid xs)=>if Nat.blt l Aj=true then (st.new l (.arr fr tr e tid ((xs.drop off).take len))).put (some t) (.at (.own l 0 ((xs.drop off).take len).length)) else st
  |_=>st
 |_=>st
def Jj (live:List Nat):Nat->Nat->St->St
 |0,_,st=>st
 |n+1,t,st=>Jj live n (t+1) (if live.contains (Ho+t) then Va t st else st)
def St.clean (live:List Nat) (st:St):St:=
 let s:St:= {st with tmps:=Fp live 0 st.tmps}
 let r1:=s.tmps.flatMap AV.refs
 let r2:=r1++(s.heap.filter λp=>r1.contains p.1).flatMap λp=>p.2.refs
 let s2:=Xw ((s.heap.map (·.1)).filter λl=>!r2.contains l&&Nat.blt l Aj) s
 let s2:=if live.any (λt=>Nat.ble Ho t&&Nat.blt t We) then Jj live s2.tmps.length 0 s2 else s2
 let s3:=if live.contains We then Hp s2.tmps.length 0 s2 else s2
 if live.any (λt=>Nat.ble Sh t) then s3.Es live else s3
def Ce:Code->Nat
 | .region id _ _=>id
 | .seq a _=>Ce a
 | .cond _ a _=>Ce a
 | .block _ c=>Ce c
 | .loop c=>1000+Ce c
 |_=>0
def SE (a b:List Nat):List Nat:=a++b.filter λt=>!a.contains t
def sd:List Oper->List Nat->List Nat
 | [],out=>out
 |o::r,out=>SE (o.op.operands.toList.filterMap λ | .tmp t=>some t|_=>none) (match o.dst with|some d=>(sd r out).filter (·!=d)|none=>sd r out)
def xG:List (Nat×List Nat)->Nat->List Nat
 | [],_=> []
 |(k,l)::r,id=>if k=id then l else xG r id
def kh:Code->List (Nat×List Nat)->List Nat->List Nat->List Nat×List (Nat×List Nat)
 | .region _ ops _,_,_,out=>(sd ops.toList out,[])
 | .seq a b,env,ret,out=>let rb:=kh b env ret out;let ra:=kh a env ret rb.1;(ra.1,ra.2++rb.2)
 | .cond c a b,env,ret,out=>let ra:=kh a env ret out;let rb:=kh b env ret out
  (SE (match c with| .tmp t=> [t]|_=> []) (SE ra.1 rb.1),ra.2++rb.2)
 | .block id c,env,ret,out=>kh c ((id,out)::env) ret out
 | .exit id,env,_,_=>(xG env id,[])
 | .ret,_,ret,_=>(ret,[])
 | .loop c,env,ret,_=>let l:=(kh c env ret []).1;let r:=kh c env ret l;(l,(Ce c,l)::r.2)
 |_,_,_,out=>(out,[])
def se:List ResultVar->List Nat
 | []=> []
 | .tmp t::r=>t::se r
 | .cell p _::r=>p::se r
def sa (marks:List Nat) (fn:Func) (c:Code):Nat->List Nat:=let ret:=se fn.results.toList;let g:=xG (kh c [] ret ret).2;match marks with
 | []=>g
 |m=> λid=>g id++m
def yx (K:St->Prop) (Q:Gr->St->Prop):Gr->St->Prop
 | .normal,s=>K s
 |e,s=>Q e s
def pU (id:Nat) (Q:Gr->St->Prop):Gr->St->Prop
 | .exit CG,s=>if CG=id then Q .normal s else Q (.exit CG) s
 |e,s=>Q e s
inductive Iw (Γ:Env) (live:Nat->List Nat):Code->St->(Gr->St->Prop)->Prop where
 |skip {st:St} {Q:Gr->St->Prop} :Q .normal st->Iw Γ live .skip st Q
 |label {l:Nat} {st:St} {Q:Gr->St->Prop} :Q .normal st->Iw Γ live (.label l) st Q
 |exit {id:Nat} {st:St} {Q:Gr->St->Prop} :Q (.exit id) st->Iw Γ live (.exit id) st Q
 |ret {st:St} {Q:Gr->St->Prop} :Q .ret st->Iw Γ live .ret st Q
 |region {id:Nat} {ops:Array Oper} {draw:Bool} {st:St} {Q:Gr->St->Prop} :qU T (sH Γ draw) ops draw st (Q .normal)->Iw Γ live (.region id ops draw) st Q
 |seq {x y:Code} {st:St} {Q:Gr->St->Prop} (Q1:Gr->St->Prop):Iw Γ live x st Q1->(∀s,Q1 .normal s->Iw Γ live y s Q)->(∀e s,e≠ .normal->Q1 e s->Q e s)->Iw Γ live (.seq x y) st Q
 |cond {c:Operand} {x y:Code} {st:St} {fr t:Bool} {Q:Gr->St->Prop} :st.ev c= .at (.data fr .bool t)->(t=true->Iw Γ live x st Q)->(t=false->Iw Γ live y st Q)->Iw Γ live (.cond c x y) st Q
 |block {id:Nat} {c:Code} {st:St} {Q:Gr->St->Prop} (Q1:Gr->St->Prop):Iw Γ live c st Q1->(∀e s,Q1 e s->pU id Q e s)->Iw Γ live (.block id c) st Q
 |loop {c:Code} {st:St} {Q:Gr->St->Prop} (Q1:Gr->St->Prop):Iw Γ live c (st.clean (live (Ce c))) Q1->(∀s,Q1 .normal s->Iw Γ live (.loop c) s Q)->(∀e s,e≠ .normal->Q1 e s->Q e s)->Iw Γ live (.loop c) st Q
def Xc (st:St):List ResultVar->Option (List AV)
 | []=>some []
 | .tmp t::r=>(Xc st r).map λl=>st.get t::l
 | .cell p t::r=>match Kb T st t (st.get p),Xc st r with
  |some v,some l=>some (v::l)
  |_,_=>none
def gp (s:Spec) (fn:Func) (st:St):Option (Bool×s.res.den):=
 match Xc T st fn.results.toList with
 |some [v]=>if s.Fv then none else Cr st s.res v
 |some [v,u]=>if s.Fv then Bn st s.res [v,u] else none
 |some [v,u,t]=>if s.Fv then Bn st s.res [v,u,t] else none
 |_=>none
def Me:(τ:Ty)->τ.den->List AV
 | .pair a r,x=> .at (.data a.flat a x.1)::Me r x.2
 |_,_=> []
def dK (st:St):(c:CK)->AC->Option (c.den×List Nat)
 | .Fc τ,a=>if τ.flat||a.settled then (Bj st τ a).map λp=>(p.2,[]) else none
 | .row e te, .own l off len=>match st.at l with
  |some (.arr _ _ e' Kz xs)=>if h:e'=e/\Kz=te then some ((((h.1▸xs:List e.den).drop off).take len),[l]) else none
  |_=>none
 | .row _ _, .Hm=>some ([],[])
 | .Du e te, .own l off len=>match st.at l with
  |some (.arr _ tr e' Kz xs)=>if h:e'=e/\Kz=te/\(tr||e.flat)=true then some ((((h.1▸xs:List e.den).drop off).take len),[l]) else none
  |some (.Df e' Kz xs)=>if h:e'=e/\Kz=te then some ((((h.1▸xs:List e.den).drop off).take len),[l]) else none
  |_=>none
 | .Du _ _, .Hm=>some ([],[])
 | .Ak e te _, .own l off len=>match st.at l with
  |some (.Ak e' Kz rows none _)=>if h:e'=e/\Kz=te/\off=0/\len=rows.length then some ((h.1▸rows:List (List e.den)),[l]) else none
  |_=>none
 |_,_=>none
def Nw (st:St):(cs:List CK)->List AC->Option (CKs.den cs×List Nat)
 | [],[]=>some ((),[])
 |c::r,a::as=>match dK st c a,Nw st r as with
  |some (x,t1),some (y,t2)=>some ((x,y),t1++t2)
  |_,_=>none
 |_,_=>none
def jQ (st:St) (l:Nat):(c:CK)->Option c.den
 | .Fc _=>none
 | .row e te=>match st.at l with
  |some (.arr _ _ e' Kz xs)=>if h:e'=e/\Kz=te then some (h.1▸xs) else none
  |_=>none
 | .Du e te=>match st.at l with
  |some (.Df e' Kz xs)=>if h:e'=e/\Kz=te then some (h.1▸xs) else none
  |_=>none
 | .part _ _=>none
 | .Ak _ _ _=>none
def Jd (st:St):(k:Nat)->(cs:List (Bool×CK))->Option (IOs.den cs)
 |_,[]=>some ()
 |k,(true, .Fc _)::r=>Jd st (k+1) r
 |k,(true, .Ak _ _ _)::r=>Jd st (k+1) r
 |k,(true, .row e te)::r=>match jQ st (Bo true k) (.row e te),Jd st (k+1) r with
  |some x,some y=>some (x,y)
  |_,_=>none
 |k,(true, .Du e te)::r=>match jQ st (Bo true k) (.Du e te),Jd st (k+1) r with
  |some x,some y=>some (x,y)
  |_,_=>none
 |k,(true, .part e te)::r=>match jQ st (Bo true k) (.row e te),Jd st (k+1) r with
  |some x,some y=>some (x,y)
  |_,_=>none
 |k,(false,_)::r=>Jd st (k+1) r
def Jw:(k:Nat)->List (Bool×CK)->List Nat
 |_,[]=> []
 |k,(true, .Fc _)::r=>Jw (k+1) r
 |k,(true, .Ak _ _ _)::r=>Jw (k+1) r
 |k,(true,_)::r=>Bo true k::Jw (k+1) r
 |k,(false,_)::r=>Jw (k+1) r
def Lm:Nat:=1900000000
def Ev:(k:Nat)->List (Bool×CK)->List AC->Option (List AC)
 |_,_,[]=>some []
 |k,(true, .row _ _)::r, .own l _ _::as=>if Nat.beq l (Bo true k) then Ev (k+1) r as else none
 |k,(true, .Du _ _)::r, .own l _ _::as=>if Nat.beq l (Bo true k) then Ev (k+1) r as else none
 |k,(false,_)::r,a::as=>(Ev (k+1) r as).map λl=>a::l
 |_,_,_=>none
def ca (st:St):List AC->List (Bool×CK)->Prop
 | .own l off len::as,(true,_)::r=>(off=0/\match st.at l with
  |some (.arr _ _ _ _ xs)=>len=xs.length
  |some (.Df _ _ xs)=>len=xs.length
  |_=>False)/\ca st as r
 |_::as,(false,_)::r=>ca st as r
 |_,_=>True
def yP (s:MSpec) (st:St) (l:List AV):Option (List AC×List Nat):=match s.rp with
 |none=>if s.Fv=Nat.blt 1 l.length then (ungroup s.Fz l).map λas=>(as,[]) else none
 |some tid=>match l with
  | [.at (.Dw m i)]=>match st.at m with
   |some (.var No vs)=>if No=tid/\i=0/\Nat.blt m Aj=true then some (vs,[m]) else none
   |_=>none
  |_=>none
def pY (st:St) (n:Nat) (as:List AC):List (Nat×Nat)->Prop
 | []=>True
 |(k,j)::r=>(match as[j]? with
  |some (.own l _ _)=>match st.at l with
   |some (.Ak _ _ _ _ (some p))=>p.1=Bo false k/\n<=p.2/\Nat.blt k 1000=true
   |_=>False
  |_=>False)/\pY st n as r
def dz (s:MSpec) (fn:Func) (x:Ins.den s.ins) (st:St) (cs:List AC) (P:CKs.den s.outs×IOs.den s.ins->Prop):Prop:=
 match Xc T st fn.results.toList with
 |none=>False
 |some l=>match yP s st l with
  |none=>False
  |some (as,ml)=>match Nw st s.outs (cs++as),Jd st 0 s.ins with
   |some (r,ls),some o=>(Sn (ml++ls++Jw 0 s.ins)&&Nat.blt s.ins.length 1000&&Nat.blt s.outs.length 1000&&s.IZ)=true/\pY st (s.Cs x) (cs++as) s.keeps/\P (r,o)
   |_,_=>False
def GI (s:MSpec) (fn:Func) (x:Ins.den s.ins) (st:St) (P:CKs.den s.outs×IOs.den s.ins->Prop):Prop:=
 match s.ptr with
 |none=>dz T s fn x st [] P
 |some p=> ∃vs cs,st.at Lm=some (.var p.1 vs)/\vs.length=p.2/\Ev 0 s.ins vs=some cs/\ca st vs s.ins/\dz T s fn x st cs P
def Su (s:MSpec) (as:List AC):List AV:=match s.ptr with
 |none=>Mi s.Gy as
 |some p=> .at (.Dw Lm 0)::Mi s.Gy (as.drop p.2)
def kc (s:MSpec) (x:Ins.den s.ins):List (Nat×OB):=match s.ptr with
 |none=>Ry 0 s.ins x
 |some p=>Ry 0 s.ins x++ [(Lm, .var p.1 ((Us 0 s.ins x).take p.2))]
def Sb:List (Bool×CK)->Bool
 | []=>true
 |(true, .Ak _ _ _)::_=>false
 |_::r=>Sb r
def sD (s:MSpec):Bool:=Sb s.ins&&match s.ptr with
 |none=>true
 |some p=>Nat.ble p.2 s.ins.length
def PY (Γ:Env) (s:MSpec) (fn:Func) (x:Ins.den s.ins) (P:CKs.den s.outs×IOs.den s.ins->Prop):Prop:=
 (Nat.blt s.ins.length 1000&&sD s)=true/\ ∃c,fn.body=some c/\Iw T Γ (sa T.marks fn c) c {tmps:=Su s (Us 0 s.ins x)++List.replicate (fn.ntmps-(Su s (Us 0 s.ins x)).length) .undef,heap:=kc s x}
  (λe st=>(∀id,e≠ .exit id)/\GI T s fn x st P)
def GJ (Γ:Env) (s:Spec) (fn:Func) (x:s.arg.den) (P:s.res.den->Prop):Prop:=
 ∃c,fn.body=some c/\Iw T Γ (sa T.marks fn c) c {tmps:=Me s.arg x++List.replicate (fn.ntmps-(Me s.arg x).length) .undef,heap:= []}
  (λe st=>(∀id,e≠ .exit id)/\ ∃fr y,gp T s fn st=some (fr,y)/\(fr||!s.fresh)=true/\P y)
end Go.Proofs.Ytjbdmibbbpdnnaa
