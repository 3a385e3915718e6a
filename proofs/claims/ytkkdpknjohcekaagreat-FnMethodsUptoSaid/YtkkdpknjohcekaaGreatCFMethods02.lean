/-
  Part 3 of the proof that the statement FnMethods holds.
-/
import Derived.Test.YtkkdpknjohcekaaGreatCFMethods01
namespace Go.Proofs.YtkkdpknjohcekaaGreat
open Go.RowKit
def Ir:Nat->St->List AC->Option (List AC×St)
 |0,st,cs=>if cs.all (·.settled) then some (cs,st) else none
 |n+1,st,cs=>
  match cs.find? (λc=>!c.settled) with
  |none=>some (cs,st)
  |some (.own l _ _)=>match st.at l with
   |some (.arr fr _ e _ xs)=>Ir n (st.freeze l fr e xs) (cs.map (Da l fr e xs))
   |some (.Hs e _ xs)=>Ir n (st.freeze l false e xs) (cs.map (Da l false e xs))
   |_=>none
  |some (.Lk l)=>match st.at l with
   |some (.Wi v m)=>Ir n (st.Jp l v m) (cs.map (Hx l v m))
   |_=>none
  |some _=>none
def settle (st:St):AV->Option (AV×St)
 | .at (.own l off len)=>match st.at l with
  |some (.arr fr _ e _ xs)=>some (.at (.data fr (.slice e) ((xs.drop off).take len)),st.freeze l fr e xs)
  |some (.Hs e _ xs)=>some (.at (.data false (.slice e) ((xs.drop off).take len)),st.freeze l false e xs)
  |_=>none
 | .at (.Lk l)=>match st.at l with
  |some (.Wi v m)=>some (.at (.data false (.smap v) m),st.Jp l v m)
  |_=>none
 | .at a=>if a.settled then some (.at a,st) else none
 | .agg cs=>(Ir cs.length st cs).map λp=>(.agg p.1,p.2)
 | .bH fr τ x=>some (.bH fr τ x,st)
 | .Nr _=>none
def AC.refs:AC->List Nat
 | .own l _ _| .Ii l _| .Ld l _| .Lk l| .sub l _ _| .Ky l _ _=> [l]
 | .clo _ Ev=>Ev.map (·.1)
 |_=> []
def aD:List Nat->Bool
 | []=>true
 |a::r=>!r.contains a&&aD r
def Ty.tree:Ty->Bool
 | .int _| .bool| .str| .unit=>true
 | .slice e=>e.tree
 | .pair a r=>a.tree&&r.tree
 |_=>false
def Sz (st:St):AC->Bool
 | .data _ τ _=>τ.flat
 | .Mx=>true
 | .own l _ _=>match st.at l with
  |some (.arr _ tr e _ _)=>tr||e.flat
  |some (.Hs _ _ _)=>true
  |_=>false
 |_=>false
def Ua (st:St):AV->Bool
 | .at a=>Sz st a
 | .agg cs=>cs.all (Sz st)&&aD (cs.flatMap AC.refs)
 |_=>false
def Bk:Nat:=1000000000
variable (T:Tab)
def QZ (t:TypeId) (τ:Ty) (i:Nat):Option TypeId:=
 if τ.Ar then (List.range 24).findSome? λf=>match T.off t f with
  |some (o,u)=>if o=i then some u else none
  |none=>none
 else some t
def Tab.RQ (te:TypeId):Option Ty:=if T.Ahd.contains te then (match T.ty te with
 |some (.slice e)=>some e
 |_=>none) else none
def ee (te:TypeId) (e:Ty):OB:=match T.RQ te with
 |some e'=> .Bu e' te [] none none
 |none=> .arr (T.tq||e.flat) T.CY e te []
def Vh (b:OB) (key l i:Nat) (st:St):St:=
 match st.at l with
 |some (.var _ vs)=>match vs[i]? with
  |some .Mx=>
   let s1:=st.new key b
   match s1.at l with
   |some (.var tid vs')=>s1.Kx l (.var tid (Tk vs' i (.own key 0 0)))
   |_=>s1
  |_=>st
 |_=>st
def fT (l:Nat) (t:TypeId) (τ:Ty):Nat->Nat->St->St
 |0,_,st=>st
 |n+1,i,st=>
  fT l t τ n (i+1) (match ((QZ T t τ i).bind T.elem).bind λte=>(T.ty te).map λe=>(te,e) with
   |some (te,e)=>Vh (ee T te e) (100000+l*100+i) l i st
   |none=>st)
def eK (l off:Nat) (t:TypeId) (τ:Ty):Nat->Nat->St->St
 |0,_,st=>st
 |n+1,i,st=>
  eK l off t τ n (i+1) (match ((QZ T t τ i).bind T.elem).bind λte=>(T.ty te).map λe=>(te,e) with
   |some (te,e)=>Vh (ee T te e) (100000+l*100+(off+i)) l (off+i) st
   |none=>st)
def zeroCells:(τ:Ty)->List AC
 | .unit=> []
 | .pair a r=>zeroCells a++zeroCells r
 | .slice _=> [.Mx]
 | .oslice _=> [.Mx]
 | .ptr _=> [.Wh]
 | .optr _=> [.Wh]
 | .clo _ _=> [.undef]
 |τ=> [.data true τ τ.zero]
def cellsOf (τ:Ty):AV->Option (List AC)
 | .agg cs=>if τ.Ar&&cs.length==τ.size then some cs else none
 | .at (.data fr Pj x)=>if Pj=τ then some (Td fr Pj x) else none
 | .at .undef=>none
 | .at .skip=>none
 | .at a=>if τ.Ar then none else some [a]
 |_=>none
def mkVar (st:St) (l:Nat) (t:TypeId) (τ:Ty) (cs:List AC):Option (AV×St):=
 if Bk<=100000+l*100+cs.length then none else
 let s:=fT T l t τ cs.length 0 (st.new l (.var t (cs.map (Cs l))))
 match s.at l with
 |some (.var _ _)=>some (.at (.Ii l 0),s)
 |_=>none
def Qv:(τ:Ty)->List AC
 | .unit=> []
 | .pair a r=>Qv a++Qv r
 | .slice e=> [.data false (.slice e) []]
 | .oslice _=> [.Mx]
 | .ptr _=> [.Wh]
 | .optr _=> [.Wh]
 | .clo _ _=> [.undef]
 |τ=> [.data false τ τ.zero]
def ed:Nat:=1300000000
def gi:Nat:=1400000000
def uk (st:St) (l:Nat) (t:TypeId) (cs:List AC):Option (AV×St):=
 if Bk<=100000+l*100+cs.length then none else some (.at (.Ii l 0),st.new l (.var t (cs.map (Cs l))))
def Dt {α:Type} (xs:List α) (i:Nat) (ys:List α):List α:=xs.take i++ys++xs.drop (i+ys.length)
def ZN (st:St) (τ:Ty) (l:Nat) (v:AV):AV:=match T.marks.contains (ed+l)&&v.settled with
 |true=>match Gt st τ v with
  |some p=> .at (.data false τ p.2)
  |none=>v
 |false=>v
def Vq (st:St) (t:TypeId) (p v:AV):Option St:=
 match T.ty t,p with
 |some τ, .at (.Ii l i)=>match st.at l,cellsOf τ (ZN T st τ l v) with
  |some (.var tid vs),some cs=>if i+cs.length<=vs.length then some (if τ.Ar&&Nat.blt (100000+l*100+(i+cs.length)) Bk then eK T l i t τ cs.length 0 (st.Kx l (.var tid (Dt vs i cs))) else st.Kx l (.var tid (Dt vs i cs))) else none
  |_,_=>none
 |some τ, .at (.Ld l j)=>match settle st v with
  |some (v',st')=>match st'.at l,Gt st' τ v' with
   |some (.arr fr tr e tid xs),some (Wt,x)=>if h:τ=e then (if j<xs.length then some (st'.Kx l (.arr (fr&&Wt) (tr&&(Ua st v&&e.tree)) e tid (xs.set j (h▸x)))) else none) else none
   |_,_=>none
  |none=>none
 |_,_=>none
def Ea:Nat:=4294967296
def Pc (st:St) (dst:Nat) (t:TypeId) (x y:Operand):Option (AV×St):=
 match T.elem t with
 |none=>none
 |some te=>match T.ty te,settle st (st.ev y) with
  |some e,some (y',st')=>match Gt st' (.slice e) y' with
   |none=>none
   |some (sk,ys)=>
    let tr2:=e.flat||(Ua st (st.ev y)&&e.tree)
    match st'.ev x with
    | .at .Mx=>if ys.length<=Ea/\dst<Bk then some (.at (.own dst 0 (0+ys.length)),(st'.new dst (.arr (T.tq||e.flat) T.CY e te [])).new dst (.arr ((T.tq||e.flat)&&(sk||e.flat)) (T.CY&&tr2) e te (((([]:List e.den).drop 0).take 0)++ys))) else none
    | .at (.own l off len)=>match st'.at l with
     |some (.arr fr tr e' tid xs)=>if h:e'=e/\tid=te then
       (if len+ys.length<=Ea/\l<Bk then
        some (.at (.own l 0 (len+ys.length)),st'.new l (.arr (fr&&(sk||e.flat)) (tr&&tr2) e te ((((h.1▸xs:List e.den).drop off).take len)++ys))) else none)
      else none
     |_=>none
    |_=>none
  |_,_=>none
def Qw (st:St) (l i m:Nat) (e:Ty) (te tid:TypeId) (rows:List (List e.den)) (kp:Option (Nat×Nat)):St:=
 (st.Kx l (.Bu e te rows (some i) kp)).new m (.arr false false e tid (rows.getD i []))
def So (st:St) (dst:Nat) (t:TypeId) (x y:Operand):Option (AV×St):=
 match x with
 | .tmp tx=>match st.get tx with
  | .at (.sub l i _)=>match st.at l,T.elem t with
   |some (.Bu e te rows none kp),some tid=>if (Nat.blt l Bk&&(Nat.blt dst Bk&&!Nat.beq dst l))=true then Pc T ((Qw st l i dst e te tid rows kp).put (some tx) (.at (.own dst 0 (rows.getD i []).length))) dst t x y else none
   |_,_=>none
  |_=>Pc T st dst t x y
 |_=>Pc T st dst t x y
def nc:Ty->Bool
 | .int _| .bool| .str| .slice _| .oslice _=>true
 |_=>false
def gB:Ty->Bool
 | .unit=>true
 | .pair a r=>gB a&&gB r
 |e=>nc e
def bY (st:St) (dst:Nat) (t:TypeId) (l c:AV):Option (AV×St):=
 match T.elem t,l,c with
 |some te, .at (.data _ (.int _) n), .at (.data _ (.int _) m)=>match T.ty te with
  |some e=>if inb n (Ea+1)=true/\n=m/\gB e=true/\dst<Bk then some (.at (.own dst 0 n.toNat),st.new dst (.arr (T.tq||e.flat) (T.CY&&e.tree) e te (List.replicate n.toNat e.zero))) else none
  |none=>none
 |_,_,_=>none
def Mh (e:Ty):Nat->List (Nat×Operand)->St->Option (Bool×Bool×List e.den×St)
 |_,[],st=>some (true,true,[],st)
 |i,(j,x)::r,st=>
  if i=j then match settle st (st.ev x) with
   |some (v,st')=>match Gt st' e v with
    |some (fr,y)=>match Mh e (i+1) r st' with
     |some (Wt,tr',ys,Aw8)=>some (fr&&Wt,Ua st (st.ev x)&&e.tree&&tr',y::ys,Aw8)
     |none=>none
    |none=>none
   |none=>none
  else none
def Nj (st:St) (dst:Nat) (t:TypeId) (len:Nat) (parts:Array (Nat×Operand)):Option (AV×St):=
 match T.elem t with
 |none=>none
 |some te=>match T.ty te with
  |none=>none
  |some e=>if parts.size=len/\len<=64/\e.size<=64/\dst<Bk then (match Mh e 0 parts.toList st with
   |some (fr,tr,ys,st')=>some (.at (.own dst 0 len),st'.new dst (.arr ((T.tq||e.flat)&&fr) (T.CY&&tr) e te ys))
   |none=>none) else none
def Vp (st:St) (dst:Nat) (t:TypeId):Option (AV×St):=
 match T.mapOf t with
 |some v=>if dst<Bk then some (.at (.Lk dst),st.new dst (.Wi v λ_=>none)) else none
 |none=>none
def gx {α:Type} (m:ByteArray->Option α) (k:ByteArray) (x:α):ByteArray->Option α:= λs=>if s=k then some x else m s
def Ka (st:St) (t:TypeId) (m k x:AV):Option St:=
 match T.mapOf t,m,k with
 |some v, .at (.Lk l), .at (.data _ .str s)=>match st.at l,Gt st v x with
  |some (.Wi v' f),some (_,y)=>if h:v'=v/\v.flat=true/\v.Ar=false then some (st.Kx l (.Wi v (gx (h.1▸f:ByteArray->Option v.den) s y))) else none
  |_,_=>none
 |_,_,_=>none
def j5 (st:St) (t t':TypeId) (x y:AV):Option (AV×St):=
 match x,(T.elem t).bind T.ty with
 | .at (.own l off len),some e=>if T.elem t=T.elem t'/\e.flat=true/\e.size=1 then match st.at l,Gt st (.slice e) y with
  |some (.arr fr _ e' tid xs),some (_,ys)=>if h:e'=e/\T.elem t=some tid then
    some (.at (.data true (.int .i64) (min len ys.length:Nat)),st.Kx l (.arr fr false e tid (Dt (h.1▸xs:List e.den) off (ys.take len))))
   else none
  |_,_=>none
  else none
 |_,_=>none
def evalClear (st:St) (t:TypeId) (x:AV):Option St:=
 match x,(T.elem t).bind T.ty with
 | .at (.own l off len),some e=>if e.flat=true/\nc e=true then match st.at l with
  |some (.arr fr _ e' tid xs)=>if h:e'=e/\T.elem t=some tid then
    some (st.Kx l (.arr fr false e tid (Dt (h.1▸xs:List e.den) off (List.replicate len e.zero))))
   else none
  |_=>none
  else none
 |_,_=>none
def Ni (st:St) (t:TypeId):List (Nat×Operand)->List AC->Option (List AC)
 | [],cs=>some cs
 |(i,x)::r,cs=>
  match T.off t i with
  |some (o,u)=>match T.ty u with
   |some ρ=>match cellsOf ρ (st.ev x) with
    |some c=>if o+c.length<=cs.length then Ni st t r (Dt cs o c) else none
    |none=>none
   |none=>none
  |none=>none
def Yk (st:St) (t:TypeId) (parts:Array (Nat×Operand)):Option AV:=
 match T.ty t with
 |none=>none
 |some τ=>if τ.Ar then (Ni T st t parts.toList (zeroCells τ)).map .agg else none
def Ee (io:Bool) (k:Nat):Nat:=if io then 1000000000+k else 500000+k
def Jh (k:Nat):Nat:=600000+k
def Abe (dst:Nat) (k:Nat):Nat:=1000000*(dst+1)+k
def Tt:List (Option Nat)->List AC->List AV
 |none::s,a::as=> .at a::Tt s as
 |some n::s,as=> .agg (as.take n)::Tt s (as.drop n)
 |_,_=> []
def Lt:List (Option Nat)->List Value->List Value
 |none::s,u::us=>u::Lt s us
 |some n::s,us=> .agg (us.take n).toArray::Lt s (us.drop n)
 |_,_=> []
def ungroup:List (Option Nat)->List AV->Option (List AC)
 | [],[]=>some []
 |none::s, .at a::as=>(ungroup s as).map λr=>a::r
 |some n::s, .agg cs::as=>if cs.length=n then (ungroup s as).map λr=>cs++r else none
 |some n::s, .at (.data fr τ x)::as=>if τ.Ar=true/\(Td fr τ x).length=n then (ungroup s as).map λr=>Td fr τ x++r else none
 |_,_=>none
def kU (l:Nat):(c:CK)->c.den->Option OB
 | .Hw _,_=>none
 | .row e te,xs=>some (.arr false false e te xs)
 | .Iu e te,xs=>some (.Hs e te xs)
 | .part e te,x=>some (.arr false false e te x.1)
 | .Bu e te kp,xs=>some (.Bu e te xs none (if kp then some (l,List.length xs) else none))
def Asx (l:Nat):(c:CK)->c.den->AC
 | .Hw τ,x=> .data τ.flat τ x
 | .row _ _,xs=> .own l 0 (List.length xs)
 | .Iu _ _,xs=> .own l 0 (List.length xs)
 | .part _ _,x=> .own l x.2.1 x.2.2
 | .Bu _ _ _,xs=> .own l 0 (List.length xs)
def iU {α:Type} (l:Nat):Option α->List (Nat×α)->List (Nat×α)
 |none,r=>r
 |some b,r=>(l,b)::r
def a9:(k:Nat)->(cs:List (Bool×CK))->Ins.den cs->List (Nat×OB)
 |_,[],_=> []
 |k,p::r,x=>iU (Ee p.1 k) (kU (Ee p.1 k) p.2 x.1) (a9 (k+1) r x.2)
def cc:(k:Nat)->(cs:List (Bool×CK))->Ins.den cs->List AC
 |_,[],_=> []
 |k,p::r,x=>Asx (Ee p.1 k) p.2 x.1::cc (k+1) r x.2
inductive Loc where
 |row (l:Nat)
 |sub (l i c:Nat)
 |view (l:Nat)
 deriving DecidableEq
def Loc.Xu:Loc->Nat
 | .row l=>l
 | .sub l _ _=>l
 | .view l=>l
def Loc.reads:Loc->Bool
 | .view _=>true
 |_=>false
def cE (st:St) (ls:List Nat):Bool:=ls.all λl=>match st.at l with|some (.var _ vs)=>vs.all (·.settled)|_=>false
def views (k:Nat) (ls:List Nat):List (Nat×Loc):=ls.map λl=>(Ee false k, .view l)
def Na (st:St) (io:Bool) (k:Nat):(c:CK)->AC->Option (c.den×List (Nat×Loc))
 | .Hw τ, .own l off len=>(Ec st τ (.own l off len)).map λp=>(p.2,[(Ee false k, .view l)])
 | .Hw τ, .clo g Ev=>if cE st (Ev.map (·.1))&&!τ.Ar then (Kw st τ (.clo g Ev)).map λp=>(p.2,views k (Ev.map (·.1))) else none
 | .Hw τ, .Ii l i=>if cE st [l]&&!τ.Ar then (Kw st τ (.Ii l i)).map λp=>(p.2,views k [l]) else none
 | .Hw τ, .sub l i c=>(Ec st τ (.sub l i c)).map λp=>(p.2,[(Ee false k, .view l)])
 | .Hw τ,a=>if τ.flat||a.settled then (Ec st τ a).map λp=>(p.2,[]) else none
 | .row e te, .own l off len=>match st.at l with
  |some (.arr _ _ e' Se xs)=>if h:e'=e/\Se=te/\off=0/\len=xs.length then some ((h.1▸xs:List e.den),[(Ee io k, .row l)]) else none
  |_=>none
 | .row e _, .sub l i c=>match st.at l with
  |some (.Hs e' _ xs)=>if h:e'= .slice e/\e.flat=true/\io=true/\c=0 then xs[i]?.map λy=>((h.1▸y:(Ty.slice e).den),[(Ee io k, .sub l i c)]) else none
  |_=>none
 | .row _ _, .Mx=>some ([],[])
 | .Iu e te, .own l off len=>match st.at l with
  |some (.Hs e' Se xs)=>if h:e'=e/\Se=te/\off=0/\len=xs.length then some ((h.1▸xs:List e.den),[(Ee io k, .row l)]) else none
  |_=>none
 | .Iu e _, .sub l i c=>match st.at l with
  |some (.Hs e' _ xs)=>if h:e'= .slice e/\io=true/\c=0 then xs[i]?.map λy=>((h.1▸y:(Ty.slice e).den),[(Ee io k, .sub l i c)]) else none
  |_=>none
 | .Iu _ _, .Mx=>some ([],[])
 | .part e te, .own l off len=>match st.at l with
  |some (.arr _ _ e' Se xs)=>if h:e'=e/\Se=te/\e.flat=true/\io=true then some (((h.1▸xs:List e.den),off,len),[(Ee io k, .row l)]) else none
  |_=>none
 | .Bu e te _, .own l off len=>match st.at l with
  |some (.Bu e' Se rows none _)=>if h:e'=e/\Se=te/\off=0/\len=rows.length/\io=false then some ((h.1▸rows:List (List e.den)),[(Ee io k, .row l)]) else none
  |_=>none
 |_,_=>none
def gu (st:St):(k:Nat)->(cs:List (Bool×CK))->List AC->Option (Ins.den cs×List (Nat×Loc))
 |_,[],[]=>some ((),[])
 |k,p::r,a::as=>match Na st p.1 k p.2 a,gu st (k+1) r as with
  |some (x,t1),some (y,t2)=>some ((x,y),t1++t2)
  |_,_=>none
 |_,_,_=>none
def cM (st:St):(c:CK)->c.den->AC->Option St
 | .row e _,ys, .own l _ len=>match st.at l with
  |some (.arr fr tr e' te xs)=>if h:e=e'/\List.length ys=len/\xs.length=len then some (st.Kx l (.arr (fr&&e'.flat) (tr&&e'.flat) e' te (h.1▸ys))) else none
  |_=>none
 | .Iu e _,ys, .own l _ len=>match st.at l with
  |some (.Hs e' te xs)=>if h:e=e'/\List.length ys=len/\xs.length=len then some (st.Kx l (.Hs e' te (h.1▸ys))) else none
  |_=>none
 | .row e _,ys, .sub l i _=>match st.at l with
  |some (.Hs e' te xs)=>if h: .slice e=e' then (match xs[i]? with
   |some y=>if List.length ys=List.length (h▸y:(Ty.slice e).den) then some (st.Kx l (.Hs e' te (xs.set i (h▸(ys:(Ty.slice e).den))))) else none
   |none=>none) else none
  |_=>none
 | .Iu e _,ys, .sub l i _=>match st.at l with
  |some (.Hs e' te xs)=>if h: .slice e=e' then (match xs[i]? with
   |some y=>if List.length ys=List.length (h▸y:(Ty.slice e).den) then some (st.Kx l (.Hs e' te (xs.set i (h▸(ys:(Ty.slice e).den))))) else none
   |none=>none) else none
  |_=>none
 |_,_, .Mx=>some st
 |_,_,_=>none
def OD (st:St) (e:Ty) (ys:List e.den):AC->Option St
 | .own l _ _=>match st.at l with
  |some (.arr fr tr e' te xs)=>if h:e=e'/\List.length ys=xs.length then some (st.Kx l (.arr fr tr e' te (h.1▸ys))) else none
  |_=>none
 |_=>none
def Iz:(cs:List (Bool×CK))->IOs.den cs->List AC->St->Option St
 | [],_,_,st=>some st
 |(true, .Hw _)::r,x,_::as,st=>Iz r x as st
 |(true, .row e te)::r,x,a::as,st=>match cM st (.row e te) x.1 a with
  |some st'=>Iz r x.2 as st'
  |none=>none
 |(true, .Iu e te)::r,x,a::as,st=>match cM st (.Iu e te) x.1 a with
  |some st'=>Iz r x.2 as st'
  |none=>none
 |(true, .part e _)::r,x,a::as,st=>match OD st e x.1 a with
  |some st'=>Iz r x.2 as st'
  |none=>none
 |(true, .Bu _ _ _)::r,x,_::as,st=>Iz r x as st
 |(false,_)::r,x,_::as,st=>Iz r x as st
 |_,_,_,_=>none
def Cu (dead part:List Nat) (c:AC):AC:=if c.refs.any (λl=>dead.contains l) then .undef else match c with
 | .sub l i c=>if part.contains l then .undef else .sub l i c
 | .Ky l i c=>if part.contains l then .undef else .Ky l i c
 |c=>c
def Yi:List (Nat×OB)->List Nat->List (Nat×OB)
 | [],_=> []
 |(k,b)::r,dead=>if dead.contains k then Yi r dead else (k,b)::Yi r dead
def St.cV (st:St) (dead part:List Nat):St:=let s:=st.Lx (Cu dead part); {s with heap:=Yi s.heap dead}
def Uj (st:St) (l j m:Nat) (e:Ty) (te:TypeId) (rows:List (List e.den)) (xs:List e.den) (kp:Option (Nat×Nat)):St:=
 (st.cV [m] [l]).Kx l (.Bu e te (rows.set j xs) none kp)
def cj (j:Nat):Option (Nat×Nat)->Option (Nat×Nat)
 |none=>none
 |some p=>some (p.1,min p.2 j)
def c6 (st:St) (t:TypeId) (p v:AV):Option St:=
 match T.ty t,p with
 |some τ, .at (.Ky l i j)=>match settle st v with
  |some (v',st')=>match st'.at l,Gt st' τ v' with
   |some (.Bu e te rows none kp),some (_,x)=>if h:τ=e then some (st'.Kx l (.Bu e te (rows.set i ((rows.getD i []).set j (h▸x))) none kp)) else none
   |_,_=>none
  |none=>none
 |some τ, .at (.Ld l j)=>match st.at l,v with
  |some (.Bu e te rows out kp), .at (.own m off len)=>match st.at m with
   |some (.arr _ _ e' _ xs)=>if h:e'=e/\(Nat.blt l Bk&&(!Nat.beq m l&&!τ.Ar))=true/\off=0/\len=xs.length/\(out=none\/out=some j) then some (Uj st l j m e te rows (h.1▸xs) (cj j kp)) else none
   |_=>none
  |_,_=>none
 |_,_=>none
def RR (st:St):AV->Bool
 | .at (.Ky _ _ _)=>true
 | .at (.Ld l _)=>match st.at l with
  |some (.Bu _ _ _ _ _)=>true
  |_=>false
 |_=>false
def Qh (st:St) (t:TypeId) (p v:AV):Option St:=match RR st p with
 |true=>c6 T st t p v
 |false=>Vq T st t p v
def Ry (st:St) (k m:Nat) (b:OB):St:=let s:=st.cV [m,k] []; {s with heap:=Pn s.heap k b}
def eu (t:TypeId):Option (TypeId×Ty):=(T.elem t).bind λte=>(T.RQ te).map λe=>(te,e)
def Yn (st:St) (dst:Nat) (t:TypeId) (l c:AV):Option (AV×St):=
 match eu T t with
 |none=>bY T st dst t l c
 |some (te,e)=>match l,c with
  | .at (.data _ (.int _) n), .at (.data _ (.int _) m)=>if inb n (Ea+1)=true/\n=m/\dst<Bk then some (.at (.own dst 0 n.toNat),Ry st dst dst (.Bu e te (List.replicate n.toNat []) none none)) else none
  |_,_=>none
def Jx (st:St) (dst:Nat) (t:TypeId) (len:Nat) (parts:Array (Nat×Operand)):Option (AV×St):=
 match eu T t with
 |none=>Nj T st dst t len parts
 |some (te,e)=>match parts.toList with
  | [(0,x)]=>match st.ev x with
   | .at (.own m off ln)=>match st.at m with
    |some (.arr _ _ e' _ xs)=>if h:e'=e/\(Nat.beq len 1&&(Nat.blt dst Bk&&Nat.blt m Bk))=true/\off=0/\ln=xs.length then some (.at (.own dst 0 1),Ry st dst m (.Bu e te [h.1▸xs] none none)) else none
    |_=>none
   |_=>none
  |_=>none
def Sp (st:St) (dst:Nat) (t:TypeId) (x y:Operand):Option (AV×St):=
 match eu T t with
 |none=>So T st dst t x y
 |some (te,e)=>match st.ev x,st.ev y with
  | .at (.own l off len), .at (.own m Abg u9)=>match st.at l,st.at m with
   |some (.Bu e1 te1 A none _),some (.Bu e2 x5 B none _)=>
    if h:(e1=e/\e2=e)/\(decide (te1=te)&&decide (x5=te)&&(Nat.blt l Bk&&(Nat.blt m Bk&&!Nat.beq m l)))=true/\(off=0/\len=A.length)/\(Abg=0/\u9=B.length)/\0<B.length/\A.length+B.length<=Ea then
     some (.at (.own l 0 (A.length+B.length)),Ry st l m (.Bu e te ((h.1.1▸A:List (List e.den))++(h.1.2▸B:List (List e.den))) none none))
    else none
   |_,_=>none
  |_,_=>none
def wx (fr:Bool):(c:CK)->c.den->Option OB
 | .Hw _,_=>none
 | .row e te,xs=>some (.arr (fr&&e.flat) false e te xs)
 | .Iu e te,xs=>some (.Hs e te xs)
 | .part e te,x=>some (.arr (fr&&e.flat) false e te x.1)
 | .Bu e te _,xs=>some (.Bu e te xs none none)
def GD (H:List (Nat×OB)) (l:Nat):Option OB->List (Nat×OB)
 |some b=>Pn H l b
 |none=>H
def Yw (fr:Bool) (key:Nat->Nat):(k:Nat)->(cs:List CK)->CKs.den cs->List (Nat×OB)->List (Nat×OB)
 |_,[],_,H=>H
 |k,c::r,x,H=>Yw fr key (k+1) r x.2 (GD H (key k) (wx fr c x.1))
def cn (key:Nat->Nat):(k:Nat)->(cs:List CK)->CKs.den cs->List AC
 |_,[],_=> []
 |k,c::r,x=>(match c,x.1 with
  | .Hw τ,y=> .data τ.flat τ y
  | .row _ _,xs=> .own (key k) 0 (List.length xs)
  | .Iu _ _,xs=> .own (key k) 0 (List.length xs)
  | .Bu _ _ _,xs=> .own (key k) 0 (List.length xs)
  | .part _ _,_=> .undef)::cn key (k+1) r x.2
def aE:List (Option Nat)->List AC->List (Bool×List AC)
 |none::s,a::as=>(false,[a])::aE s as
 |some n::s,as=>(true,as.take n)::aE s (as.drop n)
 |_,_=> []
def Aqe (Jy:Bool) (sh:List (Option Nat)) (as:List AC):Option AV:=
 if Jy then some (.Nr (aE sh as)) else match Tt sh as with
  | [v]=>some v
  | []=>some .undef
  |_=>none
def nC (tks:List (Nat×Loc)):List Nat:=(tks.filter λt=>Nat.blt t.1 Bk&&!t.2.reads).map λt=>t.2.Xu
def whole (tks:List (Nat×Loc)):List Nat:=tks.flatMap λt=>match t.2 with| .row l=> [l]|_=> []
def DD (tks:List (Nat×Loc)):List Nat:=(tks.filter λt=>t.2.reads).map λt=>t.2.Xu
def GO (ins:List (Bool×CK)) (te:TypeId) (used:List Nat):List (Nat×Loc)->Option Nat
 | []=>none
 |(k, .row l)::r=>if Nat.blt k Bk&&(!used.contains l&&(match ins[k-500000]? with
   |some (false, .row _ Se)=>decide (Se=te)
   |some (false, .Iu _ Se)=>decide (Se=te)
   |some (false, .Bu _ Se _)=>decide (Se=te)
   |_=>false)) then some l else GO ins te used r
 |_::r=>GO ins te used r
def MV (ins:List (Bool×CK)) (tks:List (Nat×Loc)) (d:Nat):(k:Nat)->(used:List Nat)->List CK->List Nat
 |_,_,[]=> []
 |k,used,c::r=>match (match c with
   | .row _ te=>GO ins te used tks
   | .Iu _ te=>GO ins te used tks
   | .Bu _ te _=>GO ins te used tks
   |_=>none) with
  |some l=>l::MV ins tks d (k+1) (l::used) r
  |none=>Abe d k::MV ins tks d (k+1) used r
def nw (s:MSpec) (tks:List (Nat×Loc)) (d:Nat):List Nat:=MV s.ins tks d 0 [] s.outs
def Er (ks:List Nat) (j:Nat):Nat:=match ks[j]? with
 |some l=>l
 |none=>Bk+j
def AA (ks:List Nat) (n:Nat):Bool:=Nat.beq ks.length n&&(aD ks&&ks.all λl=>Nat.blt l Bk)
def RK (st:St) (l:List Nat):Bool:=l.all λk=>match st.at k with|some (.arr fr _ _ _ _)=>fr|_=>false
def SZ (st:St) (s:MSpec) (args:List AV):Option (List Nat×List AC×List AV):=
 match s.ptr with
 |none=>some ([],[],args)
 |some p=>match args with
  | .at (.Ii l i)::rest=>match st.at l with
   |some (.var tid vs)=>if tid=p.1/\vs.length=p.2/\i=0 then some ([l],vs,rest) else none
   |_=>none
  |_=>none
def Wz:List (Bool×CK)->List AC->Bool
 |(true, .row _ _)::r, .own _ _ _::as=>Wz r as
 |(true, .Iu _ _)::r, .own _ _ _::as=>Wz r as
 |(true,_)::_,_::_=>false
 |(false,_)::r,_::as=>Wz r as
 |_,as=>as.isEmpty
def gY {α:Type} :List (Bool×CK)->List α->List α->List α
 |(true,_)::r,v::vs,as=>v::gY r vs as
 |(false,_)::r,_::vs,a::as=>a::gY r vs as
 |_,vs,_=>vs
def uQ:List (Bool×CK)->Nat->Nat
 |(true,_)::r,n+1=>uQ r n
 |(false,_)::r,n+1=>uQ r n+1
 |_,_=>0
def MSpec.Yc (s:MSpec):Nat:=match s.ptr with|none=>0|some p=>uQ s.ins p.2
def rY (ins:List (Bool×CK)) (as:List AC) (pl:List Nat) (st:St):St:=
 match pl with
 | []=>st
 |l::_=>match st.at l with
  |some (.var tid vs)=>st.Kx l (.var tid (gY ins vs as))
  |_=>st
def Ub (d:Nat):Nat:=Abe d 999
def mJ (s:MSpec) (d:Nat):List Nat:=match s.rp with|none=> []|some _=> [Ub d]
def Tc (s:MSpec) (tks:List (Nat×Loc)) (d:Nat):List Nat:=nw s tks d++mJ s d
def o4 (H:List (Nat×OB)) (l:Nat):Bool:=match Av H l with
 |some (.Bu _ _ _ _ _)=>true
 |_=>false
def cg (H:List (Nat×OB)) (ks:List Nat) (tks:List (Nat×Loc)):List (Nat×Nat)->List Nat
 | []=> []
 |(k,j)::r=>match tks.find? (λt=>Nat.beq t.1 (Ee false k)),ks[j]? with
  |some (_, .row l),some l'=>if Nat.beq l' l&&o4 H l then l::cg H ks tks r else cg H ks tks r
  |_,_=>cg H ks tks r
def sm (H:List (Nat×OB)) (l:Nat):Nat:=match Av H l with
 |some (.Bu _ _ rows _ _)=>rows.length
 |_=>0
def dP (H:List (Nat×OB)) (ls:List Nat) (n:Nat):List AV->Bool
 | []=>true
 | .at (.sub l i _)::r=>(!ls.contains l||(Nat.blt i n&&Nat.blt i (sm H l)))&&dP H ls n r
 |_::r=>dP H ls n r
def Mt (ls:List Nat):List AV->List AV->List AV
 | .at (.sub l i c)::r,v::vs=>(if ls.contains l then .at (.sub l i c) else v)::Mt ls r vs
 |_::r,v::vs=>v::Mt ls r vs
 |_,vs=>vs
def Akp:Option OB->Option (Nat×Nat)
 |some (.Bu _ _ _ _ kp)=>kp
 |_=>none
def OB.IP (b:OB) (kp:Option (Nat×Nat)):OB:=match b with
 | .Bu e te rows out _=> .Bu e te rows out kp
 |b=>b
def dH (H0:List (Nat×OB)) (ls:List Nat) (n:Nat):List (Nat×OB)->List (Nat×OB)
 | []=> []
 |(l,b)::r=>(l,if ls.contains l then b.IP (cj n (Akp (Av H0 l))) else b)::dH H0 ls n r
def mr (cI st:St) (ls:List Nat) (n:Nat):St:=match ls with
 | []=>st
 |_=> {tmps:=Mt ls cI.tmps st.tmps,heap:=dH cI.heap ls n st.heap}
def Agb (s:MSpec) (d:Nat) (as:List AC):Option AV:=match s.rp with
 |none=>Aqe s.Jy s.Ji as
 |some _=>some (.at (.Ii (Ub d) 0))
def lX (st st1:St) (d:Nat) (s:MSpec) (pl:List Nat) (tks:List (Nat×Loc)) (r:CKs.den s.outs):St:=
 let ks:=Tc s tks d
 let key:=Er ks
 let st2:=rY s.ins (cn key 0 s.outs r) pl (st1.cV (nC tks++ks++(if s.flat then [] else DD tks)) (whole tks))
 {st2 with heap:=Yw (RK st (nC tks)) key 0 s.outs r (GD st2.heap (Ub d) (s.rp.map λtid=> .var tid ((cn key 0 s.outs r).drop s.Yc)))}
def Yl (st:St) (dst:Option Nat) (s:MSpec) (args:List AV):Option (AV×St):=
 match SZ st s args with
 |none=>none
 |some (pl,vs,rest)=>match ungroup s.Kn rest with
 |none=>none
 |some p7=>match gu st 0 s.ins (vs++p7) with
  |none=>none
  |some (x,tks)=>if aD (tks.map λt=>t.2.Xu)&&AA (Tc s tks (dst.getD 0)) (s.outs.length+(mJ s (dst.getD 0)).length)&&Nat.blt s.outs.length 1000&&Nat.blt s.ins.length 1000&&(Wz s.ins vs&&pl.all λl=>!((tks.map λt=>t.2.Xu)++Tc s tks (dst.getD 0)).contains l) then match s.fn x with
   |none=>none
   |some (r,o)=>match Iz s.ins o (vs++p7) st with
    |none=>none
    |some st1=>match Agb s (dst.getD 0) ((cn (Er (Tc s tks (dst.getD 0))) 0 s.outs r).drop s.Yc) with
     |none=>none
     |some v=>if dP (lX st st1 (dst.getD 0) s pl tks r).heap (cg st.heap (Tc s tks (dst.getD 0)) tks s.keeps) (s.Gj x) st.tmps=true then
       some (v,mr st (lX st st1 (dst.getD 0) s pl tks r) (cg st.heap (Tc s tks (dst.getD 0)) tks s.keeps) (s.Gj x)) else none
   else none
def Oi:List Operand->St->Option St
 | [],st=>some st
 |x::r,st=>match settle st (st.ev x) with
  |some (_,st')=>Oi r st'
  |none=>none
def Pp (st:St) (p x:Operand):St:=match st.ev p with
 | .at (.Ii l _)=>match T.marks.contains (gi+l) with
  |true=>match Oi [x] st with
   |some s0=>s0
   |none=>st
  |false=>st
 |_=>st
def fN (s:Spec) (args:List AV):Bool:=!(s.fresh||s.res.flat||args.all (·.settled))
def evalOp (Γ:Env) (st:St) (o:Oper):Option (AV×St):=
 match o.op with
 | .assign x=>match st.ev x,o.dst,(T.elem o.type).bind λte=>(T.ty te).map λe=>(te,e) with
  | .at .Mx,some d,some (te,e)=>if d<Bk then some (.at (.own d 0 0),st.new d (.arr (T.tq||e.flat) T.CY e te [])) else none
  |v,_,_=>some (v,st)
 | .alloc t=>match o.dst,T.ty t with
  |some d,some τ=>match T.marks.contains (ed+d) with
   |true=>uk st d t (Qv τ)
   |false=>mkVar T st d t τ (zeroCells τ)
  |_,_=>none
 | .box t x=>match o.dst,T.ty t with
  |some d,some τ=>match cellsOf τ (st.ev x) with
   |some cs=>match T.marks.contains (ed+d) with
    |true=>if cs.all (·.settled)=true then (Ge st τ cs).map λp=>(.at (.data false (.optr τ) (some p.2)),st) else none
    |false=>mkVar T st d t τ cs
   |none=>none
  |_,_=>none
 | .store t p x=>(Qh T (Pp T st p x) t ((Pp T st p x).ev p) ((Pp T st p x).ev x)).map λs=>(.undef,s)
 | .makeSlice t l c=>match o.dst with
  |some d=>Yn T st d t (st.ev l) (st.ev c)
  |none=>none
 | .makeMap t none=>match o.dst with
  |some d=>Vp T st d t
  |none=>none
 | .mapUpdate t m k x=>(Ka T st t (st.ev m) (st.ev k) (st.ev x)).map λs=>(.undef,s)
 | .insert t m k x=>(Ka T st t (st.ev m) (st.ev k) (st.ev x)).map λs=>(.undef,s)
 | .buildSlice t len parts=>match o.dst with
  |some d=>Jx T st d t len parts
  |none=>none
 | .build t parts=>(Yk T st t parts).map λv=>(v,st)
 | .call {callee:= .builtin .append,args,argTypes} =>match o.dst,args.toList,argTypes.toList with
  |some d,[x,y],[t,t']=>if t=t' then Sp T st d t x y else none
  |_,_,_=>none
 | .call {callee:= .builtin .copy,args,argTypes} =>match args.toList,argTypes.toList with
  | [x,y],[t,t']=>j5 T st t t' (st.ev x) (st.ev y)
  |_,_=>none
 | .call {callee:= .builtin .clear,args,argTypes} =>match args.toList,argTypes.toList with
  | [x],[t]=>(evalClear T st t (st.ev x)).map λs=>(.undef,s)
  |_,_=>none
 | .call {callee:= .value (.func f),args, .. } =>match Γ f with
  |some (.m s)=>Yl st o.dst s (args.toList.map st.ev)
  |some (.q s)=>if fN s (args.toList.map st.ev) then (match Oi args.toList st with
   |some st1=>(Gf T Γ st1 o).map λv=>(v,st1)
   |none=>none) else (Gf T Γ st o).map λv=>(v,st)
  |_=>(Gf T Γ st o).map λv=>(v,st)
 |_=>(Gf T Γ st o).map λv=>(v,st)
def fR (e:Ty):Nat->List (Nat×Operand)->St->Option (Bool×List e.den)
 |_,[],_=>some (true,[])
 |i,(j,x)::r,st=>
  if i=j/\(st.ev x).settled=true then match Gt st e (st.ev x),fR e (i+1) r st with
   |some (fr,y),some (Wt,ys)=>some (fr&&Wt,y::ys)
   |_,_=>none
  else none
def bX (st:St) (t:TypeId) (len:Nat) (parts:Array (Nat×Operand)):Option AV:=
 match T.elem t with
 |none=>none
 |some te=>match T.ty te with
  |none=>none
  |some e=>if parts.size=len/\len<=64/\e.size<=64 then (fR e 0 parts.toList st).map λp=> .at (.data p.1 (.slice e) p.2) else none
def Xz (Γ:Env) (st:St) (o:Oper):Option AV:=
 match o.op with
 | .buildSlice t len parts=>bX T st t len parts
 | .build t parts=>Yk T st t parts
 |_=>Gf T Γ st o
def Ab4 (q:Bool) (Γ:Env) (o:Oper):Bool:=
 match o.op with
 | .buildSlice _ _ _| .build _ _=>!q
 | .alloc _| .box _ _| .store _ _ _| .makeSlice _ _ _| .makeMap _ _| .mapUpdate _ _ _ _| .insert _ _ _ _=>true
 | .assign (.const _)=>true
 | .call {callee:= .builtin .append, .. } =>true
 | .call {callee:= .builtin .copy, .. } =>true
 | .call {callee:= .builtin .clear, .. } =>true
 | .call {callee:= .value (.func f), .. } =>match Γ f with
  |some (.m _)=>true
  |_=>false
 |_=>false
def Fz (Γ:Env) (ops:Array Oper) (st:St) (o:Oper):Option St:=
 match o.guard with
 |none=>(evalOp T Γ st o).map λr=>r.2.put o.dst r.1
 |some (j,want)=>match Yf st ((ops[j]?).bind (·.dst)) with
  |some (some b)=>if b==want then (evalOp T Γ st o).map λr=>r.2.put o.dst r.1 else some (st.put o.dst (.at .skip))
  |some none=>some (st.put o.dst (.at .skip))
  |none=>none
def aZ (Γ:Env) (ops:Array Oper):List Oper->St->Option St
 | [],st=>some st
 |o::r,st=>match Fz T Γ ops st o with
  |some st'=>aZ Γ ops r st'
  |none=>none
def Kk (q:Bool) (Γ:Env) (ops:Array Oper):List Nat:=
 (List.range ops.size).foldl (init:= []) λacc i=>match ops[i]? with
  |some o=>if Ab4 q Γ o||o.after.any (λe=>Region.binds .any e&&acc.contains e.on) then acc++ [i] else acc
  |none=>acc
def cX (q:Bool) (Γ:Env) (ops:Array Oper):List Nat:=(List.range ops.size).filter λi=>!(Kk q Γ ops).contains i
def o3 (ops:Array Oper) (hd tl:List Nat) (i:Nat):Bool:=
 match ops[i]? with
 |some o=>(match o.op,o.guard with
  | .move (.tmp _),none=>true
  |_,_=>false)&&!((tl.take 1++hd).any λj=>decide (i<j)&&Region.waitsFor .any ops j i)
 |none=>false
def Ws (q:Bool) (Γ:Env) (ops:Array Oper):List Nat:=(cX q Γ ops).filter λi=>o3 ops (cX q Γ ops) (Kk q Γ ops) i
def Ww (q:Bool) (Γ:Env) (ops:Array Oper):List Nat:=(cX q Γ ops).filter λi=>!o3 ops (cX q Γ ops) (Kk q Γ ops) i
def kx (q:Bool) (Γ:Env) (ops:Array Oper):List Nat:=Ws q Γ ops++Ww q Γ ops
def Aav (ops:Array Oper) (i:Nat):Bool:=match ops[i]? with
 |some o=>(match o.op,o.guard with
  | .extract _ _,none=>true
  |_,_=>false)
 |none=>false
def oE (ops:Array Oper):List Nat->Array Bool->Bool
 | [],Ag=>(Region.ready .any ops Ag).isEmpty
 |k::r,Ag=>(decide (Region.ready .any ops Ag= [k])||(Aav ops k&&((Region.ready .any ops Ag).contains k&&Region.free .any ops Ag k)))&&oE ops r (Ag.setIfInBounds k true)
def pG (ops:Array Oper) (tl:List Nat):List Nat->Array Bool->Bool
 | [],Ag=>oE ops tl Ag
 |k::r,Ag=>(Region.ready .any ops Ag).contains k&&Region.free .any ops Ag k&&pG ops tl r (Ag.setIfInBounds k true)
def uY (ops:Array Oper) (hd:List Nat):List Nat->Bool
 | []=>true
 |f::r=>(hd.all λi=>(f::hd).any λj=>decide (i<j)&&Region.waitsFor .any ops j i)&&r.all λt=>(f::r).any λk=>Region.waitsFor .any ops t k
def nP (ops:Array Oper) (tl hd:List Nat):List Nat->Array Bool->Bool
 | [],Ag=>pG ops tl hd Ag
 |k::r,Ag=>(Region.ready .any ops Ag).contains k&&Region.free .any ops Ag k&&nP ops tl hd r (Ag.setIfInBounds k true)
def de (q:Bool) (Γ:Env) (ops:Array Oper):Bool:=
 Region.noSelect ops&&((Ws q Γ ops).length+((Ww q Γ ops).length+(Kk q Γ ops).length)==ops.size)&&nP ops (Kk q Γ ops) (Ww q Γ ops) (Ws q Γ ops) (Array.replicate ops.size false)&&uY ops (Ww q Γ ops) (Kk q Γ ops)
def Xv (Γ:Env) (ops:Array Oper) (st:St) (o:Oper):Option AV:=
 match o.guard with
 |none=>Xz T Γ st o
 |some (j,want)=>match Yf st ((ops[j]?).bind (·.dst)) with
  |some (some b)=>if b==want then Xz T Γ st o else some (.at .skip)
  |some none=>some (.at .skip)
  |none=>none
def Hb (Γ:Env) (ops:Array Oper):List Nat->St->Option St
 | [],st=>some st
 |i::r,st=>match ops[i]? with
  |none=>none
  |some o=>match Xv T Γ ops st o with
   |some v=>Hb Γ ops r (st.put o.dst v)
   |none=>none
def Nu (Γ:Env) (ops:Array Oper):List Nat->St->Option St
 | [],st=>some st
 |i::r,st=>match ops[i]? with
  |none=>none
  |some o=>match Fz T Γ ops st o with
   |some st'=>Nu Γ ops r st'
   |none=>none
def Sr (Γ:Env) (ops:Array Oper) (draw:Bool) (st:St):Option St:=
 if draw then (if de false Γ ops then (match Hb T Γ ops (kx false Γ ops) st with
  |some st'=>Nu T Γ ops (Kk false Γ ops) st'
  |none=>none) else if de true Γ ops then (match Hb T Γ ops (kx true Γ ops) st with
  |some st'=>Nu T Γ ops (Kk true Γ ops) st'
  |none=>none) else none)
 else aZ T Γ ops ops.toList st
def zU (ops:Array Oper) (i:Nat):Bool:=match ops[i]? with
 |some o=>(match o.op,o.guard with
  | .move (.tmp _),none=>true
  |_,_=>false)
 |none=>false
def kC (ops:Array Oper) (i:Nat):Bool:=match ops[i]? with
 |some o=>(match o.op,o.guard with
  | .move (.tmp _),none=>true
  | .nilCheck _,none=>true
  | .fieldAddr _ _ _,none=>true
  |_,_=>false)
 |none=>false
def Aql (q:Bool) (ops:Array Oper) (i:Nat):Bool:=match q with
 |true=>kC ops i
 |false=>zU ops i
def Ki (q:Bool) (ops:Array Oper):List Nat->Array Bool->List Nat
 | [],_=> []
 |i::r,Ag=>if Aql q ops i&&((Region.ready .any ops Ag).contains i&&Region.free .any ops Ag i) then i::Ki q ops r (Ag.setIfInBounds i true) else Ki q ops r Ag
def Aba (q:Bool) (ops:Array Oper):List Nat:=Ki q ops (List.range ops.size) (Array.replicate ops.size false)
def kq (q:Bool) (ops:Array Oper):Bool:=Nat.ble (ops.size-(Aba q ops).length) 8
def Ll (ops:Array Oper):List Nat:=Aba (!kq false ops) ops
def Fb:List Nat->Array Bool->Array Bool
 | [],Ag=>Ag
 |i::r,Ag=>Fb r (Ag.setIfInBounds i true)
def anyS (Γ:Env) (ops:Array Oper) (K:St->Prop):Nat->Array Bool->St->Prop
 |0,Ag,st=>Region.ready .any ops Ag= []/\K st
 |f+1,Ag,st=>Region.ready .any ops Ag≠ []/\ ∀i∈Region.ready .any ops Ag,∃o st',ops[i]?=some o/\Fz T Γ ops st o=some st'/\anyS Γ ops K f (Ag.setIfInBounds i true) st'
def kD (ops:Array Oper) (i:Nat):Bool:=match ops[i]? with
 |some o=>(match o.op,o.guard with
  | .move _,none=>true
  | .load _ _,none=>true
  | .indexAddr _ _ _,none=>true
  | .fieldAddr _ _ _,none=>true
  |_,_=>false)
 |none=>false
def kI (ops:Array Oper):List Nat->Array Bool->List Nat
 | [],_=> []
 |i::r,Ag=>if kD ops i&&((Region.ready .any ops Ag).contains i&&Region.free .any ops Ag i) then i::kI ops r (Ag.setIfInBounds i true) else kI ops r Ag
def qw (ops:Array Oper) (i j:Nat) (p:Oper->Oper->Bool):Bool:=match ops[i]?,ops[j]? with
 |some x,some y=>p x y
 |_,_=>false
def oW (ops:Array Oper) (x y:Oper):Bool:=match x.dst with
 |some d=>!(y.looksAt ops).contains d
 |none=>true
def LO (x y:Oper):Bool:=match x.dst with
 |some d=>y.dst !=some d
 |none=>true
def jE (ops:Array Oper):List Nat->Array Bool->Bool
 | [],_=>true
 |r::E,Ag=>(Region.ready .any ops Ag).contains r&&jE ops E (Ag.setIfInBounds r true)
def BD (ops:Array Oper):List Nat->Bool
 | []=>true
 |r::E=>(qw ops r r (oW ops)&&E.all λq=>qw ops r q (λx y=>LO x y&&oW ops y x)&&(Region.waitsFor .any ops q r||qw ops r q (oW ops)))&&BD ops E
def Aee (ops:Array Oper) (E:List Nat) (L0:Array Bool):Bool:=E.all λr=>(List.range ops.size).all λj=>E.contains j||L0.getD j false||Region.waitsFor .any ops j r||qw ops r j (λx y=>x.apart ops y)
def df (ops:Array Oper) (E:List Nat) (L0:Array Bool):Bool:=(E.all (kD ops)&&jE ops E L0)&&(BD ops E&&Aee ops E L0)
def sA (ops:Array Oper) (E:List Nat) (Ag:Array Bool) (r:Nat):Bool:=(List.range ops.size).any λj=>!E.contains j&&(Ag.getD j false&&Region.waitsFor .any ops j r)
def Ach (Γ:Env) (ops:Array Oper) (E:List Nat) (Ag:Array Bool) (st:St):Prop:=
 ∀r∈E,sA ops E Ag r=true\/ ∃o v,ops[r]?=some o/\Xv T Γ ops st o=some v/\ ∀d,o.dst=some d->st.get d=v
def rK (Γ:Env) (ops:Array Oper) (E:List Nat) (K:St->Prop):Nat->Array Bool->St->Prop
 |0,Ag,st=>Ach T Γ ops E Ag st/\Region.ready .any ops Ag= []/\K st
 |f+1,Ag,st=>Ach T Γ ops E Ag st/\Region.ready .any ops Ag≠ []/\ ∀i∈Region.ready .any ops Ag,∃o st',ops[i]?=some o/\Fz T Γ ops st o=some st'/\rK Γ ops E K f (Ag.setIfInBounds i true) st'
def Aed (Γ:Env) (ops:Array Oper) (K:St->Prop) (n:Nat) (L0:Array Bool) (cI:St):Prop:=
 ∃E st1,df ops E L0=true/\E.length<=n/\Hb T Γ ops E cI=some st1/\rK T Γ ops E K (n-E.length) (Fb E L0) st1
def BM (Γ:Env) (draw:Bool):Env:= λf=>match Γ f with
 |some (.b s m)=>some (if draw then .q s else .m m)
 |r=>r
inductive Mn where
 |normal
 |exit (id:Nat)
 |ret
def Jf (live:List Nat):Nat->List AV->List AV
 |_,[]=> []
 |i,v::r=>(if live.contains i then v else .undef)::Jf live (i+1) r
def AV.refs:AV->List Nat
 | .at a=>a.refs
 | .agg cs=>cs.flatMap AC.refs
 | .bH _ _ _=> []
 | .Nr l=>l.flatMap λp=>p.2.flatMap AC.refs
def OB.refs:OB->List Nat
 | .var _ vs=>vs.flatMap AC.refs
 |_=> []
def bu:List Nat->St->St
 | [],st=>st
 |l::r,st=>bu r (st.forget l)
def q9 (l k m:Nat):Nat:=if m=l then k else m
def Wb (l k:Nat):AC->AC
 | .own m off len=> .own (q9 l k m) off len
 | .Ii m i=> .Ii (q9 l k m) i
 | .Ld m i=> .Ld (q9 l k m) i
 | .clo f Ev=> .clo f (Ev.map λp=>(q9 l k p.1,p.2))
 | .Lk m=> .Lk (q9 l k m)
 | .sub m i c=> .sub (q9 l k m) i c
 | .Ky m i c=> .Ky (q9 l k m) i c
 |a=>a
def St.rename (l k:Nat) (st:St):St:=
 match Av st.heap k,Av st.heap l with
 |none,some b=>if (Nat.blt l Bk&&Nat.blt k Bk)=true then
   (let s:=st.Lx (Wb l k); {s with heap:=Pn (aM s.heap l) k (b.map (Wb l k))}) else st
 |_,_=>st
def Nq:Nat->Nat->St->St
 |0,_,st=>st
 |n+1,t,st=>Nq n (t+1) (match st.get t with
  | .at (.own l _ _)=>match Av st.heap l with
   |some (.arr _ _ _ _ _)=>if (st.tmps.take t).any (λv=>v.refs.contains l) then st else st.rename l (700000+t)
   |_=>st
  |_=>st)
def di:Nat:=1000000007
def AC.Air (flat:Bool):AC->AC
 | .data fr τ x=> .data (fr&&!(flat&&τ.flat)) τ x
 |c=>c
def OB.Jv (flat all one:Bool):OB->OB
 | .arr fr tr e tid xs=> .arr (fr&&!(all||(one||(flat&&e.flat)))) (tr&&!all) e tid xs
 | .var tid vs=> .var tid (vs.map (AC.Air flat))
 |b=>b
def Ur:Nat:=1000000009
def KA:Nat:=1100000000
def Adm:Nat:=1200000000
def St.Jv (live:List Nat) (st:St):St:= {st with heap:=st.heap.map λp=>(p.1,p.2.Jv (live.contains Ur) (live.contains (KA+p.1)) (live.contains (Adm+p.1)))}
def Np:Nat:=900000000
def cq (t:Nat) (st:St):St:=match st.get t with
 | .at (.own l off len)=>match Av st.heap l with
  |some (.arr fr tr e tid xs)=>if Nat.blt l Bk=true then (st.new l (.arr fr tr e tid ((xs.drop off).take len))).put (some t) (.at (.own l 0 ((xs.drop off).take len).length)) else st
  |_=>st
 |_=>st
def Pz:Nat:=1900000000
def ZI:Nat:=950000000
def Qp (c:Nat) (st:St):St:=match Av st.heap Pz with
 |some (.var _ vs)=>match vs[c]? with
  |some (.own l off len)=>match Av st.heap l with
   |some (.arr fr tr e te xs)=>if Nat.blt l Bk=true then match Av (st.new l (.arr fr tr e te ((xs.drop off).take len))).heap Pz with
     |some (.var tid vs')=>(st.new l (.arr fr tr e te ((xs.drop off).take len))).Kx Pz (.var tid (vs'.set c (.own l 0 ((xs.drop off).take len).length)))
     |_=>st
    else st
   |_=>st
  |_=>st
 |_=>st
def Qg (live:List Nat):Nat->Nat->St->St
 |0,_,st=>st
 |n+1,c,st=>Qg live n (c+1) (if live.contains (ZI+c) then Qp c st else st)
def Px (live:List Nat):Nat->Nat->St->St
 |0,_,st=>Qg live 16 0 st
 |n+1,t,st=>Px live n (t+1) (if live.contains (Np+t) then cq t st else st)
def St.clean (live:List Nat) (st:St):St:=
 let s:St:= {st with tmps:=Jf live 0 st.tmps}
 let r1:=s.tmps.flatMap AV.refs
 let r2:=r1++(s.heap.filter λp=>r1.contains p.1).flatMap λp=>p.2.refs
 let s2:=bu ((s.heap.map (·.1)).filter λl=>!r2.contains l&&Nat.blt l Bk) s
 let s2:=if live.any (λt=>Nat.ble Np t&&Nat.blt t di) then Px live s2.tmps.length 0 s2 else s2
 let s3:=if live.contains di then Nq s2.tmps.length 0 s2 else s2
 if live.any (λt=>Nat.ble Ur t) then s3.Jv live else s3
def Ga:Code->Nat
 | .region id _ _=>id
 | .seq a _=>Ga a
 | .cond _ a _=>Ga a
 | .block _ c=>Ga c
 | .loop c=>1000+Ga c
 |_=>0
def Aiv (a b:List Nat):List Nat:=a++b.filter λt=>!a.contains t
def AG:List Oper->List Nat->List Nat
 | [],out=>out
 |o::r,out=>Aiv (o.op.operands.toList.filterMap λ | .tmp t=>some t|_=>none) (match o.dst with|some d=>(AG r out).filter (·!=d)|none=>AG r out)
def LP:List (Nat×List Nat)->Nat->List Nat
 | [],_=> []
 |(k,l)::r,id=>if k=id then l else LP r id
def qY:Code->List (Nat×List Nat)->List Nat->List Nat->List Nat×List (Nat×List Nat)
 | .region _ ops _,_,_,out=>(AG ops.toList out,[])
 | .seq a b,env,ret,out=>let rb:=qY b env ret out;let ra:=qY a env ret rb.1;(ra.1,ra.2++rb.2)
 | .cond c a b,env,ret,out=>let ra:=qY a env ret out;let rb:=qY b env ret out
  (Aiv (match c with| .tmp t=> [t]|_=> []) (Aiv ra.1 rb.1),ra.2++rb.2)
 | .block id c,env,ret,out=>qY c ((id,out)::env) ret out
 | .exit id,env,_,_=>(LP env id,[])
 | .ret,_,ret,_=>(ret,[])
 | .loop c,env,ret,_=>let l:=(qY c env ret []).1;let r:=qY c env ret l;(l,(Ga c,l)::r.2)
 |_,_,_,out=>(out,[])
def AH:List ResultVar->List Nat
 | []=> []
 | .tmp t::r=>t::AH r
 | .cell p _::r=>p::AH r
def AF (marks:List Nat) (fn:Func) (c:Code):Nat->List Nat:=let ret:=AH fn.results.toList;let g:=LP (qY c [] ret ret).2;match marks with
 | []=>g
 |m=> λid=>g id++m
def St.Re (dead:List Nat) (st:St):St:=
 let s:St:= {st with tmps:=Jf ((List.range st.tmps.length).filter λt=>!dead.contains t) 0 st.tmps}
 let r1:=s.tmps.flatMap AV.refs
 let r2:=r1++(s.heap.filter λp=>r1.contains p.1).flatMap λp=>p.2.refs
 bu ((s.heap.map (·.1)).filter λl=>!r2.contains l&&Nat.blt l Bk) s
def Zj (ops:Array Oper) (t:Nat):Bool:=ops.toList.any λo=>o.dst==some t
def kZ (Γ:Env) (ops:Array Oper) (draw:Bool) (st:St) (K:St->Prop):Prop:=
 (∃st',Sr T Γ ops draw st=some st'/\K st')\/
 (draw=true/\Region.noSelect ops=true/\ ∃cI,Hb T Γ ops (Ll ops) st=some cI/\
  (anyS T Γ ops K (ops.size-(Ll ops).length) (Fb (Ll ops) (Array.replicate ops.size false)) cI\/Aed T Γ ops K (ops.size-(Ll ops).length) (Fb (Ll ops) (Array.replicate ops.size false)) cI))
def za (Γ:Env) (ops:Array Oper) (draw:Bool) (st:St) (K:St->Prop):Prop:=
 kZ T Γ ops draw st K\/ ∃dead:List Nat,(dead.all (Zj ops))=true/\kZ T Γ ops draw st λs=>K (s.Re dead)
def NJ (K:St->Prop) (Q:Mn->St->Prop):Mn->St->Prop
 | .normal,s=>K s
 |e,s=>Q e s
def xR (id:Nat) (Q:Mn->St->Prop):Mn->St->Prop
 | .exit UP,s=>if UP=id then Q .normal s else Q (.exit UP) s
 |e,s=>Q e s
def Ac7 (ops:Array Oper) (t:Nat):Bool:=ops.toList.any λo=>match o.op with
 | .extract (.tmp s) _=>Nat.beq s t
 | .move (.tmp s)=>Nat.beq s t
 | .assign (.tmp s)=>Nat.beq s t
 |_=>false
def Ps (ops:Array Oper):Nat->List AV->List AV
 |_,[]=> []
 |i, .Nr l::r=>(if Ac7 ops i=true then .Nr l else .undef)::Ps ops (i+1) r
 |i,v::r=>v::Ps ops (i+1) r
def St.nB (ops:Array Oper) (st:St):St:= {st with tmps:=Ps ops 0 st.tmps}
inductive Pk (Γ:Env) (live:Nat->List Nat):Code->St->(Mn->St->Prop)->Prop where
 |skip {st:St} {Q:Mn->St->Prop} :Q .normal st->Pk Γ live .skip st Q
 |label {l:Nat} {st:St} {Q:Mn->St->Prop} :Q .normal st->Pk Γ live (.label l) st Q
 |exit {id:Nat} {st:St} {Q:Mn->St->Prop} :Q (.exit id) st->Pk Γ live (.exit id) st Q
 |ret {st:St} {Q:Mn->St->Prop} :Q .ret st->Pk Γ live .ret st Q
 |region {id:Nat} {ops:Array Oper} {draw:Bool} {st:St} {Q:Mn->St->Prop} :za T (BM Γ draw) ops draw (st.nB ops) (Q .normal)->Pk Γ live (.region id ops draw) st Q
 |seq {x y:Code} {st:St} {Q:Mn->St->Prop} (Q1:Mn->St->Prop):Pk Γ live x st Q1->(∀s,Q1 .normal s->Pk Γ live y s Q)->(∀e s,e≠ .normal->Q1 e s->Q e s)->Pk Γ live (.seq x y) st Q
 |cond {c:Operand} {x y:Code} {st:St} {fr t:Bool} {Q:Mn->St->Prop} :st.ev c= .at (.data fr .bool t)->(t=true->Pk Γ live x st Q)->(t=false->Pk Γ live y st Q)->Pk Γ live (.cond c x y) st Q
 |block {id:Nat} {c:Code} {st:St} {Q:Mn->St->Prop} (Q1:Mn->St->Prop):Pk Γ live c st Q1->(∀e s,Q1 e s->xR id Q e s)->Pk Γ live (.block id c) st Q
 |loop {c:Code} {st:St} {Q:Mn->St->Prop} (Q1:Mn->St->Prop):Pk Γ live c (st.clean (live (Ga c))) Q1->(∀s,Q1 .normal s->Pk Γ live (.loop c) s Q)->(∀e s,e≠ .normal->Q1 e s->Q e s)->Pk Γ live (.loop c) st Q
def dL (st:St):List ResultVar->Option (List AV)
 | []=>some []
 | .tmp t::r=>(dL st r).map λl=>st.get t::l
 | .cell p t::r=>match Qx T st t (st.get p),dL st r with
  |some v,some l=>some (v::l)
  |_,_=>none
def nM (s:Spec) (fn:Func) (st:St):Option (Bool×s.res.den):=
 match dL T st fn.results.toList with
 |some [v]=>if s.Jy then none else Gt st s.res v
 |some [v,u]=>if s.Jy then Eg st s.res [v,u] else none
 |some [v,u,t]=>if s.Jy then Eg st s.res [v,u,t] else none
 |_=>none
def Tq:(τ:Ty)->τ.den->List AV
 | .pair a r,x=> .at (.data a.flat a x.1)::Tq r x.2
 |_,_=> []
def kX (st:St):(c:CK)->AC->Option (c.den×List Nat)
 | .Hw τ,a=>if τ.flat||a.settled then (Ec st τ a).map λp=>(p.2,[]) else none
 | .row e te, .own l off len=>match st.at l with
  |some (.arr _ _ e' Se xs)=>if h:e'=e/\Se=te then some ((((h.1▸xs:List e.den).drop off).take len),[l]) else none
  |_=>none
 | .row _ _, .Mx=>some ([],[])
 | .Iu e te, .own l off len=>match st.at l with
  |some (.arr _ tr e' Se xs)=>if h:e'=e/\Se=te/\(tr||e.flat)=true then some ((((h.1▸xs:List e.den).drop off).take len),[l]) else none
  |some (.Hs e' Se xs)=>if h:e'=e/\Se=te then some ((((h.1▸xs:List e.den).drop off).take len),[l]) else none
  |_=>none
 | .Iu _ _, .Mx=>some ([],[])
 | .Bu e te _, .own l off len=>match st.at l with
  |some (.Bu e' Se rows none _)=>if h:e'=e/\Se=te/\off=0/\len=rows.length then some ((h.1▸rows:List (List e.den)),[l]) else none
  |_=>none
 |_,_=>none
def Vz (st:St):(cs:List CK)->List AC->Option (CKs.den cs×List Nat)
 | [],[]=>some ((),[])
 |c::r,a::as=>match kX st c a,Vz st r as with
  |some (x,t1),some (y,t2)=>some ((x,y),t1++t2)
  |_,_=>none
 |_,_=>none
def qB (st:St) (l:Nat):(c:CK)->Option c.den
 | .Hw _=>none
 | .row e te=>match st.at l with
  |some (.arr _ _ e' Se xs)=>if h:e'=e/\Se=te then some (h.1▸xs) else none
  |_=>none
 | .Iu e te=>match st.at l with
  |some (.Hs e' Se xs)=>if h:e'=e/\Se=te then some (h.1▸xs) else none
  |_=>none
 | .part _ _=>none
 | .Bu _ _ _=>none
def Pr (st:St):(k:Nat)->(cs:List (Bool×CK))->Option (IOs.den cs)
 |_,[]=>some ()
 |k,(true, .Hw _)::r=>Pr st (k+1) r
 |k,(true, .Bu _ _ _)::r=>Pr st (k+1) r
 |k,(true, .row e te)::r=>match qB st (Ee true k) (.row e te),Pr st (k+1) r with
  |some x,some y=>some (x,y)
  |_,_=>none
 |k,(true, .Iu e te)::r=>match qB st (Ee true k) (.Iu e te),Pr st (k+1) r with
  |some x,some y=>some (x,y)
  |_,_=>none
 |k,(true, .part e te)::r=>match qB st (Ee true k) (.row e te),Pr st (k+1) r with
  |some x,some y=>some (x,y)
  |_,_=>none
 |k,(false,_)::r=>Pr st (k+1) r
def Qk:(k:Nat)->List (Bool×CK)->List Nat
 |_,[]=> []
 |k,(true, .Hw _)::r=>Qk (k+1) r
 |k,(true, .Bu _ _ _)::r=>Qk (k+1) r
 |k,(true,_)::r=>Ee true k::Qk (k+1) r
 |k,(false,_)::r=>Qk (k+1) r
def Kd:(k:Nat)->List (Bool×CK)->List AC->Option (List AC)
 |_,_,[]=>some []
 |k,(true, .row _ _)::r, .own l _ _::as=>if Nat.beq l (Ee true k) then Kd (k+1) r as else none
 |k,(true, .Iu _ _)::r, .own l _ _::as=>if Nat.beq l (Ee true k) then Kd (k+1) r as else none
 |k,(false,_)::r,a::as=>(Kd (k+1) r as).map λl=>a::l
 |_,_,_=>none
def jo (st:St):List AC->List (Bool×CK)->Prop
 | .own l off len::as,(true,_)::r=>(off=0/\match st.at l with
  |some (.arr _ _ _ _ xs)=>len=xs.length
  |some (.Hs _ _ xs)=>len=xs.length
  |_=>False)/\jo st as r
 |_::as,(false,_)::r=>jo st as r
 |_,_=>True
def OI (s:MSpec) (st:St) (l:List AV):Option (List AC×List Nat):=match s.rp with
 |none=>if s.Jy=Nat.blt 1 l.length then (ungroup s.Ji l).map λas=>(as,[]) else none
 |some tid=>match l with
  | [.at (.Ii m i)]=>match st.at m with
   |some (.var Vo vs)=>if Vo=tid/\i=0/\Nat.blt m Bk=true then some (vs,[m]) else none
   |_=>none
  |_=>none
def xW (st:St) (n:Nat) (as:List AC):List (Nat×Nat)->Prop
 | []=>True
 |(k,j)::r=>(match as[j]? with
  |some (.own l _ _)=>match st.at l with
   |some (.Bu _ _ _ _ (some p))=>p.1=Ee false k/\n<=p.2/\Nat.blt k 1000=true
   |_=>False
  |_=>False)/\xW st n as r
def kK (s:MSpec) (fn:Func) (x:Ins.den s.ins) (st:St) (cs:List AC) (P:CKs.den s.outs×IOs.den s.ins->Prop):Prop:=
 match dL T st fn.results.toList with
 |none=>False
 |some l=>match OI s st l with
  |none=>False
  |some (as,ml)=>match Vz st s.outs (cs++as),Pr st 0 s.ins with
   |some (r,ls),some o=>(aD (ml++ls++Qk 0 s.ins)&&Nat.blt s.ins.length 1000&&Nat.blt s.outs.length 1000&&s.Ab9)=true/\xW st (s.Gj x) (cs++as) s.keeps/\P (r,o)
   |_,_=>False
def YW (s:MSpec) (fn:Func) (x:Ins.den s.ins) (st:St) (P:CKs.den s.outs×IOs.den s.ins->Prop):Prop:=
 match s.ptr with
 |none=>kK T s fn x st [] P
 |some p=> ∃vs cs,st.at Pz=some (.var p.1 vs)/\vs.length=p.2/\Kd 0 s.ins vs=some cs/\jo st vs s.ins/\kK T s fn x st cs P
def aO (s:MSpec) (as:List AC):List AV:=match s.ptr with
 |none=>Tt s.Kn as
 |some p=> .at (.Ii Pz 0)::Tt s.Kn (as.drop p.2)
def qS (s:MSpec) (x:Ins.den s.ins):List (Nat×OB):=match s.ptr with
 |none=>a9 0 s.ins x
 |some p=>a9 0 s.ins x++ [(Pz, .var p.1 ((cc 0 s.ins x).take p.2))]
def ai:List (Bool×CK)->Bool
 | []=>true
 |(true, .Bu _ _ _)::_=>false
 |_::r=>ai r
def BH (s:MSpec):Bool:=ai s.ins&&match s.ptr with
 |none=>true
 |some p=>Nat.ble p.2 s.ins.length
def Ah4 (Γ:Env) (s:MSpec) (fn:Func) (x:Ins.den s.ins) (P:CKs.den s.outs×IOs.den s.ins->Prop):Prop:=
 (Nat.blt s.ins.length 1000&&BH s)=true/\ ∃c,fn.body=some c/\Pk T Γ (AF T.marks fn c) c {tmps:=aO s (cc 0 s.ins x)++List.replicate (fn.ntmps-(aO s (cc 0 s.ins x)).length) .undef,heap:=qS s x}
  (λe st=>(∀id,e≠ .exit id)/\YW T s fn x st P)
def YX (Γ:Env) (s:Spec) (fn:Func) (x:s.arg.den) (P:s.res.den->Prop):Prop:=
 ∃c,fn.body=some c/\Pk T Γ (AF T.marks fn c) c {tmps:=Tq s.arg x++List.replicate (fn.ntmps-(Tq s.arg x).length) .undef,heap:= []}
  (λe st=>(∀id,e≠ .exit id)/\ ∃fr y,nM T s fn st=some (fr,y)/\(fr||!s.fresh)=true/\P y)
end Go.Proofs.YtkkdpknjohcekaaGreat
