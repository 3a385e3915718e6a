/-
  Part 3 of the proof that the statement FnExactPhaseTwoWord holds.
-/
import Derived.Test.YtebabhocakedaaaCPhaseTwoWord01
namespace Go.Proofs.Ytebabhocakedaaa
open Go.RowKit
def Dh:Nat→St→List AC→Option (List AC×St)
 |0,st,cs=>if cs.all (·.settled) then some (cs,st) else none
 |n+1,st,cs=>
  match cs.find? (fun c=>!c.settled) with
  |none=>some (cs,st)
  |some (.own l _ _)=>match st.at l with
   |some (.arr fr _ e _ xs)=>Dh n (st.freeze l fr e xs) (cs.map (Ba l fr e xs))
   |some (.xarr e _ xs)=>Dh n (st.freeze l false e xs) (cs.map (Ba l false e xs))
   |_=>none
  |some (.mapr l)=>match st.at l with
   |some (.smp v m)=>Dh n (st.Dz l v m) (cs.map (Dd l v m))
   |_=>none
  |some _=>none
def settle (st:St):AV→Option (AV×St)
 | .at (.own l off len)=>match st.at l with
  |some (.arr fr _ e _ xs)=>some (.at (.data fr (.slice e) ((xs.drop off).take len)),st.freeze l fr e xs)
  |some (.xarr e _ xs)=>some (.at (.data false (.slice e) ((xs.drop off).take len)),st.freeze l false e xs)
  |_=>none
 | .at (.mapr l)=>match st.at l with
  |some (.smp v m)=>some (.at (.data false (.smap v) m),st.Dz l v m)
  |_=>none
 | .at a=>if a.settled then some (.at a,st) else none
 | .agg cs=>(Dh cs.length st cs).map fun p=>(.agg p.1,p.2)
 | .tup fr τ x=>some (.tup fr τ x,st)
 | .tupc _=>none
def AC.refs:AC→List Nat
 | .own l _ _| .vptr l _| .eptr l _| .mapr l| .sub l _ _| .sptr l _ _=> [l]
 | .clo _ caps=>caps.map (·.1)
 |_=> []
def Qi:List Nat→Bool
 | []=>true
 |a::r=>!r.contains a&&Qi r
def Ty.tree:Ty→Bool
 | .int _| .bool| .str| .unit=>true
 | .slice e=>e.tree
 | .pair a r=>a.tree&&r.tree
 |_=>false
def Kj (st:St):AC→Bool
 | .data _ τ _=>τ.flat
 | .nilv=>true
 | .own l _ _=>match st.at l with
  |some (.arr _ tr e _ _)=>tr||e.flat
  |some (.xarr _ _ _)=>true
  |_=>false
 |_=>false
def Lh (st:St):AV→Bool
 | .at a=>Kj st a
 | .agg cs=>cs.all (Kj st)&&Qi (cs.flatMap AC.refs)
 |_=>false
def Aj:Nat:=1000000000
variable (T:Tab)
def Azi (t:TypeId) (τ:Ty) (i:Nat):Option TypeId:=
 if τ.Ac then (List.range 24).findSome? fun f=>match T.off t f with
  |some (o,u)=>if o=i then some u else none
  |none=>none
 else some t
def Tab.Azr (te:TypeId):Option Ty:=if T.grids.contains te then (match T.ty te with
 |some (.slice e)=>some e
 |_=>none) else none
def Vd (te:TypeId) (e:Ty):OB:=match T.Azr te with
 |some e'=> .grid e' te [] none none
 |none=> .arr (T.fr0||e.flat) T.tr0 e te []
def Me (b:OB) (key l i:Nat) (st:St):St:=
 match st.at l with
 |some (.var _ vs)=>match vs[i]? with
  |some .nilv=>
   let s1:=st.new key b
   match s1.at l with
   |some (.var tid vs')=>s1.Ff l (.var tid (Mg vs' i (.own key 0 0)))
   |_=>s1
  |_=>st
 |_=>st
def Xl (l:Nat) (t:TypeId) (τ:Ty):Nat→Nat→St→St
 |0,_,st=>st
 |n+1,i,st=>
  Xl l t τ n (i+1) (match ((Azi T t τ i).bind T.elem).bind fun te=>(T.ty te).map fun e=>(te,e) with
   |some (te,e)=>Me (Vd T te e) (100000+l*100+i) l i st
   |none=>st)
def Vu (l off:Nat) (t:TypeId) (τ:Ty):Nat→Nat→St→St
 |0,_,st=>st
 |n+1,i,st=>
  Vu l off t τ n (i+1) (match ((Azi T t τ i).bind T.elem).bind fun te=>(T.ty te).map fun e=>(te,e) with
   |some (te,e)=>Me (Vd T te e) (100000+l*100+(off+i)) l (off+i) st
   |none=>st)
def zeroCells:(τ:Ty)→List AC
 | .unit=> []
 | .pair a r=>zeroCells a++zeroCells r
 | .slice _=> [.nilv]
 | .oslice _=> [.nilv]
 | .ptr _=> [.nilp]
 | .optr _=> [.nilp]
 | .clo _ _=> [.undef]
 |τ=> [.data true τ τ.zero]
def cellsOf (τ:Ty):AV→Option (List AC)
 | .agg cs=>if τ.Ac&&cs.length==τ.size then some cs else none
 | .at (.data fr τ' x)=>if τ'=τ then some (Pd fr τ' x) else none
 | .at .undef=>none
 | .at .skip=>none
 | .at a=>if τ.Ac then none else some [a]
 |_=>none
def mkVar (st:St) (l:Nat) (t:TypeId) (τ:Ty) (cs:List AC):Option (AV×St):=
 if Aj≤100000+l*100+cs.length then none else
 let s:=Xl T l t τ cs.length 0 (st.new l (.var t (cs.map (Az l))))
 match s.at l with
 |some (.var _ _)=>some (.at (.vptr l 0),s)
 |_=>none
def Bs {α:Type} (xs:List α) (i:Nat) (ys:List α):List α:=xs.take i++ys++xs.drop (i+ys.length)
def Mk (st:St) (t:TypeId) (p v:AV):Option St:=
 match T.ty t,p with
 |some τ, .at (.vptr l i)=>match st.at l,cellsOf τ v with
  |some (.var tid vs),some cs=>if i+cs.length≤vs.length then some (if τ.Ac&&Nat.blt (100000+l*100+(i+cs.length)) Aj then Vu T l i t τ cs.length 0 (st.Ff l (.var tid (Bs vs i cs))) else st.Ff l (.var tid (Bs vs i cs))) else none
  |_,_=>none
 |some τ, .at (.eptr l j)=>match settle st v with
  |some (v',st')=>match st'.at l,Cs st' τ v' with
   |some (.arr fr tr e tid xs),some (fr',x)=>if h:τ=e then (if j<xs.length then some (st'.Ff l (.arr (fr&&fr') (tr&&(Lh st v&&e.tree)) e tid (xs.set j (h▸x)))) else none) else none
   |_,_=>none
  |none=>none
 |_,_=>none
def Ap:Nat:=4294967296
def Hr (st:St) (dst:Nat) (t:TypeId) (x y:Operand):Option (AV×St):=
 match T.elem t with
 |none=>none
 |some te=>match T.ty te,settle st (st.ev y) with
  |some e,some (y',st')=>match Cs st' (.slice e) y' with
   |none=>none
   |some (fr2,ys)=>
    let tr2:=e.flat||(Lh st (st.ev y)&&e.tree)
    match st'.ev x with
    | .at .nilv=>if ys.length≤Ap∧dst<Aj then some (.at (.own dst 0 (0+ys.length)),(st'.new dst (.arr (T.fr0||e.flat) T.tr0 e te [])).new dst (.arr ((T.fr0||e.flat)&&(fr2||e.flat)) (T.tr0&&tr2) e te (((([]:List e.den).drop 0).take 0)++ys))) else none
    | .at (.own l off len)=>match st'.at l with
     |some (.arr fr tr e' tid xs)=>if h:e'=e∧tid=te then
       (if len+ys.length≤Ap∧l<Aj then
        some (.at (.own l 0 (len+ys.length)),st'.new l (.arr (fr&&(fr2||e.flat)) (tr&&tr2) e te ((((h.1▸xs:List e.den).drop off).take len)++ys))) else none)
      else none
     |_=>none
    |_=>none
  |_,_=>none
def Je (st:St) (l i m:Nat) (e:Ty) (te tid:TypeId) (rows:List (List e.den)) (kp:Option (Nat×Nat)):St:=
 (st.Ff l (.grid e te rows (some i) kp)).new m (.arr false false e tid (rows.getD i []))
def Ka (st:St) (dst:Nat) (t:TypeId) (x y:Operand):Option (AV×St):=
 match x with
 | .tmp tx=>match st.get tx with
  | .at (.sub l i _)=>match st.at l,T.elem t with
   |some (.grid e te rows none kp),some tid=>if (Nat.blt l Aj&&(Nat.blt dst Aj&&!Nat.beq dst l))=true then Hr T ((Je st l i dst e te tid rows kp).put (some tx) (.at (.own dst 0 (rows.getD i []).length))) dst t x y else none
   |_,_=>none
  |_=>Hr T st dst t x y
 |_=>Hr T st dst t x y
def Aef:Ty→Bool
 | .int _| .bool| .str| .slice _| .oslice _=>true
 |_=>false
def Yi:Ty→Bool
 | .unit=>true
 | .pair a r=>Yi a&&Yi r
 |e=>Aef e
def Se (st:St) (dst:Nat) (t:TypeId) (l c:AV):Option (AV×St):=
 match T.elem t,l,c with
 |some te, .at (.data _ (.int _) n), .at (.data _ (.int _) m)=>match T.ty te with
  |some e=>if inb n (Ap+1)=true∧n=m∧Yi e=true∧dst<Aj then some (.at (.own dst 0 n.toNat),st.new dst (.arr (T.fr0||e.flat) (T.tr0&&e.tree) e te (List.replicate n.toNat e.zero))) else none
  |none=>none
 |_,_,_=>none
def Ga (e:Ty):Nat→List (Nat×Operand)→St→Option (Bool×Bool×List e.den×St)
 |_,[],st=>some (true,true,[],st)
 |i,(j,x)::r,st=>
  if i=j then match settle st (st.ev x) with
   |some (v,st')=>match Cs st' e v with
    |some (fr,y)=>match Ga e (i+1) r st' with
     |some (fr',tr',ys,st'')=>some (fr&&fr',Lh st (st.ev x)&&e.tree&&tr',y::ys,st'')
     |none=>none
    |none=>none
   |none=>none
  else none
def Gp (st:St) (dst:Nat) (t:TypeId) (len:Nat) (parts:Array (Nat×Operand)):Option (AV×St):=
 match T.elem t with
 |none=>none
 |some te=>match T.ty te with
  |none=>none
  |some e=>if parts.size=len∧len≤64∧e.size≤64∧dst<Aj then (match Ga e 0 parts.toList st with
   |some (fr,tr,ys,st')=>some (.at (.own dst 0 len),st'.new dst (.arr ((T.fr0||e.flat)&&fr) (T.tr0&&tr) e te ys))
   |none=>none) else none
def Mj (st:St) (dst:Nat) (t:TypeId):Option (AV×St):=
 match T.mapOf t with
 |some v=>if dst<Aj then some (.at (.mapr dst),st.new dst (.smp v fun _=>none)) else none
 |none=>none
def Fg {α:Type} (m:ByteArray→Option α) (k:ByteArray) (x:α):ByteArray→Option α:=fun s=>if s=k then some x else m s
def Eh (st:St) (t:TypeId) (m k x:AV):Option St:=
 match T.mapOf t,m,k with
 |some v, .at (.mapr l), .at (.data _ .str s)=>match st.at l,Cs st v x with
  |some (.smp v' f),some (_,y)=>if h:v'=v∧v.flat=true∧v.Ac=false then some (st.Ff l (.smp v (Fg (h.1▸f:ByteArray→Option v.den) s y))) else none
  |_,_=>none
 |_,_,_=>none
def Aa0 (st:St) (t t':TypeId) (x y:AV):Option (AV×St):=
 match x,(T.elem t).bind T.ty with
 | .at (.own l off len),some e=>if T.elem t=T.elem t'∧e.flat=true∧e.size=1 then match st.at l,Cs st (.slice e) y with
  |some (.arr fr _ e' tid xs),some (_,ys)=>if h:e'=e∧T.elem t=some tid then
    some (.at (.data true (.int .i64) (min len ys.length:Nat)),st.Ff l (.arr fr false e tid (Bs (h.1▸xs:List e.den) off (ys.take len))))
   else none
  |_,_=>none
  else none
 |_,_=>none
def evalClear (st:St) (t:TypeId) (x:AV):Option St:=
 match x,(T.elem t).bind T.ty with
 | .at (.own l off len),some e=>if e.flat=true∧Aef e=true then match st.at l with
  |some (.arr fr _ e' tid xs)=>if h:e'=e∧T.elem t=some tid then
    some (st.Ff l (.arr fr false e tid (Bs (h.1▸xs:List e.den) off (List.replicate len e.zero))))
   else none
  |_=>none
  else none
 |_,_=>none
def Gm (st:St) (t:TypeId):List (Nat×Operand)→List AC→Option (List AC)
 | [],cs=>some cs
 |(i,x)::r,cs=>
  match T.off t i with
  |some (o,u)=>match T.ty u with
   |some ρ=>match cellsOf ρ (st.ev x) with
    |some c=>if o+c.length≤cs.length then Gm st t r (Bs cs o c) else none
    |none=>none
   |none=>none
  |none=>none
def Ob (st:St) (t:TypeId) (parts:Array (Nat×Operand)):Option AV:=
 match T.ty t with
 |none=>none
 |some τ=>if τ.Ac then (Gm T st t parts.toList (zeroCells τ)).map .agg else none
def Bu (io:Bool) (k:Nat):Nat:=if io then 1000000000+k else 500000+k
def Ey (k:Nat):Nat:=600000+k
def Bdo (dst:Nat) (k:Nat):Nat:=1000000*(dst+1)+k
def Kz:List (Option Nat)→List AC→List AV
 |none::s,a::as=> .at a::Kz s as
 |some n::s,as=> .agg (as.take n)::Kz s (as.drop n)
 |_,_=> []
def Gb:List (Option Nat)→List Value→List Value
 |none::s,u::us=>u::Gb s us
 |some n::s,us=> .agg (us.take n).toArray::Gb s (us.drop n)
 |_,_=> []
def ungroup:List (Option Nat)→List AV→Option (List AC)
 | [],[]=>some []
 |none::s, .at a::as=>(ungroup s as).map fun r=>a::r
 |some n::s, .agg cs::as=>if cs.length=n then (ungroup s as).map fun r=>cs++r else none
 |_,_=>none
def Ac6 (l:Nat):(c:CK)→c.den→Option OB
 | .dat _,_=>none
 | .row e te,xs=>some (.arr false false e te xs)
 | .xrow e te,xs=>some (.xarr e te xs)
 | .part e te,x=>some (.arr false false e te x.1)
 | .grid e te kp,xs=>some (.grid e te xs none (if kp then some (l,List.length xs) else none))
def Bj0 (l:Nat):(c:CK)→c.den→AC
 | .dat τ,x=> .data τ.flat τ x
 | .row _ _,xs=> .own l 0 (List.length xs)
 | .xrow _ _,xs=> .own l 0 (List.length xs)
 | .part _ _,x=> .own l x.2.1 x.2.2
 | .grid _ _ _,xs=> .own l 0 (List.length xs)
def Zu {α:Type} (l:Nat):Option α→List (Nat×α)→List (Nat×α)
 |none,r=>r
 |some b,r=>(l,b)::r
def Ps:(k:Nat)→(cs:List (Bool×CK))→Ins.den cs→List (Nat×OB)
 |_,[],_=> []
 |k,p::r,x=>Zu (Bu p.1 k) (Ac6 (Bu p.1 k) p.2 x.1) (Ps (k+1) r x.2)
def Sl:(k:Nat)→(cs:List (Bool×CK))→Ins.den cs→List AC
 |_,[],_=> []
 |k,p::r,x=>Bj0 (Bu p.1 k) p.2 x.1::Sl (k+1) r x.2
inductive Loc where
 |row (l:Nat)
 |sub (l i c:Nat)
 |view (l:Nat)
 deriving DecidableEq
def Loc.lab:Loc→Nat
 | .row l=>l
 | .sub l _ _=>l
 | .view l=>l
def Loc.reads:Loc→Bool
 | .view _=>true
 |_=>false
def Tc (st:St) (ls:List Nat):Bool:=ls.all fun l=>match st.at l with|some (.var _ vs)=>vs.all (·.settled)|_=>false
def views (k:Nat) (ls:List Nat):List (Nat×Loc):=ls.map fun l=>(Bu false k, .view l)
def Gi (st:St) (io:Bool) (k:Nat):(c:CK)→AC→Option (c.den×List (Nat×Loc))
 | .dat τ, .own l off len=>(Bo st τ (.own l off len)).map fun p=>(p.2,[(Bu false k, .view l)])
 | .dat τ, .clo g caps=>if Tc st (caps.map (·.1))&&!τ.Ac then (Et st τ (.clo g caps)).map fun p=>(p.2,views k (caps.map (·.1))) else none
 | .dat τ, .vptr l i=>if Tc st [l]&&!τ.Ac then (Et st τ (.vptr l i)).map fun p=>(p.2,views k [l]) else none
 | .dat τ, .sub l i c=>(Bo st τ (.sub l i c)).map fun p=>(p.2,[(Bu false k, .view l)])
 | .dat τ,a=>if τ.flat||a.settled then (Bo st τ a).map fun p=>(p.2,[]) else none
 | .row e te, .own l off len=>match st.at l with
  |some (.arr _ _ e' te' xs)=>if h:e'=e∧te'=te∧off=0∧len=xs.length then some ((h.1▸xs:List e.den),[(Bu io k, .row l)]) else none
  |_=>none
 | .row e _, .sub l i c=>match st.at l with
  |some (.xarr e' _ xs)=>if h:e'= .slice e∧e.flat=true∧io=true∧c=0 then xs[i]?.map fun y=>((h.1▸y:(Ty.slice e).den),[(Bu io k, .sub l i c)]) else none
  |_=>none
 | .row _ _, .nilv=>some ([],[])
 | .xrow e te, .own l off len=>match st.at l with
  |some (.xarr e' te' xs)=>if h:e'=e∧te'=te∧off=0∧len=xs.length then some ((h.1▸xs:List e.den),[(Bu io k, .row l)]) else none
  |_=>none
 | .xrow e _, .sub l i c=>match st.at l with
  |some (.xarr e' _ xs)=>if h:e'= .slice e∧io=true∧c=0 then xs[i]?.map fun y=>((h.1▸y:(Ty.slice e).den),[(Bu io k, .sub l i c)]) else none
  |_=>none
 | .xrow _ _, .nilv=>some ([],[])
 | .part e te, .own l off len=>match st.at l with
  |some (.arr _ _ e' te' xs)=>if h:e'=e∧te'=te∧e.flat=true∧io=true then some (((h.1▸xs:List e.den),off,len),[(Bu io k, .row l)]) else none
  |_=>none
 | .grid e te _, .own l off len=>match st.at l with
  |some (.grid e' te' rows none _)=>if h:e'=e∧te'=te∧off=0∧len=rows.length∧io=false then some ((h.1▸rows:List (List e.den)),[(Bu io k, .row l)]) else none
  |_=>none
 |_,_=>none
def Yf (st:St):(k:Nat)→(cs:List (Bool×CK))→List AC→Option (Ins.den cs×List (Nat×Loc))
 |_,[],[]=>some ((),[])
 |k,p::r,a::as=>match Gi st p.1 k p.2 a,Yf st (k+1) r as with
  |some (x,t1),some (y,t2)=>some ((x,y),t1++t2)
  |_,_=>none
 |_,_,_=>none
def Tf (st:St):(c:CK)→c.den→AC→Option St
 | .row e _,ys, .own l _ len=>match st.at l with
  |some (.arr fr tr e' te xs)=>if h:e=e'∧List.length ys=len∧xs.length=len then some (st.Ff l (.arr (fr&&e'.flat) (tr&&e'.flat) e' te (h.1▸ys))) else none
  |_=>none
 | .xrow e _,ys, .own l _ len=>match st.at l with
  |some (.xarr e' te xs)=>if h:e=e'∧List.length ys=len∧xs.length=len then some (st.Ff l (.xarr e' te (h.1▸ys))) else none
  |_=>none
 | .row e _,ys, .sub l i _=>match st.at l with
  |some (.xarr e' te xs)=>if h: .slice e=e' then (match xs[i]? with
   |some y=>if List.length ys=List.length (h▸y:(Ty.slice e).den) then some (st.Ff l (.xarr e' te (xs.set i (h▸(ys:(Ty.slice e).den))))) else none
   |none=>none) else none
  |_=>none
 | .xrow e _,ys, .sub l i _=>match st.at l with
  |some (.xarr e' te xs)=>if h: .slice e=e' then (match xs[i]? with
   |some y=>if List.length ys=List.length (h▸y:(Ty.slice e).den) then some (st.Ff l (.xarr e' te (xs.set i (h▸(ys:(Ty.slice e).den))))) else none
   |none=>none) else none
  |_=>none
 |_,_, .nilv=>some st
 |_,_,_=>none
def Ay7 (st:St) (e:Ty) (ys:List e.den):AC→Option St
 | .own l _ _=>match st.at l with
  |some (.arr fr tr e' te xs)=>if h:e=e'∧List.length ys=xs.length then some (st.Ff l (.arr fr tr e' te (h.1▸ys))) else none
  |_=>none
 |_=>none
def Dr:(cs:List (Bool×CK))→IOs.den cs→List AC→St→Option St
 | [],_,_,st=>some st
 |(true, .dat _)::r,x,_::as,st=>Dr r x as st
 |(true, .row e te)::r,x,a::as,st=>match Tf st (.row e te) x.1 a with
  |some st'=>Dr r x.2 as st'
  |none=>none
 |(true, .xrow e te)::r,x,a::as,st=>match Tf st (.xrow e te) x.1 a with
  |some st'=>Dr r x.2 as st'
  |none=>none
 |(true, .part e _)::r,x,a::as,st=>match Ay7 st e x.1 a with
  |some st'=>Dr r x.2 as st'
  |none=>none
 |(true, .grid _ _ _)::r,x,_::as,st=>Dr r x as st
 |(false,_)::r,x,_::as,st=>Dr r x as st
 |_,_,_,_=>none
def Av (dead part:List Nat) (c:AC):AC:=if c.refs.any (fun l=>dead.contains l) then .undef else match c with
 | .sub l i c=>if part.contains l then .undef else .sub l i c
 | .sptr l i c=>if part.contains l then .undef else .sptr l i c
 |c=>c
def Nz:List (Nat×OB)→List Nat→List (Nat×OB)
 | [],_=> []
 |(k,b)::r,dead=>if dead.contains k then Nz r dead else (k,b)::Nz r dead
def St.Tm (st:St) (dead part:List Nat):St:=let s:=st.Fo (Av dead part); {s with heap:=Nz s.heap dead}
def Lk (st:St) (l j m:Nat) (e:Ty) (te:TypeId) (rows:List (List e.den)) (xs:List e.den) (kp:Option (Nat×Nat)):St:=
 (st.Tm [m] [l]).Ff l (.grid e te (rows.set j xs) none kp)
def Sp (j:Nat):Option (Nat×Nat)→Option (Nat×Nat)
 |none=>none
 |some p=>some (p.1,min p.2 j)
def Si (st:St) (t:TypeId) (p v:AV):Option St:=
 match T.ty t,p with
 |some τ, .at (.sptr l i j)=>match settle st v with
  |some (v',st')=>match st'.at l,Cs st' τ v' with
   |some (.grid e te rows none kp),some (_,x)=>if h:τ=e then some (st'.Ff l (.grid e te (rows.set i ((rows.getD i []).set j (h▸x))) none kp)) else none
   |_,_=>none
  |none=>none
 |some τ, .at (.eptr l j)=>match st.at l,v with
  |some (.grid e te rows out kp), .at (.own m off len)=>match st.at m with
   |some (.arr _ _ e' _ xs)=>if h:e'=e∧(Nat.blt l Aj&&(!Nat.beq m l&&!τ.Ac))=true∧off=0∧len=xs.length∧(out=none∨out=some j) then some (Lk st l j m e te rows (h.1▸xs) (Sp j kp)) else none
   |_=>none
  |_,_=>none
 |_,_=>none
def Azs (st:St):AV→Bool
 | .at (.sptr _ _ _)=>true
 | .at (.eptr l _)=>match st.at l with
  |some (.grid _ _ _ _ _)=>true
  |_=>false
 |_=>false
def Iw (st:St) (t:TypeId) (p v:AV):Option St:=match Azs st p with
 |true=>Si T st t p v
 |false=>Mk T st t p v
def Jw (st:St) (k m:Nat) (b:OB):St:=let s:=st.Tm [m,k] []; {s with heap:=Hz s.heap k b}
def Vl (t:TypeId):Option (TypeId×Ty):=(T.elem t).bind fun te=>(T.Azr te).map fun e=>(te,e)
def Od (st:St) (dst:Nat) (t:TypeId) (l c:AV):Option (AV×St):=
 match Vl T t with
 |none=>Se T st dst t l c
 |some (te,e)=>match l,c with
  | .at (.data _ (.int _) n), .at (.data _ (.int _) m)=>if inb n (Ap+1)=true∧n=m∧dst<Aj then some (.at (.own dst 0 n.toNat),Jw st dst dst (.grid e te (List.replicate n.toNat []) none none)) else none
  |_,_=>none
def Ee (st:St) (dst:Nat) (t:TypeId) (len:Nat) (parts:Array (Nat×Operand)):Option (AV×St):=
 match Vl T t with
 |none=>Gp T st dst t len parts
 |some (te,e)=>match parts.toList with
  | [(0,x)]=>match st.ev x with
   | .at (.own m off ln)=>match st.at m with
    |some (.arr _ _ e' _ xs)=>if h:e'=e∧(Nat.beq len 1&&(Nat.blt dst Aj&&Nat.blt m Aj))=true∧off=0∧ln=xs.length then some (.at (.own dst 0 1),Jw st dst m (.grid e te [h.1▸xs] none none)) else none
    |_=>none
   |_=>none
  |_=>none
def Kb (st:St) (dst:Nat) (t:TypeId) (x y:Operand):Option (AV×St):=
 match Vl T t with
 |none=>Ka T st dst t x y
 |some (te,e)=>match st.ev x,st.ev y with
  | .at (.own l off len), .at (.own m off2 Akz)=>match st.at l,st.at m with
   |some (.grid e1 te1 A none _),some (.grid e2 te2 B none _)=>
    if h:(e1=e∧e2=e)∧(decide (te1=te)&&decide (te2=te)&&(Nat.blt l Aj&&(Nat.blt m Aj&&!Nat.beq m l)))=true∧(off=0∧len=A.length)∧(off2=0∧Akz=B.length)∧0<B.length∧A.length+B.length≤Ap then
     some (.at (.own l 0 (A.length+B.length)),Jw st l m (.grid e te ((h.1.1▸A:List (List e.den))++(h.1.2▸B:List (List e.den))) none none))
    else none
   |_,_=>none
  |_,_=>none
def Amz (fr:Bool):(c:CK)→c.den→Option OB
 | .dat _,_=>none
 | .row e te,xs=>some (.arr (fr&&e.flat) false e te xs)
 | .xrow e te,xs=>some (.xarr e te xs)
 | .part e te,x=>some (.arr (fr&&e.flat) false e te x.1)
 | .grid e te _,xs=>some (.grid e te xs none none)
def Au1 (H:List (Nat×OB)) (l:Nat):Option OB→List (Nat×OB)
 |some b=>Hz H l b
 |none=>H
def Ok (fr:Bool) (key:Nat→Nat):(k:Nat)→(cs:List CK)→CKs.den cs→List (Nat×OB)→List (Nat×OB)
 |_,[],_,H=>H
 |k,c::r,x,H=>Ok fr key (k+1) r x.2 (Au1 H (key k) (Amz fr c x.1))
def Sv (key:Nat→Nat):(k:Nat)→(cs:List CK)→CKs.den cs→List AC
 |_,[],_=> []
 |k,c::r,x=>(match c,x.1 with
  | .dat τ,y=> .data τ.flat τ y
  | .row _ _,xs=> .own (key k) 0 (List.length xs)
  | .xrow _ _,xs=> .own (key k) 0 (List.length xs)
  | .grid _ _ _,xs=> .own (key k) 0 (List.length xs)
  | .part _ _,_=> .undef)::Sv key (k+1) r x.2
def Qj:List (Option Nat)→List AC→List (Bool×List AC)
 |none::s,a::as=>(false,[a])::Qj s as
 |some n::s,as=>(true,as.take n)::Qj s (as.drop n)
 |_,_=> []
def Bil (multi:Bool) (sh:List (Option Nat)) (as:List AC):Option AV:=
 if multi then some (.tupc (Qj sh as)) else match Kz sh as with
  | [v]=>some v
  | []=>some .undef
  |_=>none
def Aeq (tks:List (Nat×Loc)):List Nat:=(tks.filter fun t=>Nat.blt t.1 Aj&&!t.2.reads).map fun t=>t.2.lab
def whole (tks:List (Nat×Loc)):List Nat:=tks.flatMap fun t=>match t.2 with| .row l=> [l]|_=> []
def Ash (tks:List (Nat×Loc)):List Nat:=(tks.filter fun t=>t.2.reads).map fun t=>t.2.lab
def Aub (ins:List (Bool×CK)) (te:TypeId) (used:List Nat):List (Nat×Loc)→Option Nat
 | []=>none
 |(k, .row l)::r=>if Nat.blt k Aj&&(!used.contains l&&(match ins[k-500000]? with
   |some (false, .row _ te')=>decide (te'=te)
   |some (false, .xrow _ te')=>decide (te'=te)
   |some (false, .grid _ te' _)=>decide (te'=te)
   |_=>false)) then some l else Aub ins te used r
 |_::r=>Aub ins te used r
def Axj (ins:List (Bool×CK)) (tks:List (Nat×Loc)) (d:Nat):(k:Nat)→(used:List Nat)→List CK→List Nat
 |_,_,[]=> []
 |k,used,c::r=>match (match c with
   | .row _ te=>Aub ins te used tks
   | .xrow _ te=>Aub ins te used tks
   | .grid _ te _=>Aub ins te used tks
   |_=>none) with
  |some l=>l::Axj ins tks d (k+1) (l::used) r
  |none=>Bdo d k::Axj ins tks d (k+1) used r
def Aem (s:Bl) (tks:List (Nat×Loc)) (d:Nat):List Nat:=Axj s.ins tks d 0 [] s.outs
def Bw (ks:List Nat) (j:Nat):Nat:=match ks[j]? with
 |some l=>l
 |none=>Aj+j
def Aqq (ks:List Nat) (n:Nat):Bool:=Nat.beq ks.length n&&(Qi ks&&ks.all fun l=>Nat.blt l Aj)
def Azo (st:St) (l:List Nat):Bool:=l.all fun k=>match st.at k with|some (.arr fr _ _ _ _)=>fr|_=>false
def Azy (st:St) (s:Bl) (args:List AV):Option (List Nat×List AC×List AV):=
 match s.ptr with
 |none=>some ([],[],args)
 |some p=>match args with
  | .at (.vptr l i)::rest=>match st.at l with
   |some (.var tid vs)=>if tid=p.1∧vs.length=p.2∧i=0 then some ([l],vs,rest) else none
   |_=>none
  |_=>none
def Mz:List (Bool×CK)→List AC→Bool
 |(true, .row _ _)::r, .own _ _ _::as=>Mz r as
 |(true, .xrow _ _)::r, .own _ _ _::as=>Mz r as
 |(true,_)::_,_::_=>false
 |(false,_)::r,_::as=>Mz r as
 |_,as=>as.isEmpty
def Yv {α:Type} :List (Bool×CK)→List α→List α→List α
 |(true,_)::r,v::vs,as=>v::Yv r vs as
 |(false,_)::r,_::vs,a::as=>a::Yv r vs as
 |_,vs,_=>vs
def Alm:List (Bool×CK)→Nat→Nat
 |(true,_)::r,n+1=>Alm r n
 |(false,_)::r,n+1=>Alm r n+1
 |_,_=>0
def Bl.Qp (s:Bl):Nat:=match s.ptr with|none=>0|some p=>Alm s.ins p.2
def Aj1 (ins:List (Bool×CK)) (as:List AC) (pl:List Nat) (st:St):St:=
 match pl with
 | []=>st
 |l::_=>match st.at l with
  |some (.var tid vs)=>st.Ff l (.var tid (Yv ins vs as))
  |_=>st
def Li (d:Nat):Nat:=Bdo d 999
def Ae7 (s:Bl) (d:Nat):List Nat:=match s.rp with|none=> []|some _=> [Li d]
def Km (s:Bl) (tks:List (Nat×Loc)) (d:Nat):List Nat:=Aem s tks d++Ae7 s d
def Af7 (H:List (Nat×OB)) (l:Nat):Bool:=match Ad H l with
 |some (.grid _ _ _ _ _)=>true
 |_=>false
def So (H:List (Nat×OB)) (ks:List Nat) (tks:List (Nat×Loc)):List (Nat×Nat)→List Nat
 | []=> []
 |(k,j)::r=>match tks.find? (fun t=>Nat.beq t.1 (Bu false k)),ks[j]? with
  |some (_, .row l),some l'=>if Nat.beq l' l&&Af7 H l then l::So H ks tks r else So H ks tks r
  |_,_=>So H ks tks r
def Aji (H:List (Nat×OB)) (l:Nat):Nat:=match Ad H l with
 |some (.grid _ _ rows _ _)=>rows.length
 |_=>0
def Ux (H:List (Nat×OB)) (ls:List Nat) (n:Nat):List AV→Bool
 | []=>true
 | .at (.sub l i _)::r=>(!ls.contains l||(Nat.blt i n&&Nat.blt i (Aji H l)))&&Ux H ls n r
 |_::r=>Ux H ls n r
def Gd (ls:List Nat):List AV→List AV→List AV
 | .at (.sub l i c)::r,v::vs=>(if ls.contains l then .at (.sub l i c) else v)::Gd ls r vs
 |_::r,v::vs=>v::Gd ls r vs
 |_,vs=>vs
def Bh3:Option OB→Option (Nat×Nat)
 |some (.grid _ _ _ _ kp)=>kp
 |_=>none
def OB.Avi (b:OB) (kp:Option (Nat×Nat)):OB:=match b with
 | .grid e te rows out _=> .grid e te rows out kp
 |b=>b
def Um (H0:List (Nat×OB)) (ls:List Nat) (n:Nat):List (Nat×OB)→List (Nat×OB)
 | []=> []
 |(l,b)::r=>(l,if ls.contains l then b.Avi (Sp n (Bh3 (Ad H0 l))) else b)::Um H0 ls n r
def Adx (st0 st:St) (ls:List Nat) (n:Nat):St:=match ls with
 | []=>st
 |_=> {tmps:=Gd ls st0.tmps st.tmps,heap:=Um st0.heap ls n st.heap}
def Bfz (s:Bl) (d:Nat) (as:List AC):Option AV:=match s.rp with
 |none=>Bil s.multi s.rshapes as
 |some _=>some (.at (.vptr (Li d) 0))
def Adg (st st1:St) (d:Nat) (s:Bl) (pl:List Nat) (tks:List (Nat×Loc)) (r:CKs.den s.outs):St:=
 let ks:=Km s tks d
 let key:=Bw ks
 let st2:=Aj1 s.ins (Sv key 0 s.outs r) pl (st1.Tm (Aeq tks++ks++(if s.flat then [] else Ash tks)) (whole tks))
 {st2 with heap:=Ok (Azo st (Aeq tks)) key 0 s.outs r (Au1 st2.heap (Li d) (s.rp.map fun tid=> .var tid ((Sv key 0 s.outs r).drop s.Qp)))}
def Oc (st:St) (dst:Option Nat) (s:Bl) (args:List AV):Option (AV×St):=
 match Azy st s args with
 |none=>none
 |some (pl,vs,rest)=>match ungroup s.shapes rest with
 |none=>none
 |some as0=>match Yf st 0 s.ins (vs++as0) with
  |none=>none
  |some (x,tks)=>if Qi (tks.map fun t=>t.2.lab)&&Aqq (Km s tks (dst.getD 0)) (s.outs.length+(Ae7 s (dst.getD 0)).length)&&Nat.blt s.outs.length 1000&&Nat.blt s.ins.length 1000&&(Mz s.ins vs&&pl.all fun l=>!((tks.map fun t=>t.2.lab)++Km s tks (dst.getD 0)).contains l) then match s.fn x with
   |none=>none
   |some (r,o)=>match Dr s.ins o (vs++as0) st with
    |none=>none
    |some st1=>match Bfz s (dst.getD 0) ((Sv (Bw (Km s tks (dst.getD 0))) 0 s.outs r).drop s.Qp) with
     |none=>none
     |some v=>if Ux (Adg st st1 (dst.getD 0) s pl tks r).heap (So st.heap (Km s tks (dst.getD 0)) tks s.keeps) (s.Cr x) st.tmps=true then
       some (v,Adx st (Adg st st1 (dst.getD 0) s pl tks r) (So st.heap (Km s tks (dst.getD 0)) tks s.keeps) (s.Cr x)) else none
   else none
def Ik:List Operand→St→Option St
 | [],st=>some st
 |x::r,st=>match settle st (st.ev x) with
  |some (_,st')=>Ik r st'
  |none=>none
def Xh (s:Spec) (args:List AV):Bool:=!(s.fresh||s.res.flat||args.all (·.settled))
def evalOp (Γ:Env) (st:St) (o:Oper):Option (AV×St):=
 match o.op with
 | .assign x=>match st.ev x,o.dst,(T.elem o.type).bind fun te=>(T.ty te).map fun e=>(te,e) with
  | .at .nilv,some d,some (te,e)=>if d<Aj then some (.at (.own d 0 0),st.new d (.arr (T.fr0||e.flat) T.tr0 e te [])) else none
  |v,_,_=>some (v,st)
 | .alloc t=>match o.dst,T.ty t with
  |some d,some τ=>mkVar T st d t τ (zeroCells τ)
  |_,_=>none
 | .box t x=>match o.dst,T.ty t with
  |some d,some τ=>match cellsOf τ (st.ev x) with
   |some cs=>mkVar T st d t τ cs
   |none=>none
  |_,_=>none
 | .store t p x=>(Iw T st t (st.ev p) (st.ev x)).map fun s=>(.undef,s)
 | .makeSlice t l c=>match o.dst with
  |some d=>Od T st d t (st.ev l) (st.ev c)
  |none=>none
 | .makeMap t none=>match o.dst with
  |some d=>Mj T st d t
  |none=>none
 | .mapUpdate t m k x=>(Eh T st t (st.ev m) (st.ev k) (st.ev x)).map fun s=>(.undef,s)
 | .insert t m k x=>(Eh T st t (st.ev m) (st.ev k) (st.ev x)).map fun s=>(.undef,s)
 | .buildSlice t len parts=>match o.dst with
  |some d=>Ee T st d t len parts
  |none=>none
 | .build t parts=>(Ob T st t parts).map fun v=>(v,st)
 | .call {callee:= .builtin .append,args,argTypes} =>match o.dst,args.toList,argTypes.toList with
  |some d,[x,y],[t,t']=>if t=t' then Kb T st d t x y else none
  |_,_,_=>none
 | .call {callee:= .builtin .copy,args,argTypes} =>match args.toList,argTypes.toList with
  | [x,y],[t,t']=>Aa0 T st t t' (st.ev x) (st.ev y)
  |_,_=>none
 | .call {callee:= .builtin .clear,args,argTypes} =>match args.toList,argTypes.toList with
  | [x],[t]=>(evalClear T st t (st.ev x)).map fun s=>(.undef,s)
  |_,_=>none
 | .call {callee:= .value (.func f),args, .. } =>match Γ f with
  |some (.m s)=>Oc st o.dst s (args.toList.map st.ev)
  |some (.q s)=>if Xh s (args.toList.map st.ev) then (match Ik args.toList st with
   |some st1=>(Ch T Γ st1 o).map fun v=>(v,st1)
   |none=>none) else (Ch T Γ st o).map fun v=>(v,st)
  |_=>(Ch T Γ st o).map fun v=>(v,st)
 |_=>(Ch T Γ st o).map fun v=>(v,st)
def Xk (e:Ty):Nat→List (Nat×Operand)→St→Option (Bool×List e.den)
 |_,[],_=>some (true,[])
 |i,(j,x)::r,st=>
  if i=j∧(st.ev x).settled=true then match Cs st e (st.ev x),Xk e (i+1) r st with
   |some (fr,y),some (fr',ys)=>some (fr&&fr',y::ys)
   |_,_=>none
  else none
def Sd (st:St) (t:TypeId) (len:Nat) (parts:Array (Nat×Operand)):Option AV:=
 match T.elem t with
 |none=>none
 |some te=>match T.ty te with
  |none=>none
  |some e=>if parts.size=len∧len≤64∧e.size≤64 then (Xk e 0 parts.toList st).map fun p=> .at (.data p.1 (.slice e) p.2) else none
def Pn (Γ:Env) (st:St) (o:Oper):Option AV:=
 match o.op with
 | .buildSlice t len parts=>Sd T st t len parts
 | .build t parts=>Ob T st t parts
 |_=>Ch T Γ st o
def Bdh (q:Bool) (Γ:Env) (o:Oper):Bool:=
 match o.op with
 | .buildSlice _ _ _| .build _ _=>!q
 | .alloc _| .box _ _| .store _ _ _| .makeSlice _ _ _| .makeMap _ _| .mapUpdate _ _ _ _| .insert _ _ _ _=>true
 | .assign (.const _)=>true
 | .call {callee:= .builtin .append, .. } =>true
 | .call {callee:= .builtin .copy, .. } =>true
 | .call {callee:= .builtin .clear, .. } =>true
 | .call {callee:= .value (.func f), .. } =>match Γ f with
  |some (.m _)=>true
  |_=>false
 |_=>false
def Ci (Γ:Env) (ops:Array Oper) (st:St) (o:Oper):Option St:=
 match o.guard with
 |none=>(evalOp T Γ st o).map fun r=>r.2.put o.dst r.1
 |some (j,want)=>match Nx st ((ops[j]?).bind (·.dst)) with
  |some (some b)=>if b==want then (evalOp T Γ st o).map fun r=>r.2.put o.dst r.1 else some (st.put o.dst (.at .skip))
  |some none=>some (st.put o.dst (.at .skip))
  |none=>none
def Qw (Γ:Env) (ops:Array Oper):List Oper→St→Option St
 | [],st=>some st
 |o::r,st=>match Ci T Γ ops st o with
  |some st'=>Qw Γ ops r st'
  |none=>none
def Er (q:Bool) (Γ:Env) (ops:Array Oper):List Nat:=
 (List.range ops.size).foldl (init:= []) fun acc i=>match ops[i]? with
  |some o=>if Bdh q Γ o||o.after.any (fun e=>Region.binds .any e&&acc.contains e.on) then acc++ [i] else acc
  |none=>acc
def To (q:Bool) (Γ:Env) (ops:Array Oper):List Nat:=(List.range ops.size).filter fun i=>!(Er q Γ ops).contains i
def Af6 (ops:Array Oper) (hd tl:List Nat) (i:Nat):Bool:=
 match ops[i]? with
 |some o=>(match o.op,o.guard with
  | .move (.tmp _),none=>true
  |_,_=>false)&&!((tl.take 1++hd).any fun j=>decide (i<j)&&Region.waitsFor .any ops j i)
 |none=>false
def Mw (q:Bool) (Γ:Env) (ops:Array Oper):List Nat:=(To q Γ ops).filter fun i=>Af6 ops (To q Γ ops) (Er q Γ ops) i
def My (q:Bool) (Γ:Env) (ops:Array Oper):List Nat:=(To q Γ ops).filter fun i=>!Af6 ops (To q Γ ops) (Er q Γ ops) i
def Abq (q:Bool) (Γ:Env) (ops:Array Oper):List Nat:=Mw q Γ ops++My q Γ ops
def Afv (ops:Array Oper):List Nat→Array Bool→Bool
 | [],listed=>(Region.ready .any ops listed).isEmpty
 |k::r,listed=>decide (Region.ready .any ops listed= [k])&&Afv ops r (listed.setIfInBounds k true)
def Agp (ops:Array Oper) (tl:List Nat):List Nat→Array Bool→Bool
 | [],listed=>Afv ops tl listed
 |k::r,listed=>(Region.ready .any ops listed).contains k&&Region.free .any ops listed k&&Agp ops tl r (listed.setIfInBounds k true)
def Ae9 (ops:Array Oper) (hd:List Nat):List Nat→Bool
 | []=>true
 |f::r=>(hd.all fun i=>(f::hd).any fun j=>decide (i<j)&&Region.waitsFor .any ops j i)&&chain f r
where chain:Nat→List Nat→Bool
 |_,[]=>true
 |k,t::r=>Region.waitsFor .any ops t k&&chain t r
def Af1 (ops:Array Oper) (tl hd:List Nat):List Nat→Array Bool→Bool
 | [],listed=>Agp ops tl hd listed
 |k::r,listed=>(Region.ready .any ops listed).contains k&&Region.free .any ops listed k&&Af1 ops tl hd r (listed.setIfInBounds k true)
def Abw (q:Bool) (Γ:Env) (ops:Array Oper):Bool:=
 Region.noSelect ops&&((Mw q Γ ops).length+((My q Γ ops).length+(Er q Γ ops).length)==ops.size)&&Af1 ops (Er q Γ ops) (My q Γ ops) (Mw q Γ ops) (Array.replicate ops.size false)&&Ae9 ops (My q Γ ops) (Er q Γ ops)
def Zf (Γ:Env) (ops:Array Oper) (st:St) (o:Oper):Option AV:=
 match o.guard with
 |none=>Pn T Γ st o
 |some (j,want)=>match Nx st ((ops[j]?).bind (·.dst)) with
  |some (some b)=>if b==want then Pn T Γ st o else some (.at .skip)
  |some none=>some (.at .skip)
  |none=>none
def Dp (Γ:Env) (ops:Array Oper):List Nat→St→Option St
 | [],st=>some st
 |i::r,st=>match ops[i]? with
  |none=>none
  |some o=>match Zf T Γ ops st o with
   |some v=>Dp Γ ops r (st.put o.dst v)
   |none=>none
def Ia (Γ:Env) (ops:Array Oper):List Nat→St→Option St
 | [],st=>some st
 |i::r,st=>match ops[i]? with
  |none=>none
  |some o=>match Ci T Γ ops st o with
   |some st'=>Ia Γ ops r st'
   |none=>none
def Kc (Γ:Env) (ops:Array Oper) (draw:Bool) (st:St):Option St:=
 if draw then (if Abw false Γ ops then (match Dp T Γ ops (Abq false Γ ops) st with
  |some st'=>Ia T Γ ops (Er false Γ ops) st'
  |none=>none) else if Abw true Γ ops then (match Dp T Γ ops (Abq true Γ ops) st with
  |some st'=>Ia T Γ ops (Er true Γ ops) st'
  |none=>none) else none)
 else Qw T Γ ops ops.toList st
def Aql (ops:Array Oper) (i:Nat):Bool:=match ops[i]? with
 |some o=>(match o.op,o.guard with
  | .move (.tmp _),none=>true
  |_,_=>false)
 |none=>false
def Abu (ops:Array Oper) (i:Nat):Bool:=match ops[i]? with
 |some o=>(match o.op,o.guard with
  | .move (.tmp _),none=>true
  | .nilCheck _,none=>true
  | .fieldAddr _ _ _,none=>true
  |_,_=>false)
 |none=>false
def Bim (q:Bool) (ops:Array Oper) (i:Nat):Bool:=match q with
 |true=>Abu ops i
 |false=>Aql ops i
def Eo (q:Bool) (ops:Array Oper):List Nat→Array Bool→List Nat
 | [],_=> []
 |i::r,listed=>if Bim q ops i&&((Region.ready .any ops listed).contains i&&Region.free .any ops listed i) then i::Eo q ops r (listed.setIfInBounds i true) else Eo q ops r listed
def Bdn (q:Bool) (ops:Array Oper):List Nat:=Eo q ops (List.range ops.size) (Array.replicate ops.size false)
def Abm (q:Bool) (ops:Array Oper):Bool:=Nat.ble (ops.size-(Bdn q ops).length) 8
def Iz (ops:Array Oper):List Nat:=Bdn (!Abm false ops) ops
def Dt:List Nat→Array Bool→Array Bool
 | [],listed=>listed
 |i::r,listed=>Dt r (listed.setIfInBounds i true)
def anyS (Γ:Env) (ops:Array Oper) (K:St→Prop):Nat→Array Bool→St→Prop
 |0,listed,st=>Region.ready .any ops listed= []∧K st
 |f+1,listed,st=>Region.ready .any ops listed≠ []∧ ∀i∈Region.ready .any ops listed,∃o st',ops[i]?=some o∧Ci T Γ ops st o=some st'∧anyS Γ ops K f (listed.setIfInBounds i true) st'
def Apv (Γ:Env) (ops:Array Oper) (draw:Bool) (st:St) (K:St→Prop):Prop:=
 (∃st',Kc T Γ ops draw st=some st'∧K st')∨
 (draw=true∧Region.noSelect ops=true∧ ∃st0,Dp T Γ ops (Iz ops) st=some st0∧anyS T Γ ops K (ops.size-(Iz ops).length) (Dt (Iz ops) (Array.replicate ops.size false)) st0)
def Arj (Γ:Env) (draw:Bool):Env:=fun f=>match Γ f with
 |some (.b s m)=>some (if draw then .q s else .m m)
 |r=>r
inductive Gc where
 |normal
 |exit (id:Nat)
 |ret
def Fb (live:List Nat):Nat→List AV→List AV
 |_,[]=> []
 |i,v::r=>(if live.contains i then v else .undef)::Fb live (i+1) r
def AV.refs:AV→List Nat
 | .at a=>a.refs
 | .agg cs=>cs.flatMap AC.refs
 | .tup _ _ _=> []
 | .tupc l=>l.flatMap fun p=>p.2.flatMap AC.refs
def OB.refs:OB→List Nat
 | .var _ vs=>vs.flatMap AC.refs
 |_=> []
def Vj:List Nat→St→St
 | [],st=>st
 |l::r,st=>Vj r (st.forget l)
def Ah7 (l k m:Nat):Nat:=if m=l then k else m
def Mp (l k:Nat):AC→AC
 | .own m off len=> .own (Ah7 l k m) off len
 | .vptr m i=> .vptr (Ah7 l k m) i
 | .eptr m i=> .eptr (Ah7 l k m) i
 | .clo f caps=> .clo f (caps.map fun p=>(Ah7 l k p.1,p.2))
 | .mapr m=> .mapr (Ah7 l k m)
 | .sub m i c=> .sub (Ah7 l k m) i c
 | .sptr m i c=> .sptr (Ah7 l k m) i c
 |a=>a
def St.rename (l k:Nat) (st:St):St:=
 match Ad st.heap k,Ad st.heap l with
 |none,some b=>if (Nat.blt l Aj&&Nat.blt k Aj)=true then
   (let s:=st.Fo (Mp l k); {s with heap:=Hz (Qn s.heap l) k (b.map (Mp l k))}) else st
 |_,_=>st
def Gs:Nat→Nat→St→St
 |0,_,st=>st
 |n+1,t,st=>Gs n (t+1) (match st.get t with
  | .at (.own l _ _)=>match Ad st.heap l with
   |some (.arr _ _ _ _ _)=>if (st.tmps.take t).any (fun v=>v.refs.contains l) then st else st.rename l (700000+t)
   |_=>st
  |_=>st)
def Tv:Nat:=1000000007
def OB.Ei (flat all:Bool):OB→OB
 | .arr fr tr e tid xs=> .arr (fr&&!(all||(flat&&e.flat))) (tr&&!all) e tid xs
 |b=>b
def Qd:Nat:=1000000009
def Awd:Nat:=1100000000
def St.Ei (live:List Nat) (st:St):St:= {st with heap:=st.heap.map fun p=>(p.1,p.2.Ei (live.contains Qd) (live.contains (Awd+p.1)))}
def Kh:Nat:=900000000
def Sw (t:Nat) (st:St):St:=match st.get t with
 | .at (.own l off len)=>match Ad st.heap l with
  |some (.arr fr tr e tid xs)=>if Nat.blt l Aj=true then (st.new l (.arr fr tr e tid ((xs.drop off).take len))).put (some t) (.at (.own l 0 ((xs.drop off).take len).length)) else st
  |_=>st
 |_=>st
def Ij (live:List Nat):Nat→Nat→St→St
 |0,_,st=>st
 |n+1,t,st=>Ij live n (t+1) (if live.contains (Kh+t) then Sw t st else st)
def St.clean (live:List Nat) (st:St):St:=
 let s:St:= {st with tmps:=Fb live 0 st.tmps}
 let r1:=s.tmps.flatMap AV.refs
 let r2:=r1++(s.heap.filter fun p=>r1.contains p.1).flatMap fun p=>p.2.refs
 let s2:=Vj ((s.heap.map (·.1)).filter fun l=>!r2.contains l&&Nat.blt l Aj) s
 let s2:=if live.any (fun t=>Nat.ble Kh t&&Nat.blt t Tv) then Ij live s2.tmps.length 0 s2 else s2
 let s3:=if live.contains Tv then Gs s2.tmps.length 0 s2 else s2
 if live.any (fun t=>Nat.ble Qd t) then s3.Ei live else s3
def Ce:Code→Nat
 | .region id _ _=>id
 | .seq a _=>Ce a
 | .cond _ a _=>Ce a
 | .block _ c=>Ce c
 | .loop c=>1000+Ce c
 |_=>0
def Bgv (a b:List Nat):List Nat:=a++b.filter fun t=>!a.contains t
def Aqu:List Oper→List Nat→List Nat
 | [],out=>out
 |o::r,out=>Bgv (o.op.operands.toList.filterMap fun| .tmp t=>some t|_=>none) (match o.dst with|some d=>(Aqu r out).filter (·!=d)|none=>Aqu r out)
def Ax4:List (Nat×List Nat)→Nat→List Nat
 | [],_=> []
 |(k,l)::r,id=>if k=id then l else Ax4 r id
def Ai9:Code→List (Nat×List Nat)→List Nat→List Nat→List Nat×List (Nat×List Nat)
 | .region _ ops _,_,_,out=>(Aqu ops.toList out,[])
 | .seq a b,env,ret,out=>let rb:=Ai9 b env ret out;let ra:=Ai9 a env ret rb.1;(ra.1,ra.2++rb.2)
 | .cond c a b,env,ret,out=>let ra:=Ai9 a env ret out;let rb:=Ai9 b env ret out
  (Bgv (match c with| .tmp t=> [t]|_=> []) (Bgv ra.1 rb.1),ra.2++rb.2)
 | .block id c,env,ret,out=>Ai9 c ((id,out)::env) ret out
 | .exit id,env,_,_=>(Ax4 env id,[])
 | .ret,_,ret,_=>(ret,[])
 | .loop c,env,ret,_=>let l:=(Ai9 c env ret []).1;let r:=Ai9 c env ret l;(l,(Ce c,l)::r.2)
 |_,_,_,out=>(out,[])
def Aqv:List ResultVar→List Nat
 | []=> []
 | .tmp t::r=>t::Aqv r
 | .cell p _::r=>p::Aqv r
def Aqt (marks:List Nat) (fn:Func) (c:Code):Nat→List Nat:=let ret:=Aqv fn.results.toList;let g:=Ax4 (Ai9 c [] ret ret).2;match marks with
 | []=>g
 |m=>fun id=>g id++m
def Axv (K:St→Prop) (Q:Gc→St→Prop):Gc→St→Prop
 | .normal,s=>K s
 |e,s=>Q e s
def Aoj (id:Nat) (Q:Gc→St→Prop):Gc→St→Prop
 | .exit id',s=>if id'=id then Q .normal s else Q (.exit id') s
 |e,s=>Q e s
inductive Hx (Γ:Env) (live:Nat→List Nat):Code→St→(Gc→St→Prop)→Prop where
 |skip {st:St} {Q:Gc→St→Prop} :Q .normal st→Hx Γ live .skip st Q
 |label {l:Nat} {st:St} {Q:Gc→St→Prop} :Q .normal st→Hx Γ live (.label l) st Q
 |exit {id:Nat} {st:St} {Q:Gc→St→Prop} :Q (.exit id) st→Hx Γ live (.exit id) st Q
 |ret {st:St} {Q:Gc→St→Prop} :Q .ret st→Hx Γ live .ret st Q
 |region {id:Nat} {ops:Array Oper} {draw:Bool} {st:St} {Q:Gc→St→Prop} :Apv T (Arj Γ draw) ops draw st (Q .normal)→Hx Γ live (.region id ops draw) st Q
 |seq {x y:Code} {st:St} {Q:Gc→St→Prop} (Q1:Gc→St→Prop):Hx Γ live x st Q1→(∀s,Q1 .normal s→Hx Γ live y s Q)→(∀e s,e≠ .normal→Q1 e s→Q e s)→Hx Γ live (.seq x y) st Q
 |cond {c:Operand} {x y:Code} {st:St} {fr t:Bool} {Q:Gc→St→Prop} :st.ev c= .at (.data fr .bool t)→(t=true→Hx Γ live x st Q)→(t=false→Hx Γ live y st Q)→Hx Γ live (.cond c x y) st Q
 |block {id:Nat} {c:Code} {st:St} {Q:Gc→St→Prop} (Q1:Gc→St→Prop):Hx Γ live c st Q1→(∀e s,Q1 e s→Aoj id Q e s)→Hx Γ live (.block id c) st Q
 |loop {c:Code} {st:St} {Q:Gc→St→Prop} (Q1:Gc→St→Prop):Hx Γ live c (st.clean (live (Ce c))) Q1→(∀s,Q1 .normal s→Hx Γ live (.loop c) s Q)→(∀e s,e≠ .normal→Q1 e s→Q e s)→Hx Γ live (.loop c) st Q
def Ur (st:St):List ResultVar→Option (List AV)
 | []=>some []
 | .tmp t::r=>(Ur st r).map fun l=>st.get t::l
 | .cell p t::r=>match Jg T st t (st.get p),Ur st r with
  |some v,some l=>some (v::l)
  |_,_=>none
def Aey (s:Spec) (fn:Func) (st:St):Option (Bool×s.res.den):=
 match Ur T st fn.results.toList with
 |some [v]=>if s.multi then none else Cs st s.res v
 |some [v,u]=>if s.multi then Bt st s.res [v,u] else none
 |some [v,u,t]=>if s.multi then Bt st s.res [v,u,t] else none
 |_=>none
def Kv:(τ:Ty)→τ.den→List AV
 | .pair a r,x=> .at (.data a.flat a x.1)::Kv r x.2
 |_,_=> []
def Ac7 (st:St):(c:CK)→AC→Option (c.den×List Nat)
 | .dat τ,a=>if τ.flat||a.settled then (Bo st τ a).map fun p=>(p.2,[]) else none
 | .row e te, .own l off len=>match st.at l with
  |some (.arr _ _ e' te' xs)=>if h:e'=e∧te'=te then some ((((h.1▸xs:List e.den).drop off).take len),[l]) else none
  |_=>none
 | .row _ _, .nilv=>some ([],[])
 | .xrow e te, .own l off len=>match st.at l with
  |some (.arr _ tr e' te' xs)=>if h:e'=e∧te'=te∧(tr||e.flat)=true then some ((((h.1▸xs:List e.den).drop off).take len),[l]) else none
  |some (.xarr e' te' xs)=>if h:e'=e∧te'=te then some ((((h.1▸xs:List e.den).drop off).take len),[l]) else none
  |_=>none
 | .xrow _ _, .nilv=>some ([],[])
 | .grid e te _, .own l off len=>match st.at l with
  |some (.grid e' te' rows none _)=>if h:e'=e∧te'=te∧off=0∧len=rows.length then some ((h.1▸rows:List (List e.den)),[l]) else none
  |_=>none
 |_,_=>none
def Mo (st:St):(cs:List CK)→List AC→Option (CKs.den cs×List Nat)
 | [],[]=>some ((),[])
 |c::r,a::as=>match Ac7 st c a,Mo st r as with
  |some (x,t1),some (y,t2)=>some ((x,y),t1++t2)
  |_,_=>none
 |_,_=>none
def Ahv (st:St) (l:Nat):(c:CK)→Option c.den
 | .dat _=>none
 | .row e te=>match st.at l with
  |some (.arr _ _ e' te' xs)=>if h:e'=e∧te'=te then some (h.1▸xs) else none
  |_=>none
 | .xrow e te=>match st.at l with
  |some (.xarr e' te' xs)=>if h:e'=e∧te'=te then some (h.1▸xs) else none
  |_=>none
 | .part _ _=>none
 | .grid _ _ _=>none
def Ie (st:St):(k:Nat)→(cs:List (Bool×CK))→Option (IOs.den cs)
 |_,[]=>some ()
 |k,(true, .dat _)::r=>Ie st (k+1) r
 |k,(true, .grid _ _ _)::r=>Ie st (k+1) r
 |k,(true, .row e te)::r=>match Ahv st (Bu true k) (.row e te),Ie st (k+1) r with
  |some x,some y=>some (x,y)
  |_,_=>none
 |k,(true, .xrow e te)::r=>match Ahv st (Bu true k) (.xrow e te),Ie st (k+1) r with
  |some x,some y=>some (x,y)
  |_,_=>none
 |k,(true, .part e te)::r=>match Ahv st (Bu true k) (.row e te),Ie st (k+1) r with
  |some x,some y=>some (x,y)
  |_,_=>none
 |k,(false,_)::r=>Ie st (k+1) r
def Iy:(k:Nat)→List (Bool×CK)→List Nat
 |_,[]=> []
 |k,(true, .dat _)::r=>Iy (k+1) r
 |k,(true, .grid _ _ _)::r=>Iy (k+1) r
 |k,(true,_)::r=>Bu true k::Iy (k+1) r
 |k,(false,_)::r=>Iy (k+1) r
def Kk:Nat:=1900000000
def El:(k:Nat)→List (Bool×CK)→List AC→Option (List AC)
 |_,_,[]=>some []
 |k,(true, .row _ _)::r, .own l _ _::as=>if Nat.beq l (Bu true k) then El (k+1) r as else none
 |k,(true, .xrow _ _)::r, .own l _ _::as=>if Nat.beq l (Bu true k) then El (k+1) r as else none
 |k,(false,_)::r,a::as=>(El (k+1) r as).map fun l=>a::l
 |_,_,_=>none
def Aab (st:St):List AC→List (Bool×CK)→Prop
 | .own l off len::as,(true,_)::r=>(off=0∧match st.at l with
  |some (.arr _ _ _ _ xs)=>len=xs.length
  |some (.xarr _ _ xs)=>len=xs.length
  |_=>False)∧Aab st as r
 |_::as,(false,_)::r=>Aab st as r
 |_,_=>True
def Ayd (s:Bl) (st:St) (l:List AV):Option (List AC×List Nat):=match s.rp with
 |none=>if s.multi=Nat.blt 1 l.length then (ungroup s.rshapes l).map fun as=>(as,[]) else none
 |some tid=>match l with
  | [.at (.vptr m i)]=>match st.at m with
   |some (.var tid' vs)=>if tid'=tid∧i=0∧Nat.blt m Aj=true then some (vs,[m]) else none
   |_=>none
  |_=>none
def Aon (st:St) (n:Nat) (as:List AC):List (Nat×Nat)→Prop
 | []=>True
 |(k,j)::r=>(match as[j]? with
  |some (.own l _ _)=>match st.at l with
   |some (.grid _ _ _ _ (some p))=>p.1=Bu false k∧n≤p.2∧Nat.blt k 1000=true
   |_=>False
  |_=>False)∧Aon st n as r
def Aby (s:Bl) (fn:Func) (x:Ins.den s.ins) (st:St) (cs:List AC) (P:CKs.den s.outs×IOs.den s.ins→Prop):Prop:=
 match Ur T st fn.results.toList with
 |none=>False
 |some l=>match Ayd s st l with
  |none=>False
  |some (as,ml)=>match Mo st s.outs (cs++as),Ie st 0 s.ins with
   |some (r,ls),some o=>(Qi (ml++ls++Iy 0 s.ins)&&Nat.blt s.ins.length 1000&&Nat.blt s.outs.length 1000&&s.Bdm)=true∧Aon st (s.Cr x) (cs++as) s.keeps∧P (r,o)
   |_,_=>False
def Bcn (s:Bl) (fn:Func) (x:Ins.den s.ins) (st:St) (P:CKs.den s.outs×IOs.den s.ins→Prop):Prop:=
 match s.ptr with
 |none=>Aby T s fn x st [] P
 |some p=> ∃vs cs,st.at Kk=some (.var p.1 vs)∧vs.length=p.2∧El 0 s.ins vs=some cs∧Aab st vs s.ins∧Aby T s fn x st cs P
def Qo (s:Bl) (as:List AC):List AV:=match s.ptr with
 |none=>Kz s.shapes as
 |some p=> .at (.vptr Kk 0)::Kz s.shapes (as.drop p.2)
def Ai4 (s:Bl) (x:Ins.den s.ins):List (Nat×OB):=match s.ptr with
 |none=>Ps 0 s.ins x
 |some p=>Ps 0 s.ins x++ [(Kk, .var p.1 ((Sl 0 s.ins x).take p.2))]
def Px:List (Bool×CK)→Bool
 | []=>true
 |(true, .grid _ _ _)::_=>false
 |_::r=>Px r
def Are (s:Bl):Bool:=Px s.ins&&match s.ptr with
 |none=>true
 |some p=>Nat.ble p.2 s.ins.length
def Bgk (Γ:Env) (s:Bl) (fn:Func) (x:Ins.den s.ins) (P:CKs.den s.outs×IOs.den s.ins→Prop):Prop:=
 (Nat.blt s.ins.length 1000&&Are s)=true∧ ∃c,fn.body=some c∧Hx T Γ (Aqt T.marks fn c) c {tmps:=Qo s (Sl 0 s.ins x)++List.replicate (fn.ntmps-(Qo s (Sl 0 s.ins x)).length) .undef,heap:=Ai4 s x}
  (fun e st=>(∀id,e≠ .exit id)∧Bcn T s fn x st P)
def Bco (Γ:Env) (s:Spec) (fn:Func) (x:s.arg.den) (P:s.res.den→Prop):Prop:=
 ∃c,fn.body=some c∧Hx T Γ (Aqt T.marks fn c) c {tmps:=Kv s.arg x++List.replicate (fn.ntmps-(Kv s.arg x).length) .undef,heap:= []}
  (fun e st=>(∀id,e≠ .exit id)∧ ∃fr y,Aey T s fn st=some (fr,y)∧(fr||!s.fresh)=true∧P y)
end Go.Proofs.Ytebabhocakedaaa
