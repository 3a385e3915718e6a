/-
  Part 3 of the proof that the statement FnExactIsMethodSolution holds.
-/
import Derived.Test.YtebabhocakedaaaCIsMethodSolution01
namespace Go.Proofs.Ytebabhocakedaaa
open Go.RowKit
def Da:Nat→St→List AC→Option (List AC×St)
 |0,st,cs=>if cs.all (·.settled) then some (cs,st) else none
 |n+1,st,cs=>
  match cs.find? (fun c=>!c.settled) with
  |none=>some (cs,st)
  |some (.own l _ _)=>match st.at l with
   |some (.arr fr _ e _ xs)=>Da n (st.freeze l fr e xs) (cs.map (Ax l fr e xs))
   |some (.xarr e _ xs)=>Da n (st.freeze l false e xs) (cs.map (Ax l false e xs))
   |_=>none
  |some (.mapr l)=>match st.at l with
   |some (.smp v m)=>Da n (st.Dt l v m) (cs.map (Cs l v m))
   |_=>none
  |some _=>none
def settle (st:St):AV→Option (AV×St)
 | .at (.own l off len)=>match st.at l with
  |some (.arr fr _ e _ xs)=>some (.at (.data fr (.slice e) ((xs.drop off).take len)),st.freeze l fr e xs)
  |some (.xarr e _ xs)=>some (.at (.data false (.slice e) ((xs.drop off).take len)),st.freeze l false e xs)
  |_=>none
 | .at (.mapr l)=>match st.at l with
  |some (.smp v m)=>some (.at (.data false (.smap v) m),st.Dt l v m)
  |_=>none
 | .at a=>if a.settled then some (.at a,st) else none
 | .agg cs=>(Da cs.length st cs).map fun p=>(.agg p.1,p.2)
 | .tup fr τ x=>some (.tup fr τ x,st)
 | .tupc _=>none
def AC.refs:AC→List Nat
 | .own l _ _| .vptr l _| .eptr l _| .mapr l| .sub l _ _| .sptr l _ _=> [l]
 | .clo _ caps=>caps.map (·.1)
 |_=> []
def Pe:List Nat→Bool
 | []=>true
 |a::r=>!r.contains a&&Pe r
def Ty.tree:Ty→Bool
 | .int _| .bool| .str| .unit=>true
 | .slice e=>e.tree
 | .pair a r=>a.tree&&r.tree
 |_=>false
def Jt (st:St):AC→Bool
 | .data _ τ _=>τ.flat
 | .nilv=>true
 | .own l _ _=>match st.at l with
  |some (.arr _ tr e _ _)=>tr||e.flat
  |some (.xarr _ _ _)=>true
  |_=>false
 |_=>false
def Ko (st:St):AV→Bool
 | .at a=>Jt st a
 | .agg cs=>cs.all (Jt st)&&Pe (cs.flatMap AC.refs)
 |_=>false
def Ag:Nat:=1000000000
variable (T:Tab)
def Axr (t:TypeId) (τ:Ty) (i:Nat):Option TypeId:=
 if τ.Ab then (List.range 24).findSome? fun f=>match T.off t f with
  |some (o,u)=>if o=i then some u else none
  |none=>none
 else some t
def Tab.Ay1 (te:TypeId):Option Ty:=if T.grids.contains te then (match T.ty te with
 |some (.slice e)=>some e
 |_=>none) else none
def Ts (te:TypeId) (e:Ty):OB:=match T.Ay1 te with
 |some e'=> .grid e' te [] none none
 |none=> .arr (T.fr0||e.flat) T.tr0 e te []
def Ll (b:OB) (key l i:Nat) (st:St):St:=
 match st.at l with
 |some (.var _ vs)=>match vs[i]? with
  |some .nilv=>
   let s1:=st.new key b
   match s1.at l with
   |some (.var tid vs')=>s1.Ew l (.var tid (Ln vs' i (.own key 0 0)))
   |_=>s1
  |_=>st
 |_=>st
def Wa (l:Nat) (t:TypeId) (τ:Ty):Nat→Nat→St→St
 |0,_,st=>st
 |n+1,i,st=>
  Wa l t τ n (i+1) (match ((Axr T t τ i).bind T.elem).bind fun te=>(T.ty te).map fun e=>(te,e) with
   |some (te,e)=>Ll (Ts T te e) (100000+l*100+i) l i st
   |none=>st)
def Um (l off:Nat) (t:TypeId) (τ:Ty):Nat→Nat→St→St
 |0,_,st=>st
 |n+1,i,st=>
  Um l off t τ n (i+1) (match ((Axr T t τ i).bind T.elem).bind fun te=>(T.ty te).map fun e=>(te,e) with
   |some (te,e)=>Ll (Ts T te e) (100000+l*100+(off+i)) l (off+i) st
   |none=>st)
def zeroCells:(τ:Ty)→List AC
 | .unit=> []
 | .pair a r=>zeroCells a++zeroCells r
 | .slice _=> [.nilv]
 | .oslice _=> [.nilv]
 | .ptr _=> [.nilp]
 | .optr _=> [.nilp]
 | .clo _ _=> [.undef]
 |τ=> [.data true τ τ.zero]
def cellsOf (τ:Ty):AV→Option (List AC)
 | .agg cs=>if τ.Ab&&cs.length==τ.size then some cs else none
 | .at (.data fr τ' x)=>if τ'=τ then some (Ny fr τ' x) else none
 | .at .undef=>none
 | .at .skip=>none
 | .at a=>if τ.Ab then none else some [a]
 |_=>none
def mkVar (st:St) (l:Nat) (t:TypeId) (τ:Ty) (cs:List AC):Option (AV×St):=
 if Ag≤100000+l*100+cs.length then none else
 let s:=Wa T l t τ cs.length 0 (st.new l (.var t (cs.map (Aw l))))
 match s.at l with
 |some (.var _ _)=>some (.at (.vptr l 0),s)
 |_=>none
def Bl {α:Type} (xs:List α) (i:Nat) (ys:List α):List α:=xs.take i++ys++xs.drop (i+ys.length)
def Lp (st:St) (t:TypeId) (p v:AV):Option St:=
 match T.ty t,p with
 |some τ, .at (.vptr l i)=>match st.at l,cellsOf τ v with
  |some (.var tid vs),some cs=>if i+cs.length≤vs.length then some (if τ.Ab&&Nat.blt (100000+l*100+(i+cs.length)) Ag then Um T l i t τ cs.length 0 (st.Ew l (.var tid (Bl vs i cs))) else st.Ew l (.var tid (Bl vs i cs))) else none
  |_,_=>none
 |some τ, .at (.eptr l j)=>match settle st v with
  |some (v',st')=>match st'.at l,Ci st' τ v' with
   |some (.arr fr tr e tid xs),some (fr',x)=>if h:τ=e then (if j<xs.length then some (st'.Ew l (.arr (fr&&fr') (tr&&(Ko st v&&e.tree)) e tid (xs.set j (h▸x)))) else none) else none
   |_,_=>none
  |none=>none
 |_,_=>none
def Az:Nat:=4294967296
def Hg (st:St) (dst:Nat) (t:TypeId) (x y:Operand):Option (AV×St):=
 match T.elem t with
 |none=>none
 |some te=>match T.ty te,settle st (st.ev y) with
  |some e,some (y',st')=>match Ci st' (.slice e) y' with
   |none=>none
   |some (fr2,ys)=>
    let tr2:=e.flat||(Ko st (st.ev y)&&e.tree)
    match st'.ev x with
    | .at .nilv=>if ys.length≤Az∧dst<Ag then some (.at (.own dst 0 (0+ys.length)),(st'.new dst (.arr (T.fr0||e.flat) T.tr0 e te [])).new dst (.arr ((T.fr0||e.flat)&&(fr2||e.flat)) (T.tr0&&tr2) e te (((([]:List e.den).drop 0).take 0)++ys))) else none
    | .at (.own l off len)=>match st'.at l with
     |some (.arr fr tr e' tid xs)=>if h:e'=e∧tid=te then
       (if len+ys.length≤Az∧l<Ag then
        some (.at (.own l 0 (len+ys.length)),st'.new l (.arr (fr&&(fr2||e.flat)) (tr&&tr2) e te ((((h.1▸xs:List e.den).drop off).take len)++ys))) else none)
      else none
     |_=>none
    |_=>none
  |_,_=>none
def It (st:St) (l i m:Nat) (e:Ty) (te tid:TypeId) (rows:List (List e.den)) (kp:Option (Nat×Nat)):St:=
 (st.Ew l (.grid e te rows (some i) kp)).new m (.arr false false e tid (rows.getD i []))
def Jn (st:St) (dst:Nat) (t:TypeId) (x y:Operand):Option (AV×St):=
 match x with
 | .tmp tx=>match st.get tx with
  | .at (.sub l i _)=>match st.at l,T.elem t with
   |some (.grid e te rows none kp),some tid=>if (Nat.blt l Ag&&(Nat.blt dst Ag&&!Nat.beq dst l))=true then Hg T ((It st l i dst e te tid rows kp).put (some tx) (.at (.own dst 0 (rows.getD i []).length))) dst t x y else none
   |_,_=>none
  |_=>Hg T st dst t x y
 |_=>Hg T st dst t x y
def Ad4:Ty→Bool
 | .int _| .bool| .str| .slice _| .oslice _=>true
 |_=>false
def Wv:Ty→Bool
 | .unit=>true
 | .pair a r=>Wv a&&Wv r
 |e=>Ad4 e
def Qz (st:St) (dst:Nat) (t:TypeId) (l c:AV):Option (AV×St):=
 match T.elem t,l,c with
 |some te, .at (.data _ (.int _) n), .at (.data _ (.int _) m)=>match T.ty te with
  |some e=>if inb n (Az+1)=true∧n=m∧Wv e=true∧dst<Ag then some (.at (.own dst 0 n.toNat),st.new dst (.arr (T.fr0||e.flat) (T.tr0&&e.tree) e te (List.replicate n.toNat e.zero))) else none
  |none=>none
 |_,_,_=>none
def Fl (e:Ty):Nat→List (Nat×Operand)→St→Option (Bool×Bool×List e.den×St)
 |_,[],st=>some (true,true,[],st)
 |i,(j,x)::r,st=>
  if i=j then match settle st (st.ev x) with
   |some (v,st')=>match Ci st' e v with
    |some (fr,y)=>match Fl e (i+1) r st' with
     |some (fr',tr',ys,st'')=>some (fr&&fr',Ko st (st.ev x)&&e.tree&&tr',y::ys,st'')
     |none=>none
    |none=>none
   |none=>none
  else none
def Gc (st:St) (dst:Nat) (t:TypeId) (len:Nat) (parts:Array (Nat×Operand)):Option (AV×St):=
 match T.elem t with
 |none=>none
 |some te=>match T.ty te with
  |none=>none
  |some e=>if parts.size=len∧len≤64∧e.size≤64∧dst<Ag then (match Fl e 0 parts.toList st with
   |some (fr,tr,ys,st')=>some (.at (.own dst 0 len),st'.new dst (.arr ((T.fr0||e.flat)&&fr) (T.tr0&&tr) e te ys))
   |none=>none) else none
def Lo (st:St) (dst:Nat) (t:TypeId):Option (AV×St):=
 match T.mapOf t with
 |some v=>if dst<Ag then some (.at (.mapr dst),st.new dst (.smp v fun _=>none)) else none
 |none=>none
def Ex {α:Type} (m:ByteArray→Option α) (k:ByteArray) (x:α):ByteArray→Option α:=fun s=>if s=k then some x else m s
def Ea (st:St) (t:TypeId) (m k x:AV):Option St:=
 match T.mapOf t,m,k with
 |some v, .at (.mapr l), .at (.data _ .str s)=>match st.at l,Ci st v x with
  |some (.smp v' f),some (_,y)=>if h:v'=v∧v.flat=true∧v.Ab=false then some (st.Ew l (.smp v (Ex (h.1▸f:ByteArray→Option v.den) s y))) else none
  |_,_=>none
 |_,_,_=>none
def Yk (st:St) (t t':TypeId) (x y:AV):Option (AV×St):=
 match x,(T.elem t).bind T.ty with
 | .at (.own l off len),some e=>if T.elem t=T.elem t'∧e.flat=true∧e.size=1 then match st.at l,Ci st (.slice e) y with
  |some (.arr fr _ e' tid xs),some (_,ys)=>if h:e'=e∧T.elem t=some tid then
    some (.at (.data true (.int .i64) (min len ys.length:Nat)),st.Ew l (.arr fr false e tid (Bl (h.1▸xs:List e.den) off (ys.take len))))
   else none
  |_,_=>none
  else none
 |_,_=>none
def evalClear (st:St) (t:TypeId) (x:AV):Option St:=
 match x,(T.elem t).bind T.ty with
 | .at (.own l off len),some e=>if e.flat=true∧Ad4 e=true then match st.at l with
  |some (.arr fr _ e' tid xs)=>if h:e'=e∧T.elem t=some tid then
    some (st.Ew l (.arr fr false e tid (Bl (h.1▸xs:List e.den) off (List.replicate len e.zero))))
   else none
  |_=>none
  else none
 |_,_=>none
def Gb (st:St) (t:TypeId):List (Nat×Operand)→List AC→Option (List AC)
 | [],cs=>some cs
 |(i,x)::r,cs=>
  match T.off t i with
  |some (o,u)=>match T.ty u with
   |some ρ=>match cellsOf ρ (st.ev x) with
    |some c=>if o+c.length≤cs.length then Gb st t r (Bl cs o c) else none
    |none=>none
   |none=>none
  |none=>none
def Mz (st:St) (t:TypeId) (parts:Array (Nat×Operand)):Option AV:=
 match T.ty t with
 |none=>none
 |some τ=>if τ.Ab then (Gb T st t parts.toList (zeroCells τ)).map .agg else none
def Bn (io:Bool) (k:Nat):Nat:=if io then 1000000000+k else 500000+k
def Ep (k:Nat):Nat:=600000+k
def Bbr (dst:Nat) (k:Nat):Nat:=1000000*(dst+1)+k
def Kj:List (Option Nat)→List AC→List AV
 |none::s,a::as=> .at a::Kj s as
 |some n::s,as=> .agg (as.take n)::Kj s (as.drop n)
 |_,_=> []
def Fm:List (Option Nat)→List Value→List Value
 |none::s,u::us=>u::Fm s us
 |some n::s,us=> .agg (us.take n).toArray::Fm s (us.drop n)
 |_,_=> []
def ungroup:List (Option Nat)→List AV→Option (List AC)
 | [],[]=>some []
 |none::s, .at a::as=>(ungroup s as).map fun r=>a::r
 |some n::s, .agg cs::as=>if cs.length=n then (ungroup s as).map fun r=>cs++r else none
 |_,_=>none
def Aay (l:Nat):(c:CK)→c.den→Option OB
 | .dat _,_=>none
 | .row e te,xs=>some (.arr false false e te xs)
 | .xrow e te,xs=>some (.xarr e te xs)
 | .part e te,x=>some (.arr false false e te x.1)
 | .grid e te kp,xs=>some (.grid e te xs none (if kp then some (l,List.length xs) else none))
def Bgw (l:Nat):(c:CK)→c.den→AC
 | .dat τ,x=> .data τ.flat τ x
 | .row _ _,xs=> .own l 0 (List.length xs)
 | .xrow _ _,xs=> .own l 0 (List.length xs)
 | .part _ _,x=> .own l x.2.1 x.2.2
 | .grid _ _ _,xs=> .own l 0 (List.length xs)
def Yf {α:Type} (l:Nat):Option α→List (Nat×α)→List (Nat×α)
 |none,r=>r
 |some b,r=>(l,b)::r
def On:(k:Nat)→(cs:List (Bool×CK))→Ins.den cs→List (Nat×OB)
 |_,[],_=> []
 |k,p::r,x=>Yf (Bn p.1 k) (Aay (Bn p.1 k) p.2 x.1) (On (k+1) r x.2)
def Re:(k:Nat)→(cs:List (Bool×CK))→Ins.den cs→List AC
 |_,[],_=> []
 |k,p::r,x=>Bgw (Bn p.1 k) p.2 x.1::Re (k+1) r x.2
inductive Loc where
 |row (l:Nat)
 |sub (l i c:Nat)
 |view (l:Nat)
 deriving DecidableEq
def Loc.lab:Loc→Nat
 | .row l=>l
 | .sub l _ _=>l
 | .view l=>l
def Loc.reads:Loc→Bool
 | .view _=>true
 |_=>false
def Rv (st:St) (ls:List Nat):Bool:=ls.all fun l=>match st.at l with|some (.var _ vs)=>vs.all (·.settled)|_=>false
def views (k:Nat) (ls:List Nat):List (Nat×Loc):=ls.map fun l=>(Bn false k, .view l)
def Fv (st:St) (io:Bool) (k:Nat):(c:CK)→AC→Option (c.den×List (Nat×Loc))
 | .dat τ, .own l off len=>(Bj st τ (.own l off len)).map fun p=>(p.2,[(Bn false k, .view l)])
 | .dat τ, .clo g caps=>if Rv st (caps.map (·.1))&&!τ.Ab then (Ek st τ (.clo g caps)).map fun p=>(p.2,views k (caps.map (·.1))) else none
 | .dat τ, .vptr l i=>if Rv st [l]&&!τ.Ab then (Ek st τ (.vptr l i)).map fun p=>(p.2,views k [l]) else none
 | .dat τ, .sub l i c=>(Bj st τ (.sub l i c)).map fun p=>(p.2,[(Bn false k, .view l)])
 | .dat τ,a=>if τ.flat||a.settled then (Bj st τ a).map fun p=>(p.2,[]) else none
 | .row e te, .own l off len=>match st.at l with
  |some (.arr _ _ e' te' xs)=>if h:e'=e∧te'=te∧off=0∧len=xs.length then some ((h.1▸xs:List e.den),[(Bn io k, .row l)]) else none
  |_=>none
 | .row e _, .sub l i c=>match st.at l with
  |some (.xarr e' _ xs)=>if h:e'= .slice e∧e.flat=true∧io=true∧c=0 then xs[i]?.map fun y=>((h.1▸y:(Ty.slice e).den),[(Bn io k, .sub l i c)]) else none
  |_=>none
 | .row _ _, .nilv=>some ([],[])
 | .xrow e te, .own l off len=>match st.at l with
  |some (.xarr e' te' xs)=>if h:e'=e∧te'=te∧off=0∧len=xs.length then some ((h.1▸xs:List e.den),[(Bn io k, .row l)]) else none
  |_=>none
 | .xrow e _, .sub l i c=>match st.at l with
  |some (.xarr e' _ xs)=>if h:e'= .slice e∧io=true∧c=0 then xs[i]?.map fun y=>((h.1▸y:(Ty.slice e).den),[(Bn io k, .sub l i c)]) else none
  |_=>none
 | .xrow _ _, .nilv=>some ([],[])
 | .part e te, .own l off len=>match st.at l with
  |some (.arr _ _ e' te' xs)=>if h:e'=e∧te'=te∧e.flat=true∧io=true then some (((h.1▸xs:List e.den),off,len),[(Bn io k, .row l)]) else none
  |_=>none
 | .grid e te _, .own l off len=>match st.at l with
  |some (.grid e' te' rows none _)=>if h:e'=e∧te'=te∧off=0∧len=rows.length∧io=false then some ((h.1▸rows:List (List e.den)),[(Bn io k, .row l)]) else none
  |_=>none
 |_,_=>none
def Ws (st:St):(k:Nat)→(cs:List (Bool×CK))→List AC→Option (Ins.den cs×List (Nat×Loc))
 |_,[],[]=>some ((),[])
 |k,p::r,a::as=>match Fv st p.1 k p.2 a,Ws st (k+1) r as with
  |some (x,t1),some (y,t2)=>some ((x,y),t1++t2)
  |_,_=>none
 |_,_,_=>none
def Rx (st:St):(c:CK)→c.den→AC→Option St
 | .row e _,ys, .own l _ len=>match st.at l with
  |some (.arr fr tr e' te xs)=>if h:e=e'∧List.length ys=len∧xs.length=len then some (st.Ew l (.arr (fr&&e'.flat) (tr&&e'.flat) e' te (h.1▸ys))) else none
  |_=>none
 | .xrow e _,ys, .own l _ len=>match st.at l with
  |some (.xarr e' te xs)=>if h:e=e'∧List.length ys=len∧xs.length=len then some (st.Ew l (.xarr e' te (h.1▸ys))) else none
  |_=>none
 | .row e _,ys, .sub l i _=>match st.at l with
  |some (.xarr e' te xs)=>if h: .slice e=e' then (match xs[i]? with
   |some y=>if List.length ys=List.length (h▸y:(Ty.slice e).den) then some (st.Ew l (.xarr e' te (xs.set i (h▸(ys:(Ty.slice e).den))))) else none
   |none=>none) else none
  |_=>none
 | .xrow e _,ys, .sub l i _=>match st.at l with
  |some (.xarr e' te xs)=>if h: .slice e=e' then (match xs[i]? with
   |some y=>if List.length ys=List.length (h▸y:(Ty.slice e).den) then some (st.Ew l (.xarr e' te (xs.set i (h▸(ys:(Ty.slice e).den))))) else none
   |none=>none) else none
  |_=>none
 |_,_, .nilv=>some st
 |_,_,_=>none
def Awk (st:St) (e:Ty) (ys:List e.den):AC→Option St
 | .own l _ _=>match st.at l with
  |some (.arr fr tr e' te xs)=>if h:e=e'∧List.length ys=xs.length then some (st.Ew l (.arr fr tr e' te (h.1▸ys))) else none
  |_=>none
 |_=>none
def Di:(cs:List (Bool×CK))→IOs.den cs→List AC→St→Option St
 | [],_,_,st=>some st
 |(true, .dat _)::r,x,_::as,st=>Di r x as st
 |(true, .row e te)::r,x,a::as,st=>match Rx st (.row e te) x.1 a with
  |some st'=>Di r x.2 as st'
  |none=>none
 |(true, .xrow e te)::r,x,a::as,st=>match Rx st (.xrow e te) x.1 a with
  |some st'=>Di r x.2 as st'
  |none=>none
 |(true, .part e _)::r,x,a::as,st=>match Awk st e x.1 a with
  |some st'=>Di r x.2 as st'
  |none=>none
 |(true, .grid _ _ _)::r,x,_::as,st=>Di r x as st
 |(false,_)::r,x,_::as,st=>Di r x as st
 |_,_,_,_=>none
def At (dead part:List Nat) (c:AC):AC:=if c.refs.any (fun l=>dead.contains l) then .undef else match c with
 | .sub l i c=>if part.contains l then .undef else .sub l i c
 | .sptr l i c=>if part.contains l then .undef else .sptr l i c
 |c=>c
def Mx:List (Nat×OB)→List Nat→List (Nat×OB)
 | [],_=> []
 |(k,b)::r,dead=>if dead.contains k then Mx r dead else (k,b)::Mx r dead
def St.Se (st:St) (dead part:List Nat):St:=let s:=st.Fc (At dead part); {s with heap:=Mx s.heap dead}
def Kr (st:St) (l j m:Nat) (e:Ty) (te:TypeId) (rows:List (List e.den)) (xs:List e.den) (kp:Option (Nat×Nat)):St:=
 (st.Se [m] [l]).Ew l (.grid e te (rows.set j xs) none kp)
def Rh (j:Nat):Option (Nat×Nat)→Option (Nat×Nat)
 |none=>none
 |some p=>some (p.1,min p.2 j)
def Rc (st:St) (t:TypeId) (p v:AV):Option St:=
 match T.ty t,p with
 |some τ, .at (.sptr l i j)=>match settle st v with
  |some (v',st')=>match st'.at l,Ci st' τ v' with
   |some (.grid e te rows none kp),some (_,x)=>if h:τ=e then some (st'.Ew l (.grid e te (rows.set i ((rows.getD i []).set j (h▸x))) none kp)) else none
   |_,_=>none
  |none=>none
 |some τ, .at (.eptr l j)=>match st.at l,v with
  |some (.grid e te rows out kp), .at (.own m off len)=>match st.at m with
   |some (.arr _ _ e' _ xs)=>if h:e'=e∧(Nat.blt l Ag&&(!Nat.beq m l&&!τ.Ab))=true∧off=0∧len=xs.length∧(out=none∨out=some j) then some (Kr st l j m e te rows (h.1▸xs) (Rh j kp)) else none
   |_=>none
  |_,_=>none
 |_,_=>none
def Ay2 (st:St):AV→Bool
 | .at (.sptr _ _ _)=>true
 | .at (.eptr l _)=>match st.at l with
  |some (.grid _ _ _ _ _)=>true
  |_=>false
 |_=>false
def Ih (st:St) (t:TypeId) (p v:AV):Option St:=match Ay2 st p with
 |true=>Rc T st t p v
 |false=>Lp T st t p v
def Jj (st:St) (k m:Nat) (b:OB):St:=let s:=st.Se [m,k] []; {s with heap:=Hr s.heap k b}
def Uc (t:TypeId):Option (TypeId×Ty):=(T.elem t).bind fun te=>(T.Ay1 te).map fun e=>(te,e)
def Nb (st:St) (dst:Nat) (t:TypeId) (l c:AV):Option (AV×St):=
 match Uc T t with
 |none=>Qz T st dst t l c
 |some (te,e)=>match l,c with
  | .at (.data _ (.int _) n), .at (.data _ (.int _) m)=>if inb n (Az+1)=true∧n=m∧dst<Ag then some (.at (.own dst 0 n.toNat),Jj st dst dst (.grid e te (List.replicate n.toNat []) none none)) else none
  |_,_=>none
def Dy (st:St) (dst:Nat) (t:TypeId) (len:Nat) (parts:Array (Nat×Operand)):Option (AV×St):=
 match Uc T t with
 |none=>Gc T st dst t len parts
 |some (te,e)=>match parts.toList with
  | [(0,x)]=>match st.ev x with
   | .at (.own m off ln)=>match st.at m with
    |some (.arr _ _ e' _ xs)=>if h:e'=e∧(Nat.beq len 1&&(Nat.blt dst Ag&&Nat.blt m Ag))=true∧off=0∧ln=xs.length then some (.at (.own dst 0 1),Jj st dst m (.grid e te [h.1▸xs] none none)) else none
    |_=>none
   |_=>none
  |_=>none
def Jo (st:St) (dst:Nat) (t:TypeId) (x y:Operand):Option (AV×St):=
 match Uc T t with
 |none=>Jn T st dst t x y
 |some (te,e)=>match st.ev x,st.ev y with
  | .at (.own l off len), .at (.own m off2 Ajc)=>match st.at l,st.at m with
   |some (.grid e1 te1 A none _),some (.grid e2 te2 B none _)=>
    if h:(e1=e∧e2=e)∧(decide (te1=te)&&decide (te2=te)&&(Nat.blt l Ag&&(Nat.blt m Ag&&!Nat.beq m l)))=true∧(off=0∧len=A.length)∧(off2=0∧Ajc=B.length)∧0<B.length∧A.length+B.length≤Az then
     some (.at (.own l 0 (A.length+B.length)),Jj st l m (.grid e te ((h.1.1▸A:List (List e.den))++(h.1.2▸B:List (List e.den))) none none))
    else none
   |_,_=>none
  |_,_=>none
def Ale (fr:Bool):(c:CK)→c.den→Option OB
 | .dat _,_=>none
 | .row e te,xs=>some (.arr (fr&&e.flat) false e te xs)
 | .xrow e te,xs=>some (.xarr e te xs)
 | .part e te,x=>some (.arr (fr&&e.flat) false e te x.1)
 | .grid e te _,xs=>some (.grid e te xs none none)
def Asf (H:List (Nat×OB)) (l:Nat):Option OB→List (Nat×OB)
 |some b=>Hr H l b
 |none=>H
def Nk (fr:Bool) (key:Nat→Nat):(k:Nat)→(cs:List CK)→CKs.den cs→List (Nat×OB)→List (Nat×OB)
 |_,[],_,H=>H
 |k,c::r,x,H=>Nk fr key (k+1) r x.2 (Asf H (key k) (Ale fr c x.1))
def Rk (key:Nat→Nat):(k:Nat)→(cs:List CK)→CKs.den cs→List AC
 |_,[],_=> []
 |k,c::r,x=>(match c,x.1 with
  | .dat τ,y=> .data τ.flat τ y
  | .row _ _,xs=> .own (key k) 0 (List.length xs)
  | .xrow _ _,xs=> .own (key k) 0 (List.length xs)
  | .grid _ _ _,xs=> .own (key k) 0 (List.length xs)
  | .part _ _,_=> .undef)::Rk key (k+1) r x.2
def Pf:List (Option Nat)→List AC→List (Bool×List AC)
 |none::s,a::as=>(false,[a])::Pf s as
 |some n::s,as=>(true,as.take n)::Pf s (as.drop n)
 |_,_=> []
def Bgb (multi:Bool) (sh:List (Option Nat)) (as:List AC):Option AV:=
 if multi then some (.tupc (Pf sh as)) else match Kj sh as with
  | [v]=>some v
  | []=>some .undef
  |_=>none
def Adj (tks:List (Nat×Loc)):List Nat:=(tks.filter fun t=>Nat.blt t.1 Ag&&!t.2.reads).map fun t=>t.2.lab
def whole (tks:List (Nat×Loc)):List Nat:=tks.flatMap fun t=>match t.2 with| .row l=> [l]|_=> []
def Aqv (tks:List (Nat×Loc)):List Nat:=(tks.filter fun t=>t.2.reads).map fun t=>t.2.lab
def Asq (ins:List (Bool×CK)) (te:TypeId) (used:List Nat):List (Nat×Loc)→Option Nat
 | []=>none
 |(k, .row l)::r=>if Nat.blt k Ag&&(!used.contains l&&(match ins[k-500000]? with
   |some (false, .row _ te')=>decide (te'=te)
   |some (false, .xrow _ te')=>decide (te'=te)
   |some (false, .grid _ te' _)=>decide (te'=te)
   |_=>false)) then some l else Asq ins te used r
 |_::r=>Asq ins te used r
def Avu (ins:List (Bool×CK)) (tks:List (Nat×Loc)) (d:Nat):(k:Nat)→(used:List Nat)→List CK→List Nat
 |_,_,[]=> []
 |k,used,c::r=>match (match c with
   | .row _ te=>Asq ins te used tks
   | .xrow _ te=>Asq ins te used tks
   | .grid _ te _=>Asq ins te used tks
   |_=>none) with
  |some l=>l::Avu ins tks d (k+1) (l::used) r
  |none=>Bbr d k::Avu ins tks d (k+1) used r
def Ade (s:Bp) (tks:List (Nat×Loc)) (d:Nat):List Nat:=Avu s.ins tks d 0 [] s.outs
def Bo (ks:List Nat) (j:Nat):Nat:=match ks[j]? with
 |some l=>l
 |none=>Ag+j
def Ap9 (ks:List Nat) (n:Nat):Bool:=Nat.beq ks.length n&&(Pe ks&&ks.all fun l=>Nat.blt l Ag)
def Axw (st:St) (l:List Nat):Bool:=l.all fun k=>match st.at k with|some (.arr fr _ _ _ _)=>fr|_=>false
def Ay8 (st:St) (s:Bp) (args:List AV):Option (List Nat×List AC×List AV):=
 match s.ptr with
 |none=>some ([],[],args)
 |some p=>match args with
  | .at (.vptr l i)::rest=>match st.at l with
   |some (.var tid vs)=>if tid=p.1∧vs.length=p.2∧i=0 then some ([l],vs,rest) else none
   |_=>none
  |_=>none
def Me:List (Bool×CK)→List AC→Bool
 |(true, .row _ _)::r, .own _ _ _::as=>Me r as
 |(true, .xrow _ _)::r, .own _ _ _::as=>Me r as
 |(true,_)::_,_::_=>false
 |(false,_)::r,_::as=>Me r as
 |_,as=>as.isEmpty
def Xi {α:Type} :List (Bool×CK)→List α→List α→List α
 |(true,_)::r,v::vs,as=>v::Xi r vs as
 |(false,_)::r,_::vs,a::as=>a::Xi r vs as
 |_,vs,_=>vs
def Ak3:List (Bool×CK)→Nat→Nat
 |(true,_)::r,n+1=>Ak3 r n
 |(false,_)::r,n+1=>Ak3 r n+1
 |_,_=>0
def Bp.Pp (s:Bp):Nat:=match s.ptr with|none=>0|some p=>Ak3 s.ins p.2
def Ahm (ins:List (Bool×CK)) (as:List AC) (pl:List Nat) (st:St):St:=
 match pl with
 | []=>st
 |l::_=>match st.at l with
  |some (.var tid vs)=>st.Ew l (.var tid (Xi ins vs as))
  |_=>st
def Kp (d:Nat):Nat:=Bbr d 999
def Acs (s:Bp) (d:Nat):List Nat:=match s.rp with|none=> []|some _=> [Kp d]
def Jw (s:Bp) (tks:List (Nat×Loc)) (d:Nat):List Nat:=Ade s tks d++Acs s d
def Adz (H:List (Nat×OB)) (l:Nat):Bool:=match Ac H l with
 |some (.grid _ _ _ _ _)=>true
 |_=>false
def Rg (H:List (Nat×OB)) (ks:List Nat) (tks:List (Nat×Loc)):List (Nat×Nat)→List Nat
 | []=> []
 |(k,j)::r=>match tks.find? (fun t=>Nat.beq t.1 (Bn false k)),ks[j]? with
  |some (_, .row l),some l'=>if Nat.beq l' l&&Adz H l then l::Rg H ks tks r else Rg H ks tks r
  |_,_=>Rg H ks tks r
def Ai0 (H:List (Nat×OB)) (l:Nat):Nat:=match Ac H l with
 |some (.grid _ _ rows _ _)=>rows.length
 |_=>0
def Tl (H:List (Nat×OB)) (ls:List Nat) (n:Nat):List AV→Bool
 | []=>true
 | .at (.sub l i _)::r=>(!ls.contains l||(Nat.blt i n&&Nat.blt i (Ai0 H l)))&&Tl H ls n r
 |_::r=>Tl H ls n r
def Ft (ls:List Nat):List AV→List AV→List AV
 | .at (.sub l i c)::r,v::vs=>(if ls.contains l then .at (.sub l i c) else v)::Ft ls r vs
 |_::r,v::vs=>v::Ft ls r vs
 |_,vs=>vs
def Beu:Option OB→Option (Nat×Nat)
 |some (.grid _ _ _ _ kp)=>kp
 |_=>none
def OB.Atw (b:OB) (kp:Option (Nat×Nat)):OB:=match b with
 | .grid e te rows out _=> .grid e te rows out kp
 |b=>b
def Td (H0:List (Nat×OB)) (ls:List Nat) (n:Nat):List (Nat×OB)→List (Nat×OB)
 | []=> []
 |(l,b)::r=>(l,if ls.contains l then b.Atw (Rh n (Beu (Ac H0 l))) else b)::Td H0 ls n r
def Aci (st0 st:St) (ls:List Nat) (n:Nat):St:=match ls with
 | []=>st
 |_=> {tmps:=Ft ls st0.tmps st.tmps,heap:=Td st0.heap ls n st.heap}
def Bds (s:Bp) (d:Nat) (as:List AC):Option AV:=match s.rp with
 |none=>Bgb s.multi s.rshapes as
 |some _=>some (.at (.vptr (Kp d) 0))
def Ac2 (st st1:St) (d:Nat) (s:Bp) (pl:List Nat) (tks:List (Nat×Loc)) (r:CKs.den s.outs):St:=
 let ks:=Jw s tks d
 let key:=Bo ks
 let st2:=Ahm s.ins (Rk key 0 s.outs r) pl (st1.Se (Adj tks++ks++(if s.flat then [] else Aqv tks)) (whole tks))
 {st2 with heap:=Nk (Axw st (Adj tks)) key 0 s.outs r (Asf st2.heap (Kp d) (s.rp.map fun tid=> .var tid ((Rk key 0 s.outs r).drop s.Pp)))}
def Na (st:St) (dst:Option Nat) (s:Bp) (args:List AV):Option (AV×St):=
 match Ay8 st s args with
 |none=>none
 |some (pl,vs,rest)=>match ungroup s.shapes rest with
 |none=>none
 |some as0=>match Ws st 0 s.ins (vs++as0) with
  |none=>none
  |some (x,tks)=>if Pe (tks.map fun t=>t.2.lab)&&Ap9 (Jw s tks (dst.getD 0)) (s.outs.length+(Acs s (dst.getD 0)).length)&&Nat.blt s.outs.length 1000&&Nat.blt s.ins.length 1000&&(Me s.ins vs&&pl.all fun l=>!((tks.map fun t=>t.2.lab)++Jw s tks (dst.getD 0)).contains l) then match s.fn x with
   |none=>none
   |some (r,o)=>match Di s.ins o (vs++as0) st with
    |none=>none
    |some st1=>match Bds s (dst.getD 0) ((Rk (Bo (Jw s tks (dst.getD 0))) 0 s.outs r).drop s.Pp) with
     |none=>none
     |some v=>if Tl (Ac2 st st1 (dst.getD 0) s pl tks r).heap (Rg st.heap (Jw s tks (dst.getD 0)) tks s.keeps) (s.Ch x) st.tmps=true then
       some (v,Aci st (Ac2 st st1 (dst.getD 0) s pl tks r) (Rg st.heap (Jw s tks (dst.getD 0)) tks s.keeps) (s.Ch x)) else none
   else none
def Hy:List Operand→St→Option St
 | [],st=>some st
 |x::r,st=>match settle st (st.ev x) with
  |some (_,st')=>Hy r st'
  |none=>none
def Vw (s:Spec) (args:List AV):Bool:=!(s.fresh||s.res.flat||args.all (·.settled))
def evalOp (Γ:Env) (st:St) (o:Oper):Option (AV×St):=
 match o.op with
 | .assign x=>match st.ev x,o.dst,(T.elem o.type).bind fun te=>(T.ty te).map fun e=>(te,e) with
  | .at .nilv,some d,some (te,e)=>if d<Ag then some (.at (.own d 0 0),st.new d (.arr (T.fr0||e.flat) T.tr0 e te [])) else none
  |v,_,_=>some (v,st)
 | .alloc t=>match o.dst,T.ty t with
  |some d,some τ=>mkVar T st d t τ (zeroCells τ)
  |_,_=>none
 | .box t x=>match o.dst,T.ty t with
  |some d,some τ=>match cellsOf τ (st.ev x) with
   |some cs=>mkVar T st d t τ cs
   |none=>none
  |_,_=>none
 | .store t p x=>(Ih T st t (st.ev p) (st.ev x)).map fun s=>(.undef,s)
 | .makeSlice t l c=>match o.dst with
  |some d=>Nb T st d t (st.ev l) (st.ev c)
  |none=>none
 | .makeMap t none=>match o.dst with
  |some d=>Lo T st d t
  |none=>none
 | .mapUpdate t m k x=>(Ea T st t (st.ev m) (st.ev k) (st.ev x)).map fun s=>(.undef,s)
 | .insert t m k x=>(Ea T st t (st.ev m) (st.ev k) (st.ev x)).map fun s=>(.undef,s)
 | .buildSlice t len parts=>match o.dst with
  |some d=>Dy T st d t len parts
  |none=>none
 | .build t parts=>(Mz T st t parts).map fun v=>(v,st)
 | .call {callee:= .builtin .append,args,argTypes} =>match o.dst,args.toList,argTypes.toList with
  |some d,[x,y],[t,t']=>if t=t' then Jo T st d t x y else none
  |_,_,_=>none
 | .call {callee:= .builtin .copy,args,argTypes} =>match args.toList,argTypes.toList with
  | [x,y],[t,t']=>Yk T st t t' (st.ev x) (st.ev y)
  |_,_=>none
 | .call {callee:= .builtin .clear,args,argTypes} =>match args.toList,argTypes.toList with
  | [x],[t]=>(evalClear T st t (st.ev x)).map fun s=>(.undef,s)
  |_,_=>none
 | .call {callee:= .value (.func f),args, .. } =>match Γ f with
  |some (.m s)=>Na st o.dst s (args.toList.map st.ev)
  |some (.q s)=>if Vw s (args.toList.map st.ev) then (match Hy args.toList st with
   |some st1=>(Bz T Γ st1 o).map fun v=>(v,st1)
   |none=>none) else (Bz T Γ st o).map fun v=>(v,st)
  |_=>(Bz T Γ st o).map fun v=>(v,st)
 |_=>(Bz T Γ st o).map fun v=>(v,st)
def Vz (e:Ty):Nat→List (Nat×Operand)→St→Option (Bool×List e.den)
 |_,[],_=>some (true,[])
 |i,(j,x)::r,st=>
  if i=j∧(st.ev x).settled=true then match Ci st e (st.ev x),Vz e (i+1) r st with
   |some (fr,y),some (fr',ys)=>some (fr&&fr',y::ys)
   |_,_=>none
  else none
def Qy (st:St) (t:TypeId) (len:Nat) (parts:Array (Nat×Operand)):Option AV:=
 match T.elem t with
 |none=>none
 |some te=>match T.ty te with
  |none=>none
  |some e=>if parts.size=len∧len≤64∧e.size≤64 then (Vz e 0 parts.toList st).map fun p=> .at (.data p.1 (.slice e) p.2) else none
def Oi (Γ:Env) (st:St) (o:Oper):Option AV:=
 match o.op with
 | .buildSlice t len parts=>Qy T st t len parts
 | .build t parts=>Mz T st t parts
 |_=>Bz T Γ st o
def Bbl (q:Bool) (Γ:Env) (o:Oper):Bool:=
 match o.op with
 | .buildSlice _ _ _| .build _ _=>!q
 | .alloc _| .box _ _| .store _ _ _| .makeSlice _ _ _| .makeMap _ _| .mapUpdate _ _ _ _| .insert _ _ _ _=>true
 | .assign (.const _)=>true
 | .call {callee:= .builtin .append, .. } =>true
 | .call {callee:= .builtin .copy, .. } =>true
 | .call {callee:= .builtin .clear, .. } =>true
 | .call {callee:= .value (.func f), .. } =>match Γ f with
  |some (.m _)=>true
  |_=>false
 |_=>false
def Ca (Γ:Env) (ops:Array Oper) (st:St) (o:Oper):Option St:=
 match o.guard with
 |none=>(evalOp T Γ st o).map fun r=>r.2.put o.dst r.1
 |some (j,want)=>match Mv st ((ops[j]?).bind (·.dst)) with
  |some (some b)=>if b==want then (evalOp T Γ st o).map fun r=>r.2.put o.dst r.1 else some (st.put o.dst (.at .skip))
  |some none=>some (st.put o.dst (.at .skip))
  |none=>none
def Px (Γ:Env) (ops:Array Oper):List Oper→St→Option St
 | [],st=>some st
 |o::r,st=>match Ca T Γ ops st o with
  |some st'=>Px Γ ops r st'
  |none=>none
def Ei (q:Bool) (Γ:Env) (ops:Array Oper):List Nat:=
 (List.range ops.size).foldl (init:= []) fun acc i=>match ops[i]? with
  |some o=>if Bbl q Γ o||o.after.any (fun e=>Region.binds .any e&&acc.contains e.on) then acc++ [i] else acc
  |none=>acc
def Sh (q:Bool) (Γ:Env) (ops:Array Oper):List Nat:=(List.range ops.size).filter fun i=>!(Ei q Γ ops).contains i
def Ady (ops:Array Oper) (hd tl:List Nat) (i:Nat):Bool:=
 match ops[i]? with
 |some o=>(match o.op,o.guard with
  | .move (.tmp _),none=>true
  |_,_=>false)&&!((tl.take 1++hd).any fun j=>decide (i<j)&&Region.waitsFor .any ops j i)
 |none=>false
def Mb (q:Bool) (Γ:Env) (ops:Array Oper):List Nat:=(Sh q Γ ops).filter fun i=>Ady ops (Sh q Γ ops) (Ei q Γ ops) i
def Md (q:Bool) (Γ:Env) (ops:Array Oper):List Nat:=(Sh q Γ ops).filter fun i=>!Ady ops (Sh q Γ ops) (Ei q Γ ops) i
def Aag (q:Bool) (Γ:Env) (ops:Array Oper):List Nat:=Mb q Γ ops++Md q Γ ops
def Aek (ops:Array Oper):List Nat→Array Bool→Bool
 | [],listed=>(Region.ready .any ops listed).isEmpty
 |k::r,listed=>decide (Region.ready .any ops listed= [k])&&Aek ops r (listed.setIfInBounds k true)
def Afe (ops:Array Oper) (tl:List Nat):List Nat→Array Bool→Bool
 | [],listed=>Aek ops tl listed
 |k::r,listed=>(Region.ready .any ops listed).contains k&&Region.free .any ops listed k&&Afe ops tl r (listed.setIfInBounds k true)
def Acw (ops:Array Oper) (hd:List Nat):List Nat→Bool
 | []=>true
 |f::r=>(hd.all fun i=>(f::hd).any fun j=>decide (i<j)&&Region.waitsFor .any ops j i)&&chain f r
where chain:Nat→List Nat→Bool
 |_,[]=>true
 |k,t::r=>Region.waitsFor .any ops t k&&chain t r
def Adt (ops:Array Oper) (tl hd:List Nat):List Nat→Array Bool→Bool
 | [],listed=>Afe ops tl hd listed
 |k::r,listed=>(Region.ready .any ops listed).contains k&&Region.free .any ops listed k&&Adt ops tl hd r (listed.setIfInBounds k true)
def Aal (q:Bool) (Γ:Env) (ops:Array Oper):Bool:=
 Region.noSelect ops&&((Mb q Γ ops).length+((Md q Γ ops).length+(Ei q Γ ops).length)==ops.size)&&Adt ops (Ei q Γ ops) (Md q Γ ops) (Mb q Γ ops) (Array.replicate ops.size false)&&Acw ops (Md q Γ ops) (Ei q Γ ops)
def Xq (Γ:Env) (ops:Array Oper) (st:St) (o:Oper):Option AV:=
 match o.guard with
 |none=>Oi T Γ st o
 |some (j,want)=>match Mv st ((ops[j]?).bind (·.dst)) with
  |some (some b)=>if b==want then Oi T Γ st o else some (.at .skip)
  |some none=>some (.at .skip)
  |none=>none
def Dh (Γ:Env) (ops:Array Oper):List Nat→St→Option St
 | [],st=>some st
 |i::r,st=>match ops[i]? with
  |none=>none
  |some o=>match Xq T Γ ops st o with
   |some v=>Dh Γ ops r (st.put o.dst v)
   |none=>none
def Hs (Γ:Env) (ops:Array Oper):List Nat→St→Option St
 | [],st=>some st
 |i::r,st=>match ops[i]? with
  |none=>none
  |some o=>match Ca T Γ ops st o with
   |some st'=>Hs Γ ops r st'
   |none=>none
def Jp (Γ:Env) (ops:Array Oper) (draw:Bool) (st:St):Option St:=
 if draw then (if Aal false Γ ops then (match Dh T Γ ops (Aag false Γ ops) st with
  |some st'=>Hs T Γ ops (Ei false Γ ops) st'
  |none=>none) else if Aal true Γ ops then (match Dh T Γ ops (Aag true Γ ops) st with
  |some st'=>Hs T Γ ops (Ei true Γ ops) st'
  |none=>none) else none)
 else Px T Γ ops ops.toList st
def Ap4 (ops:Array Oper) (i:Nat):Bool:=match ops[i]? with
 |some o=>(match o.op,o.guard with
  | .move (.tmp _),none=>true
  |_,_=>false)
 |none=>false
def Aaj (ops:Array Oper) (i:Nat):Bool:=match ops[i]? with
 |some o=>(match o.op,o.guard with
  | .move (.tmp _),none=>true
  | .nilCheck _,none=>true
  | .fieldAddr _ _ _,none=>true
  |_,_=>false)
 |none=>false
def Bgd (q:Bool) (ops:Array Oper) (i:Nat):Bool:=match q with
 |true=>Aaj ops i
 |false=>Ap4 ops i
def Eg (q:Bool) (ops:Array Oper):List Nat→Array Bool→List Nat
 | [],_=> []
 |i::r,listed=>if Bgd q ops i&&((Region.ready .any ops listed).contains i&&Region.free .any ops listed i) then i::Eg q ops r (listed.setIfInBounds i true) else Eg q ops r listed
def Bbq (q:Bool) (ops:Array Oper):List Nat:=Eg q ops (List.range ops.size) (Array.replicate ops.size false)
def Aac (q:Bool) (ops:Array Oper):Bool:=Nat.ble (ops.size-(Bbq q ops).length) 8
def Il (ops:Array Oper):List Nat:=Bbq (!Aac false ops) ops
def Dm:List Nat→Array Bool→Array Bool
 | [],listed=>listed
 |i::r,listed=>Dm r (listed.setIfInBounds i true)
def anyS (Γ:Env) (ops:Array Oper) (K:St→Prop):Nat→Array Bool→St→Prop
 |0,listed,st=>Region.ready .any ops listed= []∧K st
 |f+1,listed,st=>Region.ready .any ops listed≠ []∧ ∀i∈Region.ready .any ops listed,∃o st',ops[i]?=some o∧Ca T Γ ops st o=some st'∧anyS Γ ops K f (listed.setIfInBounds i true) st'
def Aof (Γ:Env) (ops:Array Oper) (draw:Bool) (st:St) (K:St→Prop):Prop:=
 (∃st',Jp T Γ ops draw st=some st'∧K st')∨
 (draw=true∧Region.noSelect ops=true∧ ∃st0,Dh T Γ ops (Il ops) st=some st0∧anyS T Γ ops K (ops.size-(Il ops).length) (Dm (Il ops) (Array.replicate ops.size false)) st0)
def Aq2 (Γ:Env) (draw:Bool):Env:=fun f=>match Γ f with
 |some (.b s m)=>some (if draw then .q s else .m m)
 |r=>r
inductive Fp where
 |normal
 |exit (id:Nat)
 |ret
def Ev (live:List Nat):Nat→List AV→List AV
 |_,[]=> []
 |i,v::r=>(if live.contains i then v else .undef)::Ev live (i+1) r
def AV.refs:AV→List Nat
 | .at a=>a.refs
 | .agg cs=>cs.flatMap AC.refs
 | .tup _ _ _=> []
 | .tupc l=>l.flatMap fun p=>p.2.flatMap AC.refs
def OB.refs:OB→List Nat
 | .var _ vs=>vs.flatMap AC.refs
 |_=> []
def Ua:List Nat→St→St
 | [],st=>st
 |l::r,st=>Ua r (st.forget l)
def Afx (l k m:Nat):Nat:=if m=l then k else m
def Lu (l k:Nat):AC→AC
 | .own m off len=> .own (Afx l k m) off len
 | .vptr m i=> .vptr (Afx l k m) i
 | .eptr m i=> .eptr (Afx l k m) i
 | .clo f caps=> .clo f (caps.map fun p=>(Afx l k p.1,p.2))
 | .mapr m=> .mapr (Afx l k m)
 | .sub m i c=> .sub (Afx l k m) i c
 | .sptr m i c=> .sptr (Afx l k m) i c
 |a=>a
def St.rename (l k:Nat) (st:St):St:=
 match Ac st.heap k,Ac st.heap l with
 |none,some b=>if (Nat.blt l Ag&&Nat.blt k Ag)=true then
   (let s:=st.Fc (Lu l k); {s with heap:=Hr (Pn s.heap l) k (b.map (Lu l k))}) else st
 |_,_=>st
def Gf:Nat→Nat→St→St
 |0,_,st=>st
 |n+1,t,st=>Gf n (t+1) (match st.get t with
  | .at (.own l _ _)=>match Ac st.heap l with
   |some (.arr _ _ _ _ _)=>if (st.tmps.take t).any (fun v=>v.refs.contains l) then st else st.rename l (700000+t)
   |_=>st
  |_=>st)
def Sm:Nat:=1000000007
def OB.Eb (flat all:Bool):OB→OB
 | .arr fr tr e tid xs=> .arr (fr&&!(all||(flat&&e.flat))) (tr&&!all) e tid xs
 |b=>b
def Oy:Nat:=1000000009
def Aup:Nat:=1100000000
def St.Eb (live:List Nat) (st:St):St:= {st with heap:=st.heap.map fun p=>(p.1,p.2.Eb (live.contains Oy) (live.contains (Aup+p.1)))}
def Js:Nat:=900000000
def Rl (t:Nat) (st:St):St:=match st.get t with
 | .at (.own l off len)=>match Ac st.heap l with
  |some (.arr fr tr e tid xs)=>if Nat.blt l Ag=true then (st.new l (.arr fr tr e tid ((xs.drop off).take len))).put (some t) (.at (.own l 0 ((xs.drop off).take len).length)) else st
  |_=>st
 |_=>st
def Hx (live:List Nat):Nat→Nat→St→St
 |0,_,st=>st
 |n+1,t,st=>Hx live n (t+1) (if live.contains (Js+t) then Rl t st else st)
def St.clean (live:List Nat) (st:St):St:=
 let s:St:= {st with tmps:=Ev live 0 st.tmps}
 let r1:=s.tmps.flatMap AV.refs
 let r2:=r1++(s.heap.filter fun p=>r1.contains p.1).flatMap fun p=>p.2.refs
 let s2:=Ua ((s.heap.map (·.1)).filter fun l=>!r2.contains l&&Nat.blt l Ag) s
 let s2:=if live.any (fun t=>Nat.ble Js t&&Nat.blt t Sm) then Hx live s2.tmps.length 0 s2 else s2
 let s3:=if live.contains Sm then Gf s2.tmps.length 0 s2 else s2
 if live.any (fun t=>Nat.ble Oy t) then s3.Eb live else s3
def Bw:Code→Nat
 | .region id _ _=>id
 | .seq a _=>Bw a
 | .cond _ a _=>Bw a
 | .block _ c=>Bw c
 | .loop c=>1000+Bw c
 |_=>0
def Bem (a b:List Nat):List Nat:=a++b.filter fun t=>!a.contains t
def Apd:List Oper→List Nat→List Nat
 | [],out=>out
 |o::r,out=>Bem (o.op.operands.toList.filterMap fun| .tmp t=>some t|_=>none) (match o.dst with|some d=>(Apd r out).filter (·!=d)|none=>Apd r out)
def Avf:List (Nat×List Nat)→Nat→List Nat
 | [],_=> []
 |(k,l)::r,id=>if k=id then l else Avf r id
def Agu:Code→List (Nat×List Nat)→List Nat→List Nat→List Nat×List (Nat×List Nat)
 | .region _ ops _,_,_,out=>(Apd ops.toList out,[])
 | .seq a b,env,ret,out=>let rb:=Agu b env ret out;let ra:=Agu a env ret rb.1;(ra.1,ra.2++rb.2)
 | .cond c a b,env,ret,out=>let ra:=Agu a env ret out;let rb:=Agu b env ret out
  (Bem (match c with| .tmp t=> [t]|_=> []) (Bem ra.1 rb.1),ra.2++rb.2)
 | .block id c,env,ret,out=>Agu c ((id,out)::env) ret out
 | .exit id,env,_,_=>(Avf env id,[])
 | .ret,_,ret,_=>(ret,[])
 | .loop c,env,ret,_=>let l:=(Agu c env ret []).1;let r:=Agu c env ret l;(l,(Bw c,l)::r.2)
 |_,_,_,out=>(out,[])
def Ape:List ResultVar→List Nat
 | []=> []
 | .tmp t::r=>t::Ape r
 | .cell p _::r=>p::Ape r
def Apc (marks:List Nat) (fn:Func) (c:Code):Nat→List Nat:=let ret:=Ape fn.results.toList;let g:=Avf (Agu c [] ret ret).2;match marks with
 | []=>g
 |m=>fun id=>g id++m
def Aw6 (K:St→Prop) (Q:Fp→St→Prop):Fp→St→Prop
 | .normal,s=>K s
 |e,s=>Q e s
def Amz (id:Nat) (Q:Fp→St→Prop):Fp→St→Prop
 | .exit id',s=>if id'=id then Q .normal s else Q (.exit id') s
 |e,s=>Q e s
inductive Hq (Γ:Env) (live:Nat→List Nat):Code→St→(Fp→St→Prop)→Prop where
 |skip {st:St} {Q:Fp→St→Prop} :Q .normal st→Hq Γ live .skip st Q
 |label {l:Nat} {st:St} {Q:Fp→St→Prop} :Q .normal st→Hq Γ live (.label l) st Q
 |exit {id:Nat} {st:St} {Q:Fp→St→Prop} :Q (.exit id) st→Hq Γ live (.exit id) st Q
 |ret {st:St} {Q:Fp→St→Prop} :Q .ret st→Hq Γ live .ret st Q
 |region {id:Nat} {ops:Array Oper} {draw:Bool} {st:St} {Q:Fp→St→Prop} :Aof T (Aq2 Γ draw) ops draw st (Q .normal)→Hq Γ live (.region id ops draw) st Q
 |seq {x y:Code} {st:St} {Q:Fp→St→Prop} (Q1:Fp→St→Prop):Hq Γ live x st Q1→(∀s,Q1 .normal s→Hq Γ live y s Q)→(∀e s,e≠ .normal→Q1 e s→Q e s)→Hq Γ live (.seq x y) st Q
 |cond {c:Operand} {x y:Code} {st:St} {fr t:Bool} {Q:Fp→St→Prop} :st.ev c= .at (.data fr .bool t)→(t=true→Hq Γ live x st Q)→(t=false→Hq Γ live y st Q)→Hq Γ live (.cond c x y) st Q
 |block {id:Nat} {c:Code} {st:St} {Q:Fp→St→Prop} (Q1:Fp→St→Prop):Hq Γ live c st Q1→(∀e s,Q1 e s→Amz id Q e s)→Hq Γ live (.block id c) st Q
 |loop {c:Code} {st:St} {Q:Fp→St→Prop} (Q1:Fp→St→Prop):Hq Γ live c (st.clean (live (Bw c))) Q1→(∀s,Q1 .normal s→Hq Γ live (.loop c) s Q)→(∀e s,e≠ .normal→Q1 e s→Q e s)→Hq Γ live (.loop c) st Q
def Tg (st:St):List ResultVar→Option (List AV)
 | []=>some []
 | .tmp t::r=>(Tg st r).map fun l=>st.get t::l
 | .cell p t::r=>match Iv T st t (st.get p),Tg st r with
  |some v,some l=>some (v::l)
  |_,_=>none
def Adr (s:Spec) (fn:Func) (st:St):Option (Bool×s.res.den):=
 match Tg T st fn.results.toList with
 |some [v]=>if s.multi then none else Ci st s.res v
 |some [v,u]=>if s.multi then Bm st s.res [v,u] else none
 |some [v,u,t]=>if s.multi then Bm st s.res [v,u,t] else none
 |_=>none
def Kg:(τ:Ty)→τ.den→List AV
 | .pair a r,x=> .at (.data a.flat a x.1)::Kg r x.2
 |_,_=> []
def Aaz (st:St):(c:CK)→AC→Option (c.den×List Nat)
 | .dat τ,a=>if τ.flat||a.settled then (Bj st τ a).map fun p=>(p.2,[]) else none
 | .row e te, .own l off len=>match st.at l with
  |some (.arr _ _ e' te' xs)=>if h:e'=e∧te'=te then some ((((h.1▸xs:List e.den).drop off).take len),[l]) else none
  |_=>none
 | .row _ _, .nilv=>some ([],[])
 | .xrow e te, .own l off len=>match st.at l with
  |some (.arr _ tr e' te' xs)=>if h:e'=e∧te'=te∧(tr||e.flat)=true then some ((((h.1▸xs:List e.den).drop off).take len),[l]) else none
  |some (.xarr e' te' xs)=>if h:e'=e∧te'=te then some ((((h.1▸xs:List e.den).drop off).take len),[l]) else none
  |_=>none
 | .xrow _ _, .nilv=>some ([],[])
 | .grid e te _, .own l off len=>match st.at l with
  |some (.grid e' te' rows none _)=>if h:e'=e∧te'=te∧off=0∧len=rows.length then some ((h.1▸rows:List (List e.den)),[l]) else none
  |_=>none
 |_,_=>none
def Lt (st:St):(cs:List CK)→List AC→Option (CKs.den cs×List Nat)
 | [],[]=>some ((),[])
 |c::r,a::as=>match Aaz st c a,Lt st r as with
  |some (x,t1),some (y,t2)=>some ((x,y),t1++t2)
  |_,_=>none
 |_,_=>none
def Agh (st:St) (l:Nat):(c:CK)→Option c.den
 | .dat _=>none
 | .row e te=>match st.at l with
  |some (.arr _ _ e' te' xs)=>if h:e'=e∧te'=te then some (h.1▸xs) else none
  |_=>none
 | .xrow e te=>match st.at l with
  |some (.xarr e' te' xs)=>if h:e'=e∧te'=te then some (h.1▸xs) else none
  |_=>none
 | .part _ _=>none
 | .grid _ _ _=>none
def Hv (st:St):(k:Nat)→(cs:List (Bool×CK))→Option (IOs.den cs)
 |_,[]=>some ()
 |k,(true, .dat _)::r=>Hv st (k+1) r
 |k,(true, .grid _ _ _)::r=>Hv st (k+1) r
 |k,(true, .row e te)::r=>match Agh st (Bn true k) (.row e te),Hv st (k+1) r with
  |some x,some y=>some (x,y)
  |_,_=>none
 |k,(true, .xrow e te)::r=>match Agh st (Bn true k) (.xrow e te),Hv st (k+1) r with
  |some x,some y=>some (x,y)
  |_,_=>none
 |k,(true, .part e te)::r=>match Agh st (Bn true k) (.row e te),Hv st (k+1) r with
  |some x,some y=>some (x,y)
  |_,_=>none
 |k,(false,_)::r=>Hv st (k+1) r
def Ij:(k:Nat)→List (Bool×CK)→List Nat
 |_,[]=> []
 |k,(true, .dat _)::r=>Ij (k+1) r
 |k,(true, .grid _ _ _)::r=>Ij (k+1) r
 |k,(true,_)::r=>Bn true k::Ij (k+1) r
 |k,(false,_)::r=>Ij (k+1) r
def Ju:Nat:=1900000000
def Ee:(k:Nat)→List (Bool×CK)→List AC→Option (List AC)
 |_,_,[]=>some []
 |k,(true, .row _ _)::r, .own l _ _::as=>if Nat.beq l (Bn true k) then Ee (k+1) r as else none
 |k,(true, .xrow _ _)::r, .own l _ _::as=>if Nat.beq l (Bn true k) then Ee (k+1) r as else none
 |k,(false,_)::r,a::as=>(Ee (k+1) r as).map fun l=>a::l
 |_,_,_=>none
def Yv (st:St):List AC→List (Bool×CK)→Prop
 | .own l off len::as,(true,_)::r=>(off=0∧match st.at l with
  |some (.arr _ _ _ _ xs)=>len=xs.length
  |some (.xarr _ _ xs)=>len=xs.length
  |_=>False)∧Yv st as r
 |_::as,(false,_)::r=>Yv st as r
 |_,_=>True
def Awq (s:Bp) (st:St) (l:List AV):Option (List AC×List Nat):=match s.rp with
 |none=>if s.multi=Nat.blt 1 l.length then (ungroup s.rshapes l).map fun as=>(as,[]) else none
 |some tid=>match l with
  | [.at (.vptr m i)]=>match st.at m with
   |some (.var tid' vs)=>if tid'=tid∧i=0∧Nat.blt m Ag=true then some (vs,[m]) else none
   |_=>none
  |_=>none
def An3 (st:St) (n:Nat) (as:List AC):List (Nat×Nat)→Prop
 | []=>True
 |(k,j)::r=>(match as[j]? with
  |some (.own l _ _)=>match st.at l with
   |some (.grid _ _ _ _ (some p))=>p.1=Bn false k∧n≤p.2∧Nat.blt k 1000=true
   |_=>False
  |_=>False)∧An3 st n as r
def Aan (s:Bp) (fn:Func) (x:Ins.den s.ins) (st:St) (cs:List AC) (P:CKs.den s.outs×IOs.den s.ins→Prop):Prop:=
 match Tg T st fn.results.toList with
 |none=>False
 |some l=>match Awq s st l with
  |none=>False
  |some (as,ml)=>match Lt st s.outs (cs++as),Hv st 0 s.ins with
   |some (r,ls),some o=>(Pe (ml++ls++Ij 0 s.ins)&&Nat.blt s.ins.length 1000&&Nat.blt s.outs.length 1000&&s.Bbp)=true∧An3 st (s.Ch x) (cs++as) s.keeps∧P (r,o)
   |_,_=>False
def Bat (s:Bp) (fn:Func) (x:Ins.den s.ins) (st:St) (P:CKs.den s.outs×IOs.den s.ins→Prop):Prop:=
 match s.ptr with
 |none=>Aan T s fn x st [] P
 |some p=> ∃vs cs,st.at Ju=some (.var p.1 vs)∧vs.length=p.2∧Ee 0 s.ins vs=some cs∧Yv st vs s.ins∧Aan T s fn x st cs P
def Po (s:Bp) (as:List AC):List AV:=match s.ptr with
 |none=>Kj s.shapes as
 |some p=> .at (.vptr Ju 0)::Kj s.shapes (as.drop p.2)
def Agq (s:Bp) (x:Ins.den s.ins):List (Nat×OB):=match s.ptr with
 |none=>On 0 s.ins x
 |some p=>On 0 s.ins x++ [(Ju, .var p.1 ((Re 0 s.ins x).take p.2))]
def Ou:List (Bool×CK)→Bool
 | []=>true
 |(true, .grid _ _ _)::_=>false
 |_::r=>Ou r
def Apy (s:Bp):Bool:=Ou s.ins&&match s.ptr with
 |none=>true
 |some p=>Nat.ble p.2 s.ins.length
def Bee (Γ:Env) (s:Bp) (fn:Func) (x:Ins.den s.ins) (P:CKs.den s.outs×IOs.den s.ins→Prop):Prop:=
 (Nat.blt s.ins.length 1000&&Apy s)=true∧ ∃c,fn.body=some c∧Hq T Γ (Apc T.marks fn c) c {tmps:=Po s (Re 0 s.ins x)++List.replicate (fn.ntmps-(Po s (Re 0 s.ins x)).length) .undef,heap:=Agq s x}
  (fun e st=>(∀id,e≠ .exit id)∧Bat T s fn x st P)
def Bau (Γ:Env) (s:Spec) (fn:Func) (x:s.arg.den) (P:s.res.den→Prop):Prop:=
 ∃c,fn.body=some c∧Hq T Γ (Apc T.marks fn c) c {tmps:=Kg s.arg x++List.replicate (fn.ntmps-(Kg s.arg x).length) .undef,heap:= []}
  (fun e st=>(∀id,e≠ .exit id)∧ ∃fr y,Adr T s fn st=some (fr,y)∧(fr||!s.fresh)=true∧P y)
end Go.Proofs.Ytebabhocakedaaa
