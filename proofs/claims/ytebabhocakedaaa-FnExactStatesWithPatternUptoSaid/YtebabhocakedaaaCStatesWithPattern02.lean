/-
  Part 3 of the proof that the statement FnExactStatesWithPattern holds.
-/
import Derived.Test.YtebabhocakedaaaCStatesWithPattern01
namespace Go.Proofs.Ytebabhocakedaaa
open Go.RowKit
def Cv:Nat→St→List AC→Option (List AC×St)
 |0,st,cs=>if cs.all (·.settled) then some (cs,st) else none
 |n+1,st,cs=>
  match cs.find? (fun c=>!c.settled) with
  |none=>some (cs,st)
  |some (.own l _ _)=>match st.at l with
   |some (.arr fr _ e _ xs)=>Cv n (st.freeze l fr e xs) (cs.map (Au l fr e xs))
   |some (.xarr e _ xs)=>Cv n (st.freeze l false e xs) (cs.map (Au l false e xs))
   |_=>none
  |some (.mapr l)=>match st.at l with
   |some (.smp v m)=>Cv n (st.Dl l v m) (cs.map (Cq l v m))
   |_=>none
  |some _=>none
def settle (st:St):AV→Option (AV×St)
 | .at (.own l off len)=>match st.at l with
  |some (.arr fr _ e _ xs)=>some (.at (.data fr (.slice e) ((xs.drop off).take len)),st.freeze l fr e xs)
  |some (.xarr e _ xs)=>some (.at (.data false (.slice e) ((xs.drop off).take len)),st.freeze l false e xs)
  |_=>none
 | .at (.mapr l)=>match st.at l with
  |some (.smp v m)=>some (.at (.data false (.smap v) m),st.Dl l v m)
  |_=>none
 | .at a=>if a.settled then some (.at a,st) else none
 | .agg cs=>(Cv cs.length st cs).map fun p=>(.agg p.1,p.2)
 | .tup fr τ x=>some (.tup fr τ x,st)
 | .tupc _=>none
def AC.refs:AC→List Nat
 | .own l _ _| .vptr l _| .eptr l _| .mapr l| .sub l _ _| .sptr l _ _=> [l]
 | .clo _ caps=>caps.map (·.1)
 |_=> []
def Od:List Nat→Bool
 | []=>true
 |a::r=>!r.contains a&&Od r
def Ty.tree:Ty→Bool
 | .int _| .bool| .str| .unit=>true
 | .slice e=>e.tree
 | .pair a r=>a.tree&&r.tree
 |_=>false
def Je (st:St):AC→Bool
 | .data _ τ _=>τ.flat
 | .nilv=>true
 | .own l _ _=>match st.at l with
  |some (.arr _ tr e _ _)=>tr||e.flat
  |some (.xarr _ _ _)=>true
  |_=>false
 |_=>false
def Jz (st:St):AV→Bool
 | .at a=>Je st a
 | .agg cs=>cs.all (Je st)&&Od (cs.flatMap AC.refs)
 |_=>false
def Ag:Nat:=1000000000
variable (T:Tab)
def Aw7 (t:TypeId) (τ:Ty) (i:Nat):Option TypeId:=
 if τ.Ab then (List.range 24).findSome? fun f=>match T.off t f with
  |some (o,u)=>if o=i then some u else none
  |none=>none
 else some t
def Tab.Awe (te:TypeId):Option Ty:=if T.grids.contains te then (match T.ty te with
 |some (.slice e)=>some e
 |_=>none) else none
def Ta (te:TypeId) (e:Ty):OB:=match T.Awe te with
 |some e'=> .grid e' te [] none none
 |none=> .arr (T.fr0||e.flat) T.tr0 e te []
def Ks (b:OB) (key l i:Nat) (st:St):St:=
 match st.at l with
 |some (.var _ vs)=>match vs[i]? with
  |some .nilv=>
   let s1:=st.new key b
   match s1.at l with
   |some (.var tid vs')=>s1.El l (.var tid (Ku vs' i (.own key 0 0)))
   |_=>s1
  |_=>st
 |_=>st
def Vk (l:Nat) (t:TypeId) (τ:Ty):Nat→Nat→St→St
 |0,_,st=>st
 |n+1,i,st=>
  Vk l t τ n (i+1) (match ((Aw7 T t τ i).bind T.elem).bind fun te=>(T.ty te).map fun e=>(te,e) with
   |some (te,e)=>Ks (Ta T te e) (100000+l*100+i) l i st
   |none=>st)
def Tu (l off:Nat) (t:TypeId) (τ:Ty):Nat→Nat→St→St
 |0,_,st=>st
 |n+1,i,st=>
  Tu l off t τ n (i+1) (match ((Aw7 T t τ i).bind T.elem).bind fun te=>(T.ty te).map fun e=>(te,e) with
   |some (te,e)=>Ks (Ta T te e) (100000+l*100+(off+i)) l (off+i) st
   |none=>st)
def zeroCells:(τ:Ty)→List AC
 | .unit=> []
 | .pair a r=>zeroCells a++zeroCells r
 | .slice _=> [.nilv]
 | .oslice _=> [.nilv]
 | .ptr _=> [.nilp]
 | .optr _=> [.nilp]
 | .clo _ _=> [.undef]
 |τ=> [.data true τ τ.zero]
def cellsOf (τ:Ty):AV→Option (List AC)
 | .agg cs=>if τ.Ab&&cs.length==τ.size then some cs else none
 | .at (.data fr τ' x)=>if τ'=τ then some (Na fr τ' x) else none
 | .at .undef=>none
 | .at .skip=>none
 | .at a=>if τ.Ab then none else some [a]
 |_=>none
def mkVar (st:St) (l:Nat) (t:TypeId) (τ:Ty) (cs:List AC):Option (AV×St):=
 if Ag≤100000+l*100+cs.length then none else
 let s:=Vk T l t τ cs.length 0 (st.new l (.var t (cs.map (At l))))
 match s.at l with
 |some (.var _ _)=>some (.at (.vptr l 0),s)
 |_=>none
def Bh {α:Type} (xs:List α) (i:Nat) (ys:List α):List α:=xs.take i++ys++xs.drop (i+ys.length)
def Kw (st:St) (t:TypeId) (p v:AV):Option St:=
 match T.ty t,p with
 |some τ, .at (.vptr l i)=>match st.at l,cellsOf τ v with
  |some (.var tid vs),some cs=>if i+cs.length≤vs.length then some (if τ.Ab&&Nat.blt (100000+l*100+(i+cs.length)) Ag then Tu T l i t τ cs.length 0 (st.El l (.var tid (Bh vs i cs))) else st.El l (.var tid (Bh vs i cs))) else none
  |_,_=>none
 |some τ, .at (.eptr l j)=>match settle st v with
  |some (v',st')=>match st'.at l,Cf st' τ v' with
   |some (.arr fr tr e tid xs),some (fr',x)=>if h:τ=e then (if j<xs.length then some (st'.El l (.arr (fr&&fr') (tr&&(Jz st v&&e.tree)) e tid (xs.set j (h▸x)))) else none) else none
   |_,_=>none
  |none=>none
 |_,_=>none
def As:Nat:=4294967296
def Gq (st:St) (dst:Nat) (t:TypeId) (x y:Operand):Option (AV×St):=
 match T.elem t with
 |none=>none
 |some te=>match T.ty te,settle st (st.ev y) with
  |some e,some (y',st')=>match Cf st' (.slice e) y' with
   |none=>none
   |some (fr2,ys)=>
    let tr2:=e.flat||(Jz st (st.ev y)&&e.tree)
    match st'.ev x with
    | .at .nilv=>if ys.length≤As∧dst<Ag then some (.at (.own dst 0 (0+ys.length)),(st'.new dst (.arr (T.fr0||e.flat) T.tr0 e te [])).new dst (.arr ((T.fr0||e.flat)&&(fr2||e.flat)) (T.tr0&&tr2) e te (((([]:List e.den).drop 0).take 0)++ys))) else none
    | .at (.own l off len)=>match st'.at l with
     |some (.arr fr tr e' tid xs)=>if h:e'=e∧tid=te then
       (if len+ys.length≤As∧l<Ag then
        some (.at (.own l 0 (len+ys.length)),st'.new l (.arr (fr&&(fr2||e.flat)) (tr&&tr2) e te ((((h.1▸xs:List e.den).drop off).take len)++ys))) else none)
      else none
     |_=>none
    |_=>none
  |_,_=>none
def Ia (st:St) (l i m:Nat) (e:Ty) (te tid:TypeId) (rows:List (List e.den)) (kp:Option (Nat×Nat)):St:=
 (st.El l (.grid e te rows (some i) kp)).new m (.arr false false e tid (rows.getD i []))
def Iw (st:St) (dst:Nat) (t:TypeId) (x y:Operand):Option (AV×St):=
 match x with
 | .tmp tx=>match st.get tx with
  | .at (.sub l i _)=>match st.at l,T.elem t with
   |some (.grid e te rows none kp),some tid=>if (Nat.blt l Ag&&(Nat.blt dst Ag&&!Nat.beq dst l))=true then Gq T ((Ia st l i dst e te tid rows kp).put (some tx) (.at (.own dst 0 (rows.getD i []).length))) dst t x y else none
   |_,_=>none
  |_=>Gq T st dst t x y
 |_=>Gq T st dst t x y
def Ace:Ty→Bool
 | .int _| .bool| .str| .slice _| .oslice _=>true
 |_=>false
def Wc:Ty→Bool
 | .unit=>true
 | .pair a r=>Wc a&&Wc r
 |e=>Ace e
def Qb (st:St) (dst:Nat) (t:TypeId) (l c:AV):Option (AV×St):=
 match T.elem t,l,c with
 |some te, .at (.data _ (.int _) n), .at (.data _ (.int _) m)=>match T.ty te with
  |some e=>if inb n (As+1)=true∧n=m∧Wc e=true∧dst<Ag then some (.at (.own dst 0 n.toNat),st.new dst (.arr (T.fr0||e.flat) (T.tr0&&e.tree) e te (List.replicate n.toNat e.zero))) else none
  |none=>none
 |_,_,_=>none
def Ex (e:Ty):Nat→List (Nat×Operand)→St→Option (Bool×Bool×List e.den×St)
 |_,[],st=>some (true,true,[],st)
 |i,(j,x)::r,st=>
  if i=j then match settle st (st.ev x) with
   |some (v,st')=>match Cf st' e v with
    |some (fr,y)=>match Ex e (i+1) r st' with
     |some (fr',tr',ys,st'')=>some (fr&&fr',Jz st (st.ev x)&&e.tree&&tr',y::ys,st'')
     |none=>none
    |none=>none
   |none=>none
  else none
def Fo (st:St) (dst:Nat) (t:TypeId) (len:Nat) (parts:Array (Nat×Operand)):Option (AV×St):=
 match T.elem t with
 |none=>none
 |some te=>match T.ty te with
  |none=>none
  |some e=>if parts.size=len∧len≤64∧e.size≤64∧dst<Ag then (match Ex e 0 parts.toList st with
   |some (fr,tr,ys,st')=>some (.at (.own dst 0 len),st'.new dst (.arr ((T.fr0||e.flat)&&fr) (T.tr0&&tr) e te ys))
   |none=>none) else none
def Kv (st:St) (dst:Nat) (t:TypeId):Option (AV×St):=
 match T.mapOf t with
 |some v=>if dst<Ag then some (.at (.mapr dst),st.new dst (.smp v fun _=>none)) else none
 |none=>none
def Em {α:Type} (m:ByteArray→Option α) (k:ByteArray) (x:α):ByteArray→Option α:=fun s=>if s=k then some x else m s
def Du (st:St) (t:TypeId) (m k x:AV):Option St:=
 match T.mapOf t,m,k with
 |some v, .at (.mapr l), .at (.data _ .str s)=>match st.at l,Cf st v x with
  |some (.smp v' f),some (_,y)=>if h:v'=v∧v.flat=true∧v.Ab=false then some (st.El l (.smp v (Em (h.1▸f:ByteArray→Option v.den) s y))) else none
  |_,_=>none
 |_,_,_=>none
def Xs (st:St) (t t':TypeId) (x y:AV):Option (AV×St):=
 match x,(T.elem t).bind T.ty with
 | .at (.own l off len),some e=>if T.elem t=T.elem t'∧e.flat=true∧e.size=1 then match st.at l,Cf st (.slice e) y with
  |some (.arr fr _ e' tid xs),some (_,ys)=>if h:e'=e∧T.elem t=some tid then
    some (.at (.data true (.int .i64) (min len ys.length:Nat)),st.El l (.arr fr false e tid (Bh (h.1▸xs:List e.den) off (ys.take len))))
   else none
  |_,_=>none
  else none
 |_,_=>none
def evalClear (st:St) (t:TypeId) (x:AV):Option St:=
 match x,(T.elem t).bind T.ty with
 | .at (.own l off len),some e=>if e.flat=true∧Ace e=true then match st.at l with
  |some (.arr fr _ e' tid xs)=>if h:e'=e∧T.elem t=some tid then
    some (st.El l (.arr fr false e tid (Bh (h.1▸xs:List e.den) off (List.replicate len e.zero))))
   else none
  |_=>none
  else none
 |_,_=>none
def Fm (st:St) (t:TypeId):List (Nat×Operand)→List AC→Option (List AC)
 | [],cs=>some cs
 |(i,x)::r,cs=>
  match T.off t i with
  |some (o,u)=>match T.ty u with
   |some ρ=>match cellsOf ρ (st.ev x) with
    |some c=>if o+c.length≤cs.length then Fm st t r (Bh cs o c) else none
    |none=>none
   |none=>none
  |none=>none
def Mg (st:St) (t:TypeId) (parts:Array (Nat×Operand)):Option AV:=
 match T.ty t with
 |none=>none
 |some τ=>if τ.Ab then (Fm T st t parts.toList (zeroCells τ)).map .agg else none
def Bj (io:Bool) (k:Nat):Nat:=if io then 1000000000+k else 500000+k
def Eh (k:Nat):Nat:=600000+k
def Azs (dst:Nat) (k:Nat):Nat:=1000000*(dst+1)+k
def Ju:List (Option Nat)→List AC→List AV
 |none::s,a::as=> .at a::Ju s as
 |some n::s,as=> .agg (as.take n)::Ju s (as.drop n)
 |_,_=> []
def Ey:List (Option Nat)→List Value→List Value
 |none::s,u::us=>u::Ey s us
 |some n::s,us=> .agg (us.take n).toArray::Ey s (us.drop n)
 |_,_=> []
def ungroup:List (Option Nat)→List AV→Option (List AC)
 | [],[]=>some []
 |none::s, .at a::as=>(ungroup s as).map fun r=>a::r
 |some n::s, .agg cs::as=>if cs.length=n then (ungroup s as).map fun r=>cs++r else none
 |_,_=>none
def Aaa (l:Nat):(c:CK)→c.den→Option OB
 | .dat _,_=>none
 | .row e te,xs=>some (.arr false false e te xs)
 | .xrow e te,xs=>some (.xarr e te xs)
 | .part e te,x=>some (.arr false false e te x.1)
 | .grid e te kp,xs=>some (.grid e te xs none (if kp then some (l,List.length xs) else none))
def Be0 (l:Nat):(c:CK)→c.den→AC
 | .dat τ,x=> .data τ.flat τ x
 | .row _ _,xs=> .own l 0 (List.length xs)
 | .xrow _ _,xs=> .own l 0 (List.length xs)
 | .part _ _,x=> .own l x.2.1 x.2.2
 | .grid _ _ _,xs=> .own l 0 (List.length xs)
def Xn {α:Type} (l:Nat):Option α→List (Nat×α)→List (Nat×α)
 |none,r=>r
 |some b,r=>(l,b)::r
def Nr:(k:Nat)→(cs:List (Bool×CK))→Ins.den cs→List (Nat×OB)
 |_,[],_=> []
 |k,p::r,x=>Xn (Bj p.1 k) (Aaa (Bj p.1 k) p.2 x.1) (Nr (k+1) r x.2)
def Qg:(k:Nat)→(cs:List (Bool×CK))→Ins.den cs→List AC
 |_,[],_=> []
 |k,p::r,x=>Be0 (Bj p.1 k) p.2 x.1::Qg (k+1) r x.2
inductive Loc where
 |row (l:Nat)
 |sub (l i c:Nat)
 |view (l:Nat)
 deriving DecidableEq
def Loc.lab:Loc→Nat
 | .row l=>l
 | .sub l _ _=>l
 | .view l=>l
def Loc.reads:Loc→Bool
 | .view _=>true
 |_=>false
def Qw (st:St) (ls:List Nat):Bool:=ls.all fun l=>match st.at l with|some (.var _ vs)=>vs.all (·.settled)|_=>false
def views (k:Nat) (ls:List Nat):List (Nat×Loc):=ls.map fun l=>(Bj false k, .view l)
def Ff (st:St) (io:Bool) (k:Nat):(c:CK)→AC→Option (c.den×List (Nat×Loc))
 | .dat τ, .own l off len=>(Bf st τ (.own l off len)).map fun p=>(p.2,[(Bj false k, .view l)])
 | .dat τ, .clo g caps=>if Qw st (caps.map (·.1))&&!τ.Ab then (Ee st τ (.clo g caps)).map fun p=>(p.2,views k (caps.map (·.1))) else none
 | .dat τ, .vptr l i=>if Qw st [l]&&!τ.Ab then (Ee st τ (.vptr l i)).map fun p=>(p.2,views k [l]) else none
 | .dat τ, .sub l i c=>(Bf st τ (.sub l i c)).map fun p=>(p.2,[(Bj false k, .view l)])
 | .dat τ,a=>if τ.flat||a.settled then (Bf st τ a).map fun p=>(p.2,[]) else none
 | .row e te, .own l off len=>match st.at l with
  |some (.arr _ _ e' te' xs)=>if h:e'=e∧te'=te∧off=0∧len=xs.length then some ((h.1▸xs:List e.den),[(Bj io k, .row l)]) else none
  |_=>none
 | .row e _, .sub l i c=>match st.at l with
  |some (.xarr e' _ xs)=>if h:e'= .slice e∧e.flat=true∧io=true∧c=0 then xs[i]?.map fun y=>((h.1▸y:(Ty.slice e).den),[(Bj io k, .sub l i c)]) else none
  |_=>none
 | .row _ _, .nilv=>some ([],[])
 | .xrow e te, .own l off len=>match st.at l with
  |some (.xarr e' te' xs)=>if h:e'=e∧te'=te∧off=0∧len=xs.length then some ((h.1▸xs:List e.den),[(Bj io k, .row l)]) else none
  |_=>none
 | .xrow e _, .sub l i c=>match st.at l with
  |some (.xarr e' _ xs)=>if h:e'= .slice e∧io=true∧c=0 then xs[i]?.map fun y=>((h.1▸y:(Ty.slice e).den),[(Bj io k, .sub l i c)]) else none
  |_=>none
 | .xrow _ _, .nilv=>some ([],[])
 | .part e te, .own l off len=>match st.at l with
  |some (.arr _ _ e' te' xs)=>if h:e'=e∧te'=te∧e.flat=true∧io=true then some (((h.1▸xs:List e.den),off,len),[(Bj io k, .row l)]) else none
  |_=>none
 | .grid e te _, .own l off len=>match st.at l with
  |some (.grid e' te' rows none _)=>if h:e'=e∧te'=te∧off=0∧len=rows.length∧io=false then some ((h.1▸rows:List (List e.den)),[(Bj io k, .row l)]) else none
  |_=>none
 |_,_=>none
def Vz (st:St):(k:Nat)→(cs:List (Bool×CK))→List AC→Option (Ins.den cs×List (Nat×Loc))
 |_,[],[]=>some ((),[])
 |k,p::r,a::as=>match Ff st p.1 k p.2 a,Vz st (k+1) r as with
  |some (x,t1),some (y,t2)=>some ((x,y),t1++t2)
  |_,_=>none
 |_,_,_=>none
def Qz (st:St):(c:CK)→c.den→AC→Option St
 | .row e _,ys, .own l _ len=>match st.at l with
  |some (.arr fr tr e' te xs)=>if h:e=e'∧List.length ys=len∧xs.length=len then some (st.El l (.arr (fr&&e'.flat) (tr&&e'.flat) e' te (h.1▸ys))) else none
  |_=>none
 | .xrow e _,ys, .own l _ len=>match st.at l with
  |some (.xarr e' te xs)=>if h:e=e'∧List.length ys=len∧xs.length=len then some (st.El l (.xarr e' te (h.1▸ys))) else none
  |_=>none
 | .row e _,ys, .sub l i _=>match st.at l with
  |some (.xarr e' te xs)=>if h: .slice e=e' then (match xs[i]? with
   |some y=>if List.length ys=List.length (h▸y:(Ty.slice e).den) then some (st.El l (.xarr e' te (xs.set i (h▸(ys:(Ty.slice e).den))))) else none
   |none=>none) else none
  |_=>none
 | .xrow e _,ys, .sub l i _=>match st.at l with
  |some (.xarr e' te xs)=>if h: .slice e=e' then (match xs[i]? with
   |some y=>if List.length ys=List.length (h▸y:(Ty.slice e).den) then some (st.El l (.xarr e' te (xs.set i (h▸(ys:(Ty.slice e).den))))) else none
   |none=>none) else none
  |_=>none
 |_,_, .nilv=>some st
 |_,_,_=>none
def Av1 (st:St) (e:Ty) (ys:List e.den):AC→Option St
 | .own l _ _=>match st.at l with
  |some (.arr fr tr e' te xs)=>if h:e=e'∧List.length ys=xs.length then some (st.El l (.arr fr tr e' te (h.1▸ys))) else none
  |_=>none
 |_=>none
def De:(cs:List (Bool×CK))→IOs.den cs→List AC→St→Option St
 | [],_,_,st=>some st
 |(true, .dat _)::r,x,_::as,st=>De r x as st
 |(true, .row e te)::r,x,a::as,st=>match Qz st (.row e te) x.1 a with
  |some st'=>De r x.2 as st'
  |none=>none
 |(true, .xrow e te)::r,x,a::as,st=>match Qz st (.xrow e te) x.1 a with
  |some st'=>De r x.2 as st'
  |none=>none
 |(true, .part e _)::r,x,a::as,st=>match Av1 st e x.1 a with
  |some st'=>De r x.2 as st'
  |none=>none
 |(true, .grid _ _ _)::r,x,_::as,st=>De r x as st
 |(false,_)::r,x,_::as,st=>De r x as st
 |_,_,_,_=>none
def Ap (dead part:List Nat) (c:AC):AC:=if c.refs.any (fun l=>dead.contains l) then .undef else match c with
 | .sub l i c=>if part.contains l then .undef else .sub l i c
 | .sptr l i c=>if part.contains l then .undef else .sptr l i c
 |c=>c
def Me:List (Nat×OB)→List Nat→List (Nat×OB)
 | [],_=> []
 |(k,b)::r,dead=>if dead.contains k then Me r dead else (k,b)::Me r dead
def St.Rg (st:St) (dead part:List Nat):St:=let s:=st.Es (Ap dead part); {s with heap:=Me s.heap dead}
def Kc (st:St) (l j m:Nat) (e:Ty) (te:TypeId) (rows:List (List e.den)) (xs:List e.den) (kp:Option (Nat×Nat)):St:=
 (st.Rg [m] [l]).El l (.grid e te (rows.set j xs) none kp)
def Ql (j:Nat):Option (Nat×Nat)→Option (Nat×Nat)
 |none=>none
 |some p=>some (p.1,min p.2 j)
def Qe (st:St) (t:TypeId) (p v:AV):Option St:=
 match T.ty t,p with
 |some τ, .at (.sptr l i j)=>match settle st v with
  |some (v',st')=>match st'.at l,Cf st' τ v' with
   |some (.grid e te rows none kp),some (_,x)=>if h:τ=e then some (st'.El l (.grid e te (rows.set i ((rows.getD i []).set j (h▸x))) none kp)) else none
   |_,_=>none
  |none=>none
 |some τ, .at (.eptr l j)=>match st.at l,v with
  |some (.grid e te rows out kp), .at (.own m off len)=>match st.at m with
   |some (.arr _ _ e' _ xs)=>if h:e'=e∧(Nat.blt l Ag&&(!Nat.beq m l&&!τ.Ab))=true∧off=0∧len=xs.length∧(out=none∨out=some j) then some (Kc st l j m e te rows (h.1▸xs) (Ql j kp)) else none
   |_=>none
  |_,_=>none
 |_,_=>none
def Awf (st:St):AV→Bool
 | .at (.sptr _ _ _)=>true
 | .at (.eptr l _)=>match st.at l with
  |some (.grid _ _ _ _ _)=>true
  |_=>false
 |_=>false
def Hr (st:St) (t:TypeId) (p v:AV):Option St:=match Awf st p with
 |true=>Qe T st t p v
 |false=>Kw T st t p v
def Is (st:St) (k m:Nat) (b:OB):St:=let s:=st.Rg [m,k] []; {s with heap:=Gy s.heap k b}
def Tj (t:TypeId):Option (TypeId×Ty):=(T.elem t).bind fun te=>(T.Awe te).map fun e=>(te,e)
def Mi (st:St) (dst:Nat) (t:TypeId) (l c:AV):Option (AV×St):=
 match Tj T t with
 |none=>Qb T st dst t l c
 |some (te,e)=>match l,c with
  | .at (.data _ (.int _) n), .at (.data _ (.int _) m)=>if inb n (As+1)=true∧n=m∧dst<Ag then some (.at (.own dst 0 n.toNat),Is st dst dst (.grid e te (List.replicate n.toNat []) none none)) else none
  |_,_=>none
def Dq (st:St) (dst:Nat) (t:TypeId) (len:Nat) (parts:Array (Nat×Operand)):Option (AV×St):=
 match Tj T t with
 |none=>Fo T st dst t len parts
 |some (te,e)=>match parts.toList with
  | [(0,x)]=>match st.ev x with
   | .at (.own m off ln)=>match st.at m with
    |some (.arr _ _ e' _ xs)=>if h:e'=e∧(Nat.beq len 1&&(Nat.blt dst Ag&&Nat.blt m Ag))=true∧off=0∧ln=xs.length then some (.at (.own dst 0 1),Is st dst m (.grid e te [h.1▸xs] none none)) else none
    |_=>none
   |_=>none
  |_=>none
def Ix (st:St) (dst:Nat) (t:TypeId) (x y:Operand):Option (AV×St):=
 match Tj T t with
 |none=>Iw T st dst t x y
 |some (te,e)=>match st.ev x,st.ev y with
  | .at (.own l off len), .at (.own m off2 Aim)=>match st.at l,st.at m with
   |some (.grid e1 te1 A none _),some (.grid e2 te2 B none _)=>
    if h:(e1=e∧e2=e)∧(decide (te1=te)&&decide (te2=te)&&(Nat.blt l Ag&&(Nat.blt m Ag&&!Nat.beq m l)))=true∧(off=0∧len=A.length)∧(off2=0∧Aim=B.length)∧0<B.length∧A.length+B.length≤As then
     some (.at (.own l 0 (A.length+B.length)),Is st l m (.grid e te ((h.1.1▸A:List (List e.den))++(h.1.2▸B:List (List e.den))) none none))
    else none
   |_,_=>none
  |_,_=>none
def Akh (fr:Bool):(c:CK)→c.den→Option OB
 | .dat _,_=>none
 | .row e te,xs=>some (.arr (fr&&e.flat) false e te xs)
 | .xrow e te,xs=>some (.xarr e te xs)
 | .part e te,x=>some (.arr (fr&&e.flat) false e te x.1)
 | .grid e te _,xs=>some (.grid e te xs none none)
def Ar2 (H:List (Nat×OB)) (l:Nat):Option OB→List (Nat×OB)
 |some b=>Gy H l b
 |none=>H
def Mn (fr:Bool) (key:Nat→Nat):(k:Nat)→(cs:List CK)→CKs.den cs→List (Nat×OB)→List (Nat×OB)
 |_,[],_,H=>H
 |k,c::r,x,H=>Mn fr key (k+1) r x.2 (Ar2 H (key k) (Akh fr c x.1))
def Qp (key:Nat→Nat):(k:Nat)→(cs:List CK)→CKs.den cs→List AC
 |_,[],_=> []
 |k,c::r,x=>(match c,x.1 with
  | .dat τ,y=> .data τ.flat τ y
  | .row _ _,xs=> .own (key k) 0 (List.length xs)
  | .xrow _ _,xs=> .own (key k) 0 (List.length xs)
  | .grid _ _ _,xs=> .own (key k) 0 (List.length xs)
  | .part _ _,_=> .undef)::Qp key (k+1) r x.2
def Oe:List (Option Nat)→List AC→List (Bool×List AC)
 |none::s,a::as=>(false,[a])::Oe s as
 |some n::s,as=>(true,as.take n)::Oe s (as.drop n)
 |_,_=> []
def Bdl (multi:Bool) (sh:List (Option Nat)) (as:List AC):Option AV:=
 if multi then some (.tupc (Oe sh as)) else match Ju sh as with
  | [v]=>some v
  | []=>some .undef
  |_=>none
def Acu (tks:List (Nat×Loc)):List Nat:=(tks.filter fun t=>Nat.blt t.1 Ag&&!t.2.reads).map fun t=>t.2.lab
def whole (tks:List (Nat×Loc)):List Nat:=tks.flatMap fun t=>match t.2 with| .row l=> [l]|_=> []
def Apm (tks:List (Nat×Loc)):List Nat:=(tks.filter fun t=>t.2.reads).map fun t=>t.2.lab
def Arc (ins:List (Bool×CK)) (te:TypeId) (used:List Nat):List (Nat×Loc)→Option Nat
 | []=>none
 |(k, .row l)::r=>if Nat.blt k Ag&&(!used.contains l&&(match ins[k-500000]? with
   |some (false, .row _ te')=>decide (te'=te)
   |some (false, .xrow _ te')=>decide (te'=te)
   |some (false, .grid _ te' _)=>decide (te'=te)
   |_=>false)) then some l else Arc ins te used r
 |_::r=>Arc ins te used r
def Aue (ins:List (Bool×CK)) (tks:List (Nat×Loc)) (d:Nat):(k:Nat)→(used:List Nat)→List CK→List Nat
 |_,_,[]=> []
 |k,used,c::r=>match (match c with
   | .row _ te=>Arc ins te used tks
   | .xrow _ te=>Arc ins te used tks
   | .grid _ te _=>Arc ins te used tks
   |_=>none) with
  |some l=>l::Aue ins tks d (k+1) (l::used) r
  |none=>Azs d k::Aue ins tks d (k+1) used r
def Acn (s:Bn) (tks:List (Nat×Loc)) (d:Nat):List Nat:=Aue s.ins tks d 0 [] s.outs
def Bl (ks:List Nat) (j:Nat):Nat:=match ks[j]? with
 |some l=>l
 |none=>Ag+j
def Ao4 (ks:List Nat) (n:Nat):Bool:=Nat.beq ks.length n&&(Od ks&&ks.all fun l=>Nat.blt l Ag)
def Awb (st:St) (l:List Nat):Bool:=l.all fun k=>match st.at k with|some (.arr fr _ _ _ _)=>fr|_=>false
def Awl (st:St) (s:Bn) (args:List AV):Option (List Nat×List AC×List AV):=
 match s.ptr with
 |none=>some ([],[],args)
 |some p=>match args with
  | .at (.vptr l i)::rest=>match st.at l with
   |some (.var tid vs)=>if tid=p.1∧vs.length=p.2∧i=0 then some ([l],vs,rest) else none
   |_=>none
  |_=>none
def Ln:List (Bool×CK)→List AC→Bool
 |(true, .row _ _)::r, .own _ _ _::as=>Ln r as
 |(true, .xrow _ _)::r, .own _ _ _::as=>Ln r as
 |(true,_)::_,_::_=>false
 |(false,_)::r,_::as=>Ln r as
 |_,as=>as.isEmpty
def Wp {α:Type} :List (Bool×CK)→List α→List α→List α
 |(true,_)::r,v::vs,as=>v::Wp r vs as
 |(false,_)::r,_::vs,a::as=>a::Wp r vs as
 |_,vs,_=>vs
def Aja:List (Bool×CK)→Nat→Nat
 |(true,_)::r,n+1=>Aja r n
 |(false,_)::r,n+1=>Aja r n+1
 |_,_=>0
def Bn.Ol (s:Bn):Nat:=match s.ptr with|none=>0|some p=>Aja s.ins p.2
def Agw (ins:List (Bool×CK)) (as:List AC) (pl:List Nat) (st:St):St:=
 match pl with
 | []=>st
 |l::_=>match st.at l with
  |some (.var tid vs)=>st.El l (.var tid (Wp ins vs as))
  |_=>st
def Ka (d:Nat):Nat:=Azs d 999
def Ac5 (s:Bn) (d:Nat):List Nat:=match s.rp with|none=> []|some _=> [Ka d]
def Jh (s:Bn) (tks:List (Nat×Loc)) (d:Nat):List Nat:=Acn s tks d++Ac5 s d
def Ada (H:List (Nat×OB)) (l:Nat):Bool:=match Ac H l with
 |some (.grid _ _ _ _ _)=>true
 |_=>false
def Qi (H:List (Nat×OB)) (ks:List Nat) (tks:List (Nat×Loc)):List (Nat×Nat)→List Nat
 | []=> []
 |(k,j)::r=>match tks.find? (fun t=>Nat.beq t.1 (Bj false k)),ks[j]? with
  |some (_, .row l),some l'=>if Nat.beq l' l&&Ada H l then l::Qi H ks tks r else Qi H ks tks r
  |_,_=>Qi H ks tks r
def Aha (H:List (Nat×OB)) (l:Nat):Nat:=match Ac H l with
 |some (.grid _ _ rows _ _)=>rows.length
 |_=>0
def Su (H:List (Nat×OB)) (ls:List Nat) (n:Nat):List AV→Bool
 | []=>true
 | .at (.sub l i _)::r=>(!ls.contains l||(Nat.blt i n&&Nat.blt i (Aha H l)))&&Su H ls n r
 |_::r=>Su H ls n r
def Fc (ls:List Nat):List AV→List AV→List AV
 | .at (.sub l i c)::r,v::vs=>(if ls.contains l then .at (.sub l i c) else v)::Fc ls r vs
 |_::r,v::vs=>v::Fc ls r vs
 |_,vs=>vs
def Bcf:Option OB→Option (Nat×Nat)
 |some (.grid _ _ _ _ kp)=>kp
 |_=>none
def OB.Ash (b:OB) (kp:Option (Nat×Nat)):OB:=match b with
 | .grid e te rows out _=> .grid e te rows out kp
 |b=>b
def Sl (H0:List (Nat×OB)) (ls:List Nat) (n:Nat):List (Nat×OB)→List (Nat×OB)
 | []=> []
 |(l,b)::r=>(l,if ls.contains l then b.Ash (Ql n (Bcf (Ac H0 l))) else b)::Sl H0 ls n r
def Abv (st0 st:St) (ls:List Nat) (n:Nat):St:=match ls with
 | []=>st
 |_=> {tmps:=Fc ls st0.tmps st.tmps,heap:=Sl st0.heap ls n st.heap}
def Bbh (s:Bn) (d:Nat) (as:List AC):Option AV:=match s.rp with
 |none=>Bdl s.multi s.rshapes as
 |some _=>some (.at (.vptr (Ka d) 0))
def Abg (st st1:St) (d:Nat) (s:Bn) (pl:List Nat) (tks:List (Nat×Loc)) (r:CKs.den s.outs):St:=
 let ks:=Jh s tks d
 let key:=Bl ks
 let st2:=Agw s.ins (Qp key 0 s.outs r) pl (st1.Rg (Acu tks++ks++(if s.flat then [] else Apm tks)) (whole tks))
 {st2 with heap:=Mn (Awb st (Acu tks)) key 0 s.outs r (Ar2 st2.heap (Ka d) (s.rp.map fun tid=> .var tid ((Qp key 0 s.outs r).drop s.Ol)))}
def Mh (st:St) (dst:Option Nat) (s:Bn) (args:List AV):Option (AV×St):=
 match Awl st s args with
 |none=>none
 |some (pl,vs,rest)=>match ungroup s.shapes rest with
 |none=>none
 |some as0=>match Vz st 0 s.ins (vs++as0) with
  |none=>none
  |some (x,tks)=>if Od (tks.map fun t=>t.2.lab)&&Ao4 (Jh s tks (dst.getD 0)) (s.outs.length+(Ac5 s (dst.getD 0)).length)&&Nat.blt s.outs.length 1000&&Nat.blt s.ins.length 1000&&(Ln s.ins vs&&pl.all fun l=>!((tks.map fun t=>t.2.lab)++Jh s tks (dst.getD 0)).contains l) then match s.fn x with
   |none=>none
   |some (r,o)=>match De s.ins o (vs++as0) st with
    |none=>none
    |some st1=>match Bbh s (dst.getD 0) ((Qp (Bl (Jh s tks (dst.getD 0))) 0 s.outs r).drop s.Ol) with
     |none=>none
     |some v=>if Su (Abg st st1 (dst.getD 0) s pl tks r).heap (Qi st.heap (Jh s tks (dst.getD 0)) tks s.keeps) (s.Ce x) st.tmps=true then
       some (v,Abv st (Abg st st1 (dst.getD 0) s pl tks r) (Qi st.heap (Jh s tks (dst.getD 0)) tks s.keeps) (s.Ce x)) else none
   else none
def Hj:List Operand→St→Option St
 | [],st=>some st
 |x::r,st=>match settle st (st.ev x) with
  |some (_,st')=>Hj r st'
  |none=>none
def Vg (s:Spec) (args:List AV):Bool:=!(s.fresh||s.res.flat||args.all (·.settled))
def evalOp (Γ:Env) (st:St) (o:Oper):Option (AV×St):=
 match o.op with
 | .assign x=>match st.ev x,o.dst,(T.elem o.type).bind fun te=>(T.ty te).map fun e=>(te,e) with
  | .at .nilv,some d,some (te,e)=>if d<Ag then some (.at (.own d 0 0),st.new d (.arr (T.fr0||e.flat) T.tr0 e te [])) else none
  |v,_,_=>some (v,st)
 | .alloc t=>match o.dst,T.ty t with
  |some d,some τ=>mkVar T st d t τ (zeroCells τ)
  |_,_=>none
 | .box t x=>match o.dst,T.ty t with
  |some d,some τ=>match cellsOf τ (st.ev x) with
   |some cs=>mkVar T st d t τ cs
   |none=>none
  |_,_=>none
 | .store t p x=>(Hr T st t (st.ev p) (st.ev x)).map fun s=>(.undef,s)
 | .makeSlice t l c=>match o.dst with
  |some d=>Mi T st d t (st.ev l) (st.ev c)
  |none=>none
 | .makeMap t none=>match o.dst with
  |some d=>Kv T st d t
  |none=>none
 | .mapUpdate t m k x=>(Du T st t (st.ev m) (st.ev k) (st.ev x)).map fun s=>(.undef,s)
 | .insert t m k x=>(Du T st t (st.ev m) (st.ev k) (st.ev x)).map fun s=>(.undef,s)
 | .buildSlice t len parts=>match o.dst with
  |some d=>Dq T st d t len parts
  |none=>none
 | .build t parts=>(Mg T st t parts).map fun v=>(v,st)
 | .call {callee:= .builtin .append,args,argTypes} =>match o.dst,args.toList,argTypes.toList with
  |some d,[x,y],[t,t']=>if t=t' then Ix T st d t x y else none
  |_,_,_=>none
 | .call {callee:= .builtin .copy,args,argTypes} =>match args.toList,argTypes.toList with
  | [x,y],[t,t']=>Xs T st t t' (st.ev x) (st.ev y)
  |_,_=>none
 | .call {callee:= .builtin .clear,args,argTypes} =>match args.toList,argTypes.toList with
  | [x],[t]=>(evalClear T st t (st.ev x)).map fun s=>(.undef,s)
  |_,_=>none
 | .call {callee:= .value (.func f),args, .. } =>match Γ f with
  |some (.m s)=>Mh st o.dst s (args.toList.map st.ev)
  |some (.q s)=>if Vg s (args.toList.map st.ev) then (match Hj args.toList st with
   |some st1=>(Bv T Γ st1 o).map fun v=>(v,st1)
   |none=>none) else (Bv T Γ st o).map fun v=>(v,st)
  |_=>(Bv T Γ st o).map fun v=>(v,st)
 |_=>(Bv T Γ st o).map fun v=>(v,st)
def Vj (e:Ty):Nat→List (Nat×Operand)→St→Option (Bool×List e.den)
 |_,[],_=>some (true,[])
 |i,(j,x)::r,st=>
  if i=j∧(st.ev x).settled=true then match Cf st e (st.ev x),Vj e (i+1) r st with
   |some (fr,y),some (fr',ys)=>some (fr&&fr',y::ys)
   |_,_=>none
  else none
def Qa (st:St) (t:TypeId) (len:Nat) (parts:Array (Nat×Operand)):Option AV:=
 match T.elem t with
 |none=>none
 |some te=>match T.ty te with
  |none=>none
  |some e=>if parts.size=len∧len≤64∧e.size≤64 then (Vj e 0 parts.toList st).map fun p=> .at (.data p.1 (.slice e) p.2) else none
def Nm (Γ:Env) (st:St) (o:Oper):Option AV:=
 match o.op with
 | .buildSlice t len parts=>Qa T st t len parts
 | .build t parts=>Mg T st t parts
 |_=>Bv T Γ st o
def Azn (q:Bool) (Γ:Env) (o:Oper):Bool:=
 match o.op with
 | .buildSlice _ _ _| .build _ _=>!q
 | .alloc _| .box _ _| .store _ _ _| .makeSlice _ _ _| .makeMap _ _| .mapUpdate _ _ _ _| .insert _ _ _ _=>true
 | .assign (.const _)=>true
 | .call {callee:= .builtin .append, .. } =>true
 | .call {callee:= .builtin .copy, .. } =>true
 | .call {callee:= .builtin .clear, .. } =>true
 | .call {callee:= .value (.func f), .. } =>match Γ f with
  |some (.m _)=>true
  |_=>false
 |_=>false
def Bw (Γ:Env) (ops:Array Oper) (st:St) (o:Oper):Option St:=
 match o.guard with
 |none=>(evalOp T Γ st o).map fun r=>r.2.put o.dst r.1
 |some (j,want)=>match Mc st ((ops[j]?).bind (·.dst)) with
  |some (some b)=>if b==want then (evalOp T Γ st o).map fun r=>r.2.put o.dst r.1 else some (st.put o.dst (.at .skip))
  |some none=>some (st.put o.dst (.at .skip))
  |none=>none
def Ov (Γ:Env) (ops:Array Oper):List Oper→St→Option St
 | [],st=>some st
 |o::r,st=>match Bw T Γ ops st o with
  |some st'=>Ov Γ ops r st'
  |none=>none
def Eb (q:Bool) (Γ:Env) (ops:Array Oper):List Nat:=
 (List.range ops.size).foldl (init:= []) fun acc i=>match ops[i]? with
  |some o=>if Azn q Γ o||o.after.any (fun e=>Region.binds .any e&&acc.contains e.on) then acc++ [i] else acc
  |none=>acc
def Ri (q:Bool) (Γ:Env) (ops:Array Oper):List Nat:=(List.range ops.size).filter fun i=>!(Eb q Γ ops).contains i
def Ad9 (ops:Array Oper) (hd tl:List Nat) (i:Nat):Bool:=
 match ops[i]? with
 |some o=>(match o.op,o.guard with
  | .move (.tmp _),none=>true
  |_,_=>false)&&!((tl.take 1++hd).any fun j=>decide (i<j)&&Region.waitsFor .any ops j i)
 |none=>false
def Lk (q:Bool) (Γ:Env) (ops:Array Oper):List Nat:=(Ri q Γ ops).filter fun i=>Ad9 ops (Ri q Γ ops) (Eb q Γ ops) i
def Lm (q:Bool) (Γ:Env) (ops:Array Oper):List Nat:=(Ri q Γ ops).filter fun i=>!Ad9 ops (Ri q Γ ops) (Eb q Γ ops) i
def Zu (q:Bool) (Γ:Env) (ops:Array Oper):List Nat:=Lk q Γ ops++Lm q Γ ops
def Ady (ops:Array Oper):List Nat→Array Bool→Bool
 | [],listed=>(Region.ready .any ops listed).isEmpty
 |k::r,listed=>decide (Region.ready .any ops listed= [k])&&Ady ops r (listed.setIfInBounds k true)
def Aer (ops:Array Oper) (tl:List Nat):List Nat→Array Bool→Bool
 | [],listed=>Ady ops tl listed
 |k::r,listed=>(Region.ready .any ops listed).contains k&&Region.free .any ops listed k&&Aer ops tl r (listed.setIfInBounds k true)
def Ac8 (ops:Array Oper) (hd:List Nat):List Nat→Bool
 | []=>true
 |f::r=>(hd.all fun i=>(f::hd).any fun j=>decide (i<j)&&Region.waitsFor .any ops j i)&&chain f r
where chain:Nat→List Nat→Bool
 |_,[]=>true
 |k,t::r=>Region.waitsFor .any ops t k&&chain t r
def Ad4 (ops:Array Oper) (tl hd:List Nat):List Nat→Array Bool→Bool
 | [],listed=>Aer ops tl hd listed
 |k::r,listed=>(Region.ready .any ops listed).contains k&&Region.free .any ops listed k&&Ad4 ops tl hd r (listed.setIfInBounds k true)
def Zz (q:Bool) (Γ:Env) (ops:Array Oper):Bool:=
 Region.noSelect ops&&((Lk q Γ ops).length+((Lm q Γ ops).length+(Eb q Γ ops).length)==ops.size)&&Ad4 ops (Eb q Γ ops) (Lm q Γ ops) (Lk q Γ ops) (Array.replicate ops.size false)&&Ac8 ops (Lm q Γ ops) (Eb q Γ ops)
def Wz (Γ:Env) (ops:Array Oper) (st:St) (o:Oper):Option AV:=
 match o.guard with
 |none=>Nm T Γ st o
 |some (j,want)=>match Mc st ((ops[j]?).bind (·.dst)) with
  |some (some b)=>if b==want then Nm T Γ st o else some (.at .skip)
  |some none=>some (.at .skip)
  |none=>none
def Dc (Γ:Env) (ops:Array Oper):List Nat→St→Option St
 | [],st=>some st
 |i::r,st=>match ops[i]? with
  |none=>none
  |some o=>match Wz T Γ ops st o with
   |some v=>Dc Γ ops r (st.put o.dst v)
   |none=>none
def Gz (Γ:Env) (ops:Array Oper):List Nat→St→Option St
 | [],st=>some st
 |i::r,st=>match ops[i]? with
  |none=>none
  |some o=>match Bw T Γ ops st o with
   |some st'=>Gz Γ ops r st'
   |none=>none
def Iy (Γ:Env) (ops:Array Oper) (draw:Bool) (st:St):Option St:=
 if draw then (if Zz false Γ ops then (match Dc T Γ ops (Zu false Γ ops) st with
  |some st'=>Gz T Γ ops (Eb false Γ ops) st'
  |none=>none) else if Zz true Γ ops then (match Dc T Γ ops (Zu true Γ ops) st with
  |some st'=>Gz T Γ ops (Eb true Γ ops) st'
  |none=>none) else none)
 else Ov T Γ ops ops.toList st
def Anz (ops:Array Oper) (i:Nat):Bool:=match ops[i]? with
 |some o=>(match o.op,o.guard with
  | .move (.tmp _),none=>true
  |_,_=>false)
 |none=>false
def Zx (ops:Array Oper) (i:Nat):Bool:=match ops[i]? with
 |some o=>(match o.op,o.guard with
  | .move (.tmp _),none=>true
  | .nilCheck _,none=>true
  | .fieldAddr _ _ _,none=>true
  |_,_=>false)
 |none=>false
def Bdn (q:Bool) (ops:Array Oper) (i:Nat):Bool:=match q with
 |true=>Zx ops i
 |false=>Anz ops i
def Dz (q:Bool) (ops:Array Oper):List Nat→Array Bool→List Nat
 | [],_=> []
 |i::r,listed=>if Bdn q ops i&&((Region.ready .any ops listed).contains i&&Region.free .any ops listed i) then i::Dz q ops r (listed.setIfInBounds i true) else Dz q ops r listed
def Azr (q:Bool) (ops:Array Oper):List Nat:=Dz q ops (List.range ops.size) (Array.replicate ops.size false)
def Zq (q:Bool) (ops:Array Oper):Bool:=Nat.ble (ops.size-(Azr q ops).length) 8
def Hw (ops:Array Oper):List Nat:=Azr (!Zq false ops) ops
def Dg:List Nat→Array Bool→Array Bool
 | [],listed=>listed
 |i::r,listed=>Dg r (listed.setIfInBounds i true)
def anyS (Γ:Env) (ops:Array Oper) (K:St→Prop):Nat→Array Bool→St→Prop
 |0,listed,st=>Region.ready .any ops listed= []∧K st
 |f+1,listed,st=>Region.ready .any ops listed≠ []∧ ∀i∈Region.ready .any ops listed,∃o st',ops[i]?=some o∧Bw T Γ ops st o=some st'∧anyS Γ ops K f (listed.setIfInBounds i true) st'
def An6 (Γ:Env) (ops:Array Oper) (draw:Bool) (st:St) (K:St→Prop):Prop:=
 (∃st',Iy T Γ ops draw st=some st'∧K st')∨
 (draw=true∧Region.noSelect ops=true∧ ∃st0,Dc T Γ ops (Hw ops) st=some st0∧anyS T Γ ops K (ops.size-(Hw ops).length) (Dg (Hw ops) (Array.replicate ops.size false)) st0)
def Aos (Γ:Env) (draw:Bool):Env:=fun f=>match Γ f with
 |some (.b s m)=>some (if draw then .q s else .m m)
 |r=>r
inductive Ez where
 |normal
 |exit (id:Nat)
 |ret
def Ej (live:List Nat):Nat→List AV→List AV
 |_,[]=> []
 |i,v::r=>(if live.contains i then v else .undef)::Ej live (i+1) r
def AV.refs:AV→List Nat
 | .at a=>a.refs
 | .agg cs=>cs.flatMap AC.refs
 | .tup _ _ _=> []
 | .tupc l=>l.flatMap fun p=>p.2.flatMap AC.refs
def OB.refs:OB→List Nat
 | .var _ vs=>vs.flatMap AC.refs
 |_=> []
def Th:List Nat→St→St
 | [],st=>st
 |l::r,st=>Th r (st.forget l)
def Af8 (l k m:Nat):Nat:=if m=l then k else m
def Lc (l k:Nat):AC→AC
 | .own m off len=> .own (Af8 l k m) off len
 | .vptr m i=> .vptr (Af8 l k m) i
 | .eptr m i=> .eptr (Af8 l k m) i
 | .clo f caps=> .clo f (caps.map fun p=>(Af8 l k p.1,p.2))
 | .mapr m=> .mapr (Af8 l k m)
 | .sub m i c=> .sub (Af8 l k m) i c
 | .sptr m i c=> .sptr (Af8 l k m) i c
 |a=>a
def St.rename (l k:Nat) (st:St):St:=
 match Ac st.heap k,Ac st.heap l with
 |none,some b=>if (Nat.blt l Ag&&Nat.blt k Ag)=true then
   (let s:=st.Es (Lc l k); {s with heap:=Gy (Oj s.heap l) k (b.map (Lc l k))}) else st
 |_,_=>st
def Fu:Nat→Nat→St→St
 |0,_,st=>st
 |n+1,t,st=>Fu n (t+1) (match st.get t with
  | .at (.own l _ _)=>match Ac st.heap l with
   |some (.arr _ _ _ _ _)=>if (st.tmps.take t).any (fun v=>v.refs.contains l) then st else st.rename l (700000+t)
   |_=>st
  |_=>st)
def Rp:Nat:=1000000007
def OB.Dv (flat all:Bool):OB→OB
 | .arr fr tr e tid xs=> .arr (fr&&!(all||(flat&&e.flat))) (tr&&!all) e tid xs
 |b=>b
def Nz:Nat:=1000000009
def Atb:Nat:=1100000000
def St.Dv (live:List Nat) (st:St):St:= {st with heap:=st.heap.map fun p=>(p.1,p.2.Dv (live.contains Nz) (live.contains (Atb+p.1)))}
def Jc:Nat:=900000000
def Qq (t:Nat) (st:St):St:=match st.get t with
 | .at (.own l off len)=>match Ac st.heap l with
  |some (.arr fr tr e tid xs)=>if Nat.blt l Ag=true then (st.new l (.arr fr tr e tid ((xs.drop off).take len))).put (some t) (.at (.own l 0 ((xs.drop off).take len).length)) else st
  |_=>st
 |_=>st
def Hi (live:List Nat):Nat→Nat→St→St
 |0,_,st=>st
 |n+1,t,st=>Hi live n (t+1) (if live.contains (Jc+t) then Qq t st else st)
def St.clean (live:List Nat) (st:St):St:=
 let s:St:= {st with tmps:=Ej live 0 st.tmps}
 let r1:=s.tmps.flatMap AV.refs
 let r2:=r1++(s.heap.filter fun p=>r1.contains p.1).flatMap fun p=>p.2.refs
 let s2:=Th ((s.heap.map (·.1)).filter fun l=>!r2.contains l&&Nat.blt l Ag) s
 let s2:=if live.any (fun t=>Nat.ble Jc t&&Nat.blt t Rp) then Hi live s2.tmps.length 0 s2 else s2
 let s3:=if live.contains Rp then Fu s2.tmps.length 0 s2 else s2
 if live.any (fun t=>Nat.ble Nz t) then s3.Dv live else s3
def Bt:Code→Nat
 | .region id _ _=>id
 | .seq a _=>Bt a
 | .cond _ a _=>Bt a
 | .block _ c=>Bt c
 | .loop c=>1000+Bt c
 |_=>0
def Bc7 (a b:List Nat):List Nat:=a++b.filter fun t=>!a.contains t
def Ao8:List Oper→List Nat→List Nat
 | [],out=>out
 |o::r,out=>Bc7 (o.op.operands.toList.filterMap fun| .tmp t=>some t|_=>none) (match o.dst with|some d=>(Ao8 r out).filter (·!=d)|none=>Ao8 r out)
def Au0:List (Nat×List Nat)→Nat→List Nat
 | [],_=> []
 |(k,l)::r,id=>if k=id then l else Au0 r id
def Ag5:Code→List (Nat×List Nat)→List Nat→List Nat→List Nat×List (Nat×List Nat)
 | .region _ ops _,_,_,out=>(Ao8 ops.toList out,[])
 | .seq a b,env,ret,out=>let rb:=Ag5 b env ret out;let ra:=Ag5 a env ret rb.1;(ra.1,ra.2++rb.2)
 | .cond c a b,env,ret,out=>let ra:=Ag5 a env ret out;let rb:=Ag5 b env ret out
  (Bc7 (match c with| .tmp t=> [t]|_=> []) (Bc7 ra.1 rb.1),ra.2++rb.2)
 | .block id c,env,ret,out=>Ag5 c ((id,out)::env) ret out
 | .exit id,env,_,_=>(Au0 env id,[])
 | .ret,_,ret,_=>(ret,[])
 | .loop c,env,ret,_=>let l:=(Ag5 c env ret []).1;let r:=Ag5 c env ret l;(l,(Bt c,l)::r.2)
 |_,_,_,out=>(out,[])
def Ao9:List ResultVar→List Nat
 | []=> []
 | .tmp t::r=>t::Ao9 r
 | .cell p _::r=>p::Ao9 r
def Ao7 (marks:List Nat) (fn:Func) (c:Code):Nat→List Nat:=let ret:=Ao9 fn.results.toList;let g:=Au0 (Ag5 c [] ret ret).2;match marks with
 | []=>g
 |m=>fun id=>g id++m
def Auq (K:St→Prop) (Q:Ez→St→Prop):Ez→St→Prop
 | .normal,s=>K s
 |e,s=>Q e s
def Am0 (id:Nat) (Q:Ez→St→Prop):Ez→St→Prop
 | .exit id',s=>if id'=id then Q .normal s else Q (.exit id') s
 |e,s=>Q e s
inductive Gx (Γ:Env) (live:Nat→List Nat):Code→St→(Ez→St→Prop)→Prop where
 |skip {st:St} {Q:Ez→St→Prop} :Q .normal st→Gx Γ live .skip st Q
 |label {l:Nat} {st:St} {Q:Ez→St→Prop} :Q .normal st→Gx Γ live (.label l) st Q
 |exit {id:Nat} {st:St} {Q:Ez→St→Prop} :Q (.exit id) st→Gx Γ live (.exit id) st Q
 |ret {st:St} {Q:Ez→St→Prop} :Q .ret st→Gx Γ live .ret st Q
 |region {id:Nat} {ops:Array Oper} {draw:Bool} {st:St} {Q:Ez→St→Prop} :An6 T (Aos Γ draw) ops draw st (Q .normal)→Gx Γ live (.region id ops draw) st Q
 |seq {x y:Code} {st:St} {Q:Ez→St→Prop} (Q1:Ez→St→Prop):Gx Γ live x st Q1→(∀s,Q1 .normal s→Gx Γ live y s Q)→(∀e s,e≠ .normal→Q1 e s→Q e s)→Gx Γ live (.seq x y) st Q
 |cond {c:Operand} {x y:Code} {st:St} {fr t:Bool} {Q:Ez→St→Prop} :st.ev c= .at (.data fr .bool t)→(t=true→Gx Γ live x st Q)→(t=false→Gx Γ live y st Q)→Gx Γ live (.cond c x y) st Q
 |block {id:Nat} {c:Code} {st:St} {Q:Ez→St→Prop} (Q1:Ez→St→Prop):Gx Γ live c st Q1→(∀e s,Q1 e s→Am0 id Q e s)→Gx Γ live (.block id c) st Q
 |loop {c:Code} {st:St} {Q:Ez→St→Prop} (Q1:Ez→St→Prop):Gx Γ live c (st.clean (live (Bt c))) Q1→(∀s,Q1 .normal s→Gx Γ live (.loop c) s Q)→(∀e s,e≠ .normal→Q1 e s→Q e s)→Gx Γ live (.loop c) st Q
def Sq (st:St):List ResultVar→Option (List AV)
 | []=>some []
 | .tmp t::r=>(Sq st r).map fun l=>st.get t::l
 | .cell p t::r=>match Ic T st t (st.get p),Sq st r with
  |some v,some l=>some (v::l)
  |_,_=>none
def Ad2 (s:Spec) (fn:Func) (st:St):Option (Bool×s.res.den):=
 match Sq T st fn.results.toList with
 |some [v]=>if s.multi then none else Cf st s.res v
 |some [v,u]=>if s.multi then Bi st s.res [v,u] else none
 |some [v,u,t]=>if s.multi then Bi st s.res [v,u,t] else none
 |_=>none
def Jp:(τ:Ty)→τ.den→List AV
 | .pair a r,x=> .at (.data a.flat a x.1)::Jp r x.2
 |_,_=> []
def Aab (st:St):(c:CK)→AC→Option (c.den×List Nat)
 | .dat τ,a=>if τ.flat||a.settled then (Bf st τ a).map fun p=>(p.2,[]) else none
 | .row e te, .own l off len=>match st.at l with
  |some (.arr _ _ e' te' xs)=>if h:e'=e∧te'=te then some ((((h.1▸xs:List e.den).drop off).take len),[l]) else none
  |_=>none
 | .row _ _, .nilv=>some ([],[])
 | .xrow e te, .own l off len=>match st.at l with
  |some (.arr _ tr e' te' xs)=>if h:e'=e∧te'=te∧(tr||e.flat)=true then some ((((h.1▸xs:List e.den).drop off).take len),[l]) else none
  |some (.xarr e' te' xs)=>if h:e'=e∧te'=te then some ((((h.1▸xs:List e.den).drop off).take len),[l]) else none
  |_=>none
 | .xrow _ _, .nilv=>some ([],[])
 | .grid e te _, .own l off len=>match st.at l with
  |some (.grid e' te' rows none _)=>if h:e'=e∧te'=te∧off=0∧len=rows.length then some ((h.1▸rows:List (List e.den)),[l]) else none
  |_=>none
 |_,_=>none
def Lb (st:St):(cs:List CK)→List AC→Option (CKs.den cs×List Nat)
 | [],[]=>some ((),[])
 |c::r,a::as=>match Aab st c a,Lb st r as with
  |some (x,t1),some (y,t2)=>some ((x,y),t1++t2)
  |_,_=>none
 |_,_=>none
def Afs (st:St) (l:Nat):(c:CK)→Option c.den
 | .dat _=>none
 | .row e te=>match st.at l with
  |some (.arr _ _ e' te' xs)=>if h:e'=e∧te'=te then some (h.1▸xs) else none
  |_=>none
 | .xrow e te=>match st.at l with
  |some (.xarr e' te' xs)=>if h:e'=e∧te'=te then some (h.1▸xs) else none
  |_=>none
 | .part _ _=>none
 | .grid _ _ _=>none
def Hc (st:St):(k:Nat)→(cs:List (Bool×CK))→Option (IOs.den cs)
 |_,[]=>some ()
 |k,(true, .dat _)::r=>Hc st (k+1) r
 |k,(true, .grid _ _ _)::r=>Hc st (k+1) r
 |k,(true, .row e te)::r=>match Afs st (Bj true k) (.row e te),Hc st (k+1) r with
  |some x,some y=>some (x,y)
  |_,_=>none
 |k,(true, .xrow e te)::r=>match Afs st (Bj true k) (.xrow e te),Hc st (k+1) r with
  |some x,some y=>some (x,y)
  |_,_=>none
 |k,(true, .part e te)::r=>match Afs st (Bj true k) (.row e te),Hc st (k+1) r with
  |some x,some y=>some (x,y)
  |_,_=>none
 |k,(false,_)::r=>Hc st (k+1) r
def Ht:(k:Nat)→List (Bool×CK)→List Nat
 |_,[]=> []
 |k,(true, .dat _)::r=>Ht (k+1) r
 |k,(true, .grid _ _ _)::r=>Ht (k+1) r
 |k,(true,_)::r=>Bj true k::Ht (k+1) r
 |k,(false,_)::r=>Ht (k+1) r
def Jf:Nat:=1900000000
def Dy:(k:Nat)→List (Bool×CK)→List AC→Option (List AC)
 |_,_,[]=>some []
 |k,(true, .row _ _)::r, .own l _ _::as=>if Nat.beq l (Bj true k) then Dy (k+1) r as else none
 |k,(true, .xrow _ _)::r, .own l _ _::as=>if Nat.beq l (Bj true k) then Dy (k+1) r as else none
 |k,(false,_)::r,a::as=>(Dy (k+1) r as).map fun l=>a::l
 |_,_,_=>none
def Yd (st:St):List AC→List (Bool×CK)→Prop
 | .own l off len::as,(true,_)::r=>(off=0∧match st.at l with
  |some (.arr _ _ _ _ xs)=>len=xs.length
  |some (.xarr _ _ xs)=>len=xs.length
  |_=>False)∧Yd st as r
 |_::as,(false,_)::r=>Yd st as r
 |_,_=>True
def Av7 (s:Bn) (st:St) (l:List AV):Option (List AC×List Nat):=match s.rp with
 |none=>if s.multi=Nat.blt 1 l.length then (ungroup s.rshapes l).map fun as=>(as,[]) else none
 |some tid=>match l with
  | [.at (.vptr m i)]=>match st.at m with
   |some (.var tid' vs)=>if tid'=tid∧i=0∧Nat.blt m Ag=true then some (vs,[m]) else none
   |_=>none
  |_=>none
def Am5 (st:St) (n:Nat) (as:List AC):List (Nat×Nat)→Prop
 | []=>True
 |(k,j)::r=>(match as[j]? with
  |some (.own l _ _)=>match st.at l with
   |some (.grid _ _ _ _ (some p))=>p.1=Bj false k∧n≤p.2∧Nat.blt k 1000=true
   |_=>False
  |_=>False)∧Am5 st n as r
def Aa1 (s:Bn) (fn:Func) (x:Ins.den s.ins) (st:St) (cs:List AC) (P:CKs.den s.outs×IOs.den s.ins→Prop):Prop:=
 match Sq T st fn.results.toList with
 |none=>False
 |some l=>match Av7 s st l with
  |none=>False
  |some (as,ml)=>match Lb st s.outs (cs++as),Hc st 0 s.ins with
   |some (r,ls),some o=>(Od (ml++ls++Ht 0 s.ins)&&Nat.blt s.ins.length 1000&&Nat.blt s.outs.length 1000&&s.Azq)=true∧Am5 st (s.Ce x) (cs++as) s.keeps∧P (r,o)
   |_,_=>False
def Ayw (s:Bn) (fn:Func) (x:Ins.den s.ins) (st:St) (P:CKs.den s.outs×IOs.den s.ins→Prop):Prop:=
 match s.ptr with
 |none=>Aa1 T s fn x st [] P
 |some p=> ∃vs cs,st.at Jf=some (.var p.1 vs)∧vs.length=p.2∧Dy 0 s.ins vs=some cs∧Yd st vs s.ins∧Aa1 T s fn x st cs P
def Ok (s:Bn) (as:List AC):List AV:=match s.ptr with
 |none=>Ju s.shapes as
 |some p=> .at (.vptr Jf 0)::Ju s.shapes (as.drop p.2)
def Ag1 (s:Bn) (x:Ins.den s.ins):List (Nat×OB):=match s.ptr with
 |none=>Nr 0 s.ins x
 |some p=>Nr 0 s.ins x++ [(Jf, .var p.1 ((Qg 0 s.ins x).take p.2))]
def Nv:List (Bool×CK)→Bool
 | []=>true
 |(true, .grid _ _ _)::_=>false
 |_::r=>Nv r
def Aoo (s:Bn):Bool:=Nv s.ins&&match s.ptr with
 |none=>true
 |some p=>Nat.ble p.2 s.ins.length
def Bbz (Γ:Env) (s:Bn) (fn:Func) (x:Ins.den s.ins) (P:CKs.den s.outs×IOs.den s.ins→Prop):Prop:=
 (Nat.blt s.ins.length 1000&&Aoo s)=true∧ ∃c,fn.body=some c∧Gx T Γ (Ao7 T.marks fn c) c {tmps:=Ok s (Qg 0 s.ins x)++List.replicate (fn.ntmps-(Ok s (Qg 0 s.ins x)).length) .undef,heap:=Ag1 s x}
  (fun e st=>(∀id,e≠ .exit id)∧Ayw T s fn x st P)
def Ayx (Γ:Env) (s:Spec) (fn:Func) (x:s.arg.den) (P:s.res.den→Prop):Prop:=
 ∃c,fn.body=some c∧Gx T Γ (Ao7 T.marks fn c) c {tmps:=Jp s.arg x++List.replicate (fn.ntmps-(Jp s.arg x).length) .undef,heap:= []}
  (fun e st=>(∀id,e≠ .exit id)∧ ∃fr y,Ad2 T s fn st=some (fr,y)∧(fr||!s.fresh)=true∧P y)
end Go.Proofs.Ytebabhocakedaaa
