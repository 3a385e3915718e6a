/-
  Part 3 of the proof that the statement FnExactSubsetPuzzle holds.
-/
import Derived.Test.YtebabhocakedaaaCSubsetPuzzle01
namespace Go.Proofs.Ytebabhocakedaaa
open Go.RowKit
def Cy:Nat→St→List AC→Option (List AC×St)
 |0,st,cs=>if cs.all (·.settled) then some (cs,st) else none
 |n+1,st,cs=>
  match cs.find? (fun c=>!c.settled) with
  |none=>some (cs,st)
  |some (.own l _ _)=>match st.at l with
   |some (.arr fr _ e _ xs)=>Cy n (st.freeze l fr e xs) (cs.map (Av l fr e xs))
   |some (.xarr e _ xs)=>Cy n (st.freeze l false e xs) (cs.map (Av l false e xs))
   |_=>none
  |some (.mapr l)=>match st.at l with
   |some (.smp v m)=>Cy n (st.Dp l v m) (cs.map (Ct l v m))
   |_=>none
  |some _=>none
def settle (st:St):AV→Option (AV×St)
 | .at (.own l off len)=>match st.at l with
  |some (.arr fr _ e _ xs)=>some (.at (.data fr (.slice e) ((xs.drop off).take len)),st.freeze l fr e xs)
  |some (.xarr e _ xs)=>some (.at (.data false (.slice e) ((xs.drop off).take len)),st.freeze l false e xs)
  |_=>none
 | .at (.mapr l)=>match st.at l with
  |some (.smp v m)=>some (.at (.data false (.smap v) m),st.Dp l v m)
  |_=>none
 | .at a=>if a.settled then some (.at a,st) else none
 | .agg cs=>(Cy cs.length st cs).map fun p=>(.agg p.1,p.2)
 | .tup fr τ x=>some (.tup fr τ x,st)
 | .tupc _=>none
def AC.refs:AC→List Nat
 | .own l _ _| .vptr l _| .eptr l _| .mapr l| .sub l _ _| .sptr l _ _=> [l]
 | .clo _ caps=>caps.map (·.1)
 |_=> []
def Ov:List Nat→Bool
 | []=>true
 |a::r=>!r.contains a&&Ov r
def Ty.tree:Ty→Bool
 | .int _| .bool| .str| .unit=>true
 | .slice e=>e.tree
 | .pair a r=>a.tree&&r.tree
 |_=>false
def Jr (st:St):AC→Bool
 | .data _ τ _=>τ.flat
 | .nilv=>true
 | .own l _ _=>match st.at l with
  |some (.arr _ tr e _ _)=>tr||e.flat
  |some (.xarr _ _ _)=>true
  |_=>false
 |_=>false
def Kl (st:St):AV→Bool
 | .at a=>Jr st a
 | .agg cs=>cs.all (Jr st)&&Ov (cs.flatMap AC.refs)
 |_=>false
def Ae:Nat:=1000000000
variable (T:Tab)
def Axe (t:TypeId) (τ:Ty) (i:Nat):Option TypeId:=
 if τ.Ab then (List.range 24).findSome? fun f=>match T.off t f with
  |some (o,u)=>if o=i then some u else none
  |none=>none
 else some t
def Tab.Axm (te:TypeId):Option Ty:=if T.grids.contains te then (match T.ty te with
 |some (.slice e)=>some e
 |_=>none) else none
def Tp (te:TypeId) (e:Ty):OB:=match T.Axm te with
 |some e'=> .grid e' te [] none none
 |none=> .arr (T.fr0||e.flat) T.tr0 e te []
def Lk (b:OB) (key l i:Nat) (st:St):St:=
 match st.at l with
 |some (.var _ vs)=>match vs[i]? with
  |some .nilv=>
   let s1:=st.new key b
   match s1.at l with
   |some (.var tid vs')=>s1.En l (.var tid (Lm vs' i (.own key 0 0)))
   |_=>s1
  |_=>st
 |_=>st
def Wb (l:Nat) (t:TypeId) (τ:Ty):Nat→Nat→St→St
 |0,_,st=>st
 |n+1,i,st=>
  Wb l t τ n (i+1) (match ((Axe T t τ i).bind T.elem).bind fun te=>(T.ty te).map fun e=>(te,e) with
   |some (te,e)=>Lk (Tp T te e) (100000+l*100+i) l i st
   |none=>st)
def Ui (l off:Nat) (t:TypeId) (τ:Ty):Nat→Nat→St→St
 |0,_,st=>st
 |n+1,i,st=>
  Ui l off t τ n (i+1) (match ((Axe T t τ i).bind T.elem).bind fun te=>(T.ty te).map fun e=>(te,e) with
   |some (te,e)=>Lk (Tp T te e) (100000+l*100+(off+i)) l (off+i) st
   |none=>st)
def zeroCells:(τ:Ty)→List AC
 | .unit=> []
 | .pair a r=>zeroCells a++zeroCells r
 | .slice _=> [.nilv]
 | .oslice _=> [.nilv]
 | .ptr _=> [.nilp]
 | .optr _=> [.nilp]
 | .clo _ _=> [.undef]
 |τ=> [.data true τ τ.zero]
def cellsOf (τ:Ty):AV→Option (List AC)
 | .agg cs=>if τ.Ab&&cs.length==τ.size then some cs else none
 | .at (.data fr τ' x)=>if τ'=τ then some (Nt fr τ' x) else none
 | .at .undef=>none
 | .at .skip=>none
 | .at a=>if τ.Ab then none else some [a]
 |_=>none
def mkVar (st:St) (l:Nat) (t:TypeId) (τ:Ty) (cs:List AC):Option (AV×St):=
 if Ae≤100000+l*100+cs.length then none else
 let s:=Wb T l t τ cs.length 0 (st.new l (.var t (cs.map (Au l))))
 match s.at l with
 |some (.var _ _)=>some (.at (.vptr l 0),s)
 |_=>none
def Bk {α:Type} (xs:List α) (i:Nat) (ys:List α):List α:=xs.take i++ys++xs.drop (i+ys.length)
def Lo (st:St) (t:TypeId) (p v:AV):Option St:=
 match T.ty t,p with
 |some τ, .at (.vptr l i)=>match st.at l,cellsOf τ v with
  |some (.var tid vs),some cs=>if i+cs.length≤vs.length then some (if τ.Ab&&Nat.blt (100000+l*100+(i+cs.length)) Ae then Ui T l i t τ cs.length 0 (st.En l (.var tid (Bk vs i cs))) else st.En l (.var tid (Bk vs i cs))) else none
  |_,_=>none
 |some τ, .at (.eptr l j)=>match settle st v with
  |some (v',st')=>match st'.at l,Cj st' τ v' with
   |some (.arr fr tr e tid xs),some (fr',x)=>if h:τ=e then (if j<xs.length then some (st'.En l (.arr (fr&&fr') (tr&&(Kl st v&&e.tree)) e tid (xs.set j (h▸x)))) else none) else none
   |_,_=>none
  |none=>none
 |_,_=>none
def Am:Nat:=4294967296
def Gu (st:St) (dst:Nat) (t:TypeId) (x y:Operand):Option (AV×St):=
 match T.elem t with
 |none=>none
 |some te=>match T.ty te,settle st (st.ev y) with
  |some e,some (y',st')=>match Cj st' (.slice e) y' with
   |none=>none
   |some (fr2,ys)=>
    let tr2:=e.flat||(Kl st (st.ev y)&&e.tree)
    match st'.ev x with
    | .at .nilv=>if ys.length≤Am∧dst<Ae then some (.at (.own dst 0 (0+ys.length)),(st'.new dst (.arr (T.fr0||e.flat) T.tr0 e te [])).new dst (.arr ((T.fr0||e.flat)&&(fr2||e.flat)) (T.tr0&&tr2) e te (((([]:List e.den).drop 0).take 0)++ys))) else none
    | .at (.own l off len)=>match st'.at l with
     |some (.arr fr tr e' tid xs)=>if h:e'=e∧tid=te then
       (if len+ys.length≤Am∧l<Ae then
        some (.at (.own l 0 (len+ys.length)),st'.new l (.arr (fr&&(fr2||e.flat)) (tr&&tr2) e te ((((h.1▸xs:List e.den).drop off).take len)++ys))) else none)
      else none
     |_=>none
    |_=>none
  |_,_=>none
def Il (st:St) (l i m:Nat) (e:Ty) (te tid:TypeId) (rows:List (List e.den)) (kp:Option (Nat×Nat)):St:=
 (st.En l (.grid e te rows (some i) kp)).new m (.arr false false e tid (rows.getD i []))
def Jk (st:St) (dst:Nat) (t:TypeId) (x y:Operand):Option (AV×St):=
 match x with
 | .tmp tx=>match st.get tx with
  | .at (.sub l i _)=>match st.at l,T.elem t with
   |some (.grid e te rows none kp),some tid=>if (Nat.blt l Ae&&(Nat.blt dst Ae&&!Nat.beq dst l))=true then Gu T ((Il st l i dst e te tid rows kp).put (some tx) (.at (.own dst 0 (rows.getD i []).length))) dst t x y else none
   |_,_=>none
  |_=>Gu T st dst t x y
 |_=>Gu T st dst t x y
def Ad2:Ty→Bool
 | .int _| .bool| .str| .slice _| .oslice _=>true
 |_=>false
def Wt:Ty→Bool
 | .unit=>true
 | .pair a r=>Wt a&&Wt r
 |e=>Ad2 e
def Qr (st:St) (dst:Nat) (t:TypeId) (l c:AV):Option (AV×St):=
 match T.elem t,l,c with
 |some te, .at (.data _ (.int _) n), .at (.data _ (.int _) m)=>match T.ty te with
  |some e=>if inb n (Am+1)=true∧n=m∧Wt e=true∧dst<Ae then some (.at (.own dst 0 n.toNat),st.new dst (.arr (T.fr0||e.flat) (T.tr0&&e.tree) e te (List.replicate n.toNat e.zero))) else none
  |none=>none
 |_,_,_=>none
def Fb (e:Ty):Nat→List (Nat×Operand)→St→Option (Bool×Bool×List e.den×St)
 |_,[],st=>some (true,true,[],st)
 |i,(j,x)::r,st=>
  if i=j then match settle st (st.ev x) with
   |some (v,st')=>match Cj st' e v with
    |some (fr,y)=>match Fb e (i+1) r st' with
     |some (fr',tr',ys,st'')=>some (fr&&fr',Kl st (st.ev x)&&e.tree&&tr',y::ys,st'')
     |none=>none
    |none=>none
   |none=>none
  else none
def Fv (st:St) (dst:Nat) (t:TypeId) (len:Nat) (parts:Array (Nat×Operand)):Option (AV×St):=
 match T.elem t with
 |none=>none
 |some te=>match T.ty te with
  |none=>none
  |some e=>if parts.size=len∧len≤64∧e.size≤64∧dst<Ae then (match Fb e 0 parts.toList st with
   |some (fr,tr,ys,st')=>some (.at (.own dst 0 len),st'.new dst (.arr ((T.fr0||e.flat)&&fr) (T.tr0&&tr) e te ys))
   |none=>none) else none
def Ln (st:St) (dst:Nat) (t:TypeId):Option (AV×St):=
 match T.mapOf t with
 |some v=>if dst<Ae then some (.at (.mapr dst),st.new dst (.smp v fun _=>none)) else none
 |none=>none
def Eo {α:Type} (m:ByteArray→Option α) (k:ByteArray) (x:α):ByteArray→Option α:=fun s=>if s=k then some x else m s
def Dw (st:St) (t:TypeId) (m k x:AV):Option St:=
 match T.mapOf t,m,k with
 |some v, .at (.mapr l), .at (.data _ .str s)=>match st.at l,Cj st v x with
  |some (.smp v' f),some (_,y)=>if h:v'=v∧v.flat=true∧v.Ab=false then some (st.En l (.smp v (Eo (h.1▸f:ByteArray→Option v.den) s y))) else none
  |_,_=>none
 |_,_,_=>none
def Yj (st:St) (t t':TypeId) (x y:AV):Option (AV×St):=
 match x,(T.elem t).bind T.ty with
 | .at (.own l off len),some e=>if T.elem t=T.elem t'∧e.flat=true∧e.size=1 then match st.at l,Cj st (.slice e) y with
  |some (.arr fr _ e' tid xs),some (_,ys)=>if h:e'=e∧T.elem t=some tid then
    some (.at (.data true (.int .i64) (min len ys.length:Nat)),st.En l (.arr fr false e tid (Bk (h.1▸xs:List e.den) off (ys.take len))))
   else none
  |_,_=>none
  else none
 |_,_=>none
def evalClear (st:St) (t:TypeId) (x:AV):Option St:=
 match x,(T.elem t).bind T.ty with
 | .at (.own l off len),some e=>if e.flat=true∧Ad2 e=true then match st.at l with
  |some (.arr fr _ e' tid xs)=>if h:e'=e∧T.elem t=some tid then
    some (st.En l (.arr fr false e tid (Bk (h.1▸xs:List e.den) off (List.replicate len e.zero))))
   else none
  |_=>none
  else none
 |_,_=>none
def Ft (st:St) (t:TypeId):List (Nat×Operand)→List AC→Option (List AC)
 | [],cs=>some cs
 |(i,x)::r,cs=>
  match T.off t i with
  |some (o,u)=>match T.ty u with
   |some ρ=>match cellsOf ρ (st.ev x) with
    |some c=>if o+c.length≤cs.length then Ft st t r (Bk cs o c) else none
    |none=>none
   |none=>none
  |none=>none
def Mz (st:St) (t:TypeId) (parts:Array (Nat×Operand)):Option AV:=
 match T.ty t with
 |none=>none
 |some τ=>if τ.Ab then (Ft T st t parts.toList (zeroCells τ)).map .agg else none
def Bm (io:Bool) (k:Nat):Nat:=if io then 1000000000+k else 500000+k
def Ei (k:Nat):Nat:=600000+k
def Baz (dst:Nat) (k:Nat):Nat:=1000000*(dst+1)+k
def Kg:List (Option Nat)→List AC→List AV
 |none::s,a::as=> .at a::Kg s as
 |some n::s,as=> .agg (as.take n)::Kg s (as.drop n)
 |_,_=> []
def Fc:List (Option Nat)→List Value→List Value
 |none::s,u::us=>u::Fc s us
 |some n::s,us=> .agg (us.take n).toArray::Fc s (us.drop n)
 |_,_=> []
def ungroup:List (Option Nat)→List AV→Option (List AC)
 | [],[]=>some []
 |none::s, .at a::as=>(ungroup s as).map fun r=>a::r
 |some n::s, .agg cs::as=>if cs.length=n then (ungroup s as).map fun r=>cs++r else none
 |_,_=>none
def Aaz (l:Nat):(c:CK)→c.den→Option OB
 | .dat _,_=>none
 | .row e te,xs=>some (.arr false false e te xs)
 | .xrow e te,xs=>some (.xarr e te xs)
 | .part e te,x=>some (.arr false false e te x.1)
 | .grid e te kp,xs=>some (.grid e te xs none (if kp then some (l,List.length xs) else none))
def Bfn (l:Nat):(c:CK)→c.den→AC
 | .dat τ,x=> .data τ.flat τ x
 | .row _ _,xs=> .own l 0 (List.length xs)
 | .xrow _ _,xs=> .own l 0 (List.length xs)
 | .part _ _,x=> .own l x.2.1 x.2.2
 | .grid _ _ _,xs=> .own l 0 (List.length xs)
def Yd {α:Type} (l:Nat):Option α→List (Nat×α)→List (Nat×α)
 |none,r=>r
 |some b,r=>(l,b)::r
def Of:(k:Nat)→(cs:List (Bool×CK))→Ins.den cs→List (Nat×OB)
 |_,[],_=> []
 |k,p::r,x=>Yd (Bm p.1 k) (Aaz (Bm p.1 k) p.2 x.1) (Of (k+1) r x.2)
def Qw:(k:Nat)→(cs:List (Bool×CK))→Ins.den cs→List AC
 |_,[],_=> []
 |k,p::r,x=>Bfn (Bm p.1 k) p.2 x.1::Qw (k+1) r x.2
inductive Loc where
 |row (l:Nat)
 |sub (l i c:Nat)
 |view (l:Nat)
 deriving DecidableEq
def Loc.lab:Loc→Nat
 | .row l=>l
 | .sub l _ _=>l
 | .view l=>l
def Loc.reads:Loc→Bool
 | .view _=>true
 |_=>false
def Ro (st:St) (ls:List Nat):Bool:=ls.all fun l=>match st.at l with|some (.var _ vs)=>vs.all (·.settled)|_=>false
def views (k:Nat) (ls:List Nat):List (Nat×Loc):=ls.map fun l=>(Bm false k, .view l)
def Fm (st:St) (io:Bool) (k:Nat):(c:CK)→AC→Option (c.den×List (Nat×Loc))
 | .dat τ, .own l off len=>(Bh st τ (.own l off len)).map fun p=>(p.2,[(Bm false k, .view l)])
 | .dat τ, .clo g caps=>if Ro st (caps.map (·.1))&&!τ.Ab then (Ef st τ (.clo g caps)).map fun p=>(p.2,views k (caps.map (·.1))) else none
 | .dat τ, .vptr l i=>if Ro st [l]&&!τ.Ab then (Ef st τ (.vptr l i)).map fun p=>(p.2,views k [l]) else none
 | .dat τ, .sub l i c=>(Bh st τ (.sub l i c)).map fun p=>(p.2,[(Bm false k, .view l)])
 | .dat τ,a=>if τ.flat||a.settled then (Bh st τ a).map fun p=>(p.2,[]) else none
 | .row e te, .own l off len=>match st.at l with
  |some (.arr _ _ e' te' xs)=>if h:e'=e∧te'=te∧off=0∧len=xs.length then some ((h.1▸xs:List e.den),[(Bm io k, .row l)]) else none
  |_=>none
 | .row e _, .sub l i c=>match st.at l with
  |some (.xarr e' _ xs)=>if h:e'= .slice e∧e.flat=true∧io=true∧c=0 then xs[i]?.map fun y=>((h.1▸y:(Ty.slice e).den),[(Bm io k, .sub l i c)]) else none
  |_=>none
 | .row _ _, .nilv=>some ([],[])
 | .xrow e te, .own l off len=>match st.at l with
  |some (.xarr e' te' xs)=>if h:e'=e∧te'=te∧off=0∧len=xs.length then some ((h.1▸xs:List e.den),[(Bm io k, .row l)]) else none
  |_=>none
 | .xrow e _, .sub l i c=>match st.at l with
  |some (.xarr e' _ xs)=>if h:e'= .slice e∧io=true∧c=0 then xs[i]?.map fun y=>((h.1▸y:(Ty.slice e).den),[(Bm io k, .sub l i c)]) else none
  |_=>none
 | .xrow _ _, .nilv=>some ([],[])
 | .part e te, .own l off len=>match st.at l with
  |some (.arr _ _ e' te' xs)=>if h:e'=e∧te'=te∧e.flat=true∧io=true then some (((h.1▸xs:List e.den),off,len),[(Bm io k, .row l)]) else none
  |_=>none
 | .grid e te _, .own l off len=>match st.at l with
  |some (.grid e' te' rows none _)=>if h:e'=e∧te'=te∧off=0∧len=rows.length∧io=false then some ((h.1▸rows:List (List e.den)),[(Bm io k, .row l)]) else none
  |_=>none
 |_,_=>none
def Wq (st:St):(k:Nat)→(cs:List (Bool×CK))→List AC→Option (Ins.den cs×List (Nat×Loc))
 |_,[],[]=>some ((),[])
 |k,p::r,a::as=>match Fm st p.1 k p.2 a,Wq st (k+1) r as with
  |some (x,t1),some (y,t2)=>some ((x,y),t1++t2)
  |_,_=>none
 |_,_,_=>none
def Rq (st:St):(c:CK)→c.den→AC→Option St
 | .row e _,ys, .own l _ len=>match st.at l with
  |some (.arr fr tr e' te xs)=>if h:e=e'∧List.length ys=len∧xs.length=len then some (st.En l (.arr (fr&&e'.flat) (tr&&e'.flat) e' te (h.1▸ys))) else none
  |_=>none
 | .xrow e _,ys, .own l _ len=>match st.at l with
  |some (.xarr e' te xs)=>if h:e=e'∧List.length ys=len∧xs.length=len then some (st.En l (.xarr e' te (h.1▸ys))) else none
  |_=>none
 | .row e _,ys, .sub l i _=>match st.at l with
  |some (.xarr e' te xs)=>if h: .slice e=e' then (match xs[i]? with
   |some y=>if List.length ys=List.length (h▸y:(Ty.slice e).den) then some (st.En l (.xarr e' te (xs.set i (h▸(ys:(Ty.slice e).den))))) else none
   |none=>none) else none
  |_=>none
 | .xrow e _,ys, .sub l i _=>match st.at l with
  |some (.xarr e' te xs)=>if h: .slice e=e' then (match xs[i]? with
   |some y=>if List.length ys=List.length (h▸y:(Ty.slice e).den) then some (st.En l (.xarr e' te (xs.set i (h▸(ys:(Ty.slice e).den))))) else none
   |none=>none) else none
  |_=>none
 |_,_, .nilv=>some st
 |_,_,_=>none
def Aw5 (st:St) (e:Ty) (ys:List e.den):AC→Option St
 | .own l _ _=>match st.at l with
  |some (.arr fr tr e' te xs)=>if h:e=e'∧List.length ys=xs.length then some (st.En l (.arr fr tr e' te (h.1▸ys))) else none
  |_=>none
 |_=>none
def Dg:(cs:List (Bool×CK))→IOs.den cs→List AC→St→Option St
 | [],_,_,st=>some st
 |(true, .dat _)::r,x,_::as,st=>Dg r x as st
 |(true, .row e te)::r,x,a::as,st=>match Rq st (.row e te) x.1 a with
  |some st'=>Dg r x.2 as st'
  |none=>none
 |(true, .xrow e te)::r,x,a::as,st=>match Rq st (.xrow e te) x.1 a with
  |some st'=>Dg r x.2 as st'
  |none=>none
 |(true, .part e _)::r,x,a::as,st=>match Aw5 st e x.1 a with
  |some st'=>Dg r x.2 as st'
  |none=>none
 |(true, .grid _ _ _)::r,x,_::as,st=>Dg r x as st
 |(false,_)::r,x,_::as,st=>Dg r x as st
 |_,_,_,_=>none
def Aq (dead part:List Nat) (c:AC):AC:=if c.refs.any (fun l=>dead.contains l) then .undef else match c with
 | .sub l i c=>if part.contains l then .undef else .sub l i c
 | .sptr l i c=>if part.contains l then .undef else .sptr l i c
 |c=>c
def Mx:List (Nat×OB)→List Nat→List (Nat×OB)
 | [],_=> []
 |(k,b)::r,dead=>if dead.contains k then Mx r dead else (k,b)::Mx r dead
def St.Rz (st:St) (dead part:List Nat):St:=let s:=st.Ev (Aq dead part); {s with heap:=Mx s.heap dead}
def Ko (st:St) (l j m:Nat) (e:Ty) (te:TypeId) (rows:List (List e.den)) (xs:List e.den) (kp:Option (Nat×Nat)):St:=
 (st.Rz [m] [l]).En l (.grid e te (rows.set j xs) none kp)
def Rb (j:Nat):Option (Nat×Nat)→Option (Nat×Nat)
 |none=>none
 |some p=>some (p.1,min p.2 j)
def Qu (st:St) (t:TypeId) (p v:AV):Option St:=
 match T.ty t,p with
 |some τ, .at (.sptr l i j)=>match settle st v with
  |some (v',st')=>match st'.at l,Cj st' τ v' with
   |some (.grid e te rows none kp),some (_,x)=>if h:τ=e then some (st'.En l (.grid e te (rows.set i ((rows.getD i []).set j (h▸x))) none kp)) else none
   |_,_=>none
  |none=>none
 |some τ, .at (.eptr l j)=>match st.at l,v with
  |some (.grid e te rows out kp), .at (.own m off len)=>match st.at m with
   |some (.arr _ _ e' _ xs)=>if h:e'=e∧(Nat.blt l Ae&&(!Nat.beq m l&&!τ.Ab))=true∧off=0∧len=xs.length∧(out=none∨out=some j) then some (Ko st l j m e te rows (h.1▸xs) (Rb j kp)) else none
   |_=>none
  |_,_=>none
 |_,_=>none
def Axn (st:St):AV→Bool
 | .at (.sptr _ _ _)=>true
 | .at (.eptr l _)=>match st.at l with
  |some (.grid _ _ _ _ _)=>true
  |_=>false
 |_=>false
def Hw (st:St) (t:TypeId) (p v:AV):Option St:=match Axn st p with
 |true=>Qu T st t p v
 |false=>Lo T st t p v
def Jg (st:St) (k m:Nat) (b:OB):St:=let s:=st.Rz [m,k] []; {s with heap:=Hc s.heap k b}
def Tx (t:TypeId):Option (TypeId×Ty):=(T.elem t).bind fun te=>(T.Axm te).map fun e=>(te,e)
def Nb (st:St) (dst:Nat) (t:TypeId) (l c:AV):Option (AV×St):=
 match Tx T t with
 |none=>Qr T st dst t l c
 |some (te,e)=>match l,c with
  | .at (.data _ (.int _) n), .at (.data _ (.int _) m)=>if inb n (Am+1)=true∧n=m∧dst<Ae then some (.at (.own dst 0 n.toNat),Jg st dst dst (.grid e te (List.replicate n.toNat []) none none)) else none
  |_,_=>none
def Dt (st:St) (dst:Nat) (t:TypeId) (len:Nat) (parts:Array (Nat×Operand)):Option (AV×St):=
 match Tx T t with
 |none=>Fv T st dst t len parts
 |some (te,e)=>match parts.toList with
  | [(0,x)]=>match st.ev x with
   | .at (.own m off ln)=>match st.at m with
    |some (.arr _ _ e' _ xs)=>if h:e'=e∧(Nat.beq len 1&&(Nat.blt dst Ae&&Nat.blt m Ae))=true∧off=0∧ln=xs.length then some (.at (.own dst 0 1),Jg st dst m (.grid e te [h.1▸xs] none none)) else none
    |_=>none
   |_=>none
  |_=>none
def Jl (st:St) (dst:Nat) (t:TypeId) (x y:Operand):Option (AV×St):=
 match Tx T t with
 |none=>Jk T st dst t x y
 |some (te,e)=>match st.ev x,st.ev y with
  | .at (.own l off len), .at (.own m off2 Aje)=>match st.at l,st.at m with
   |some (.grid e1 te1 A none _),some (.grid e2 te2 B none _)=>
    if h:(e1=e∧e2=e)∧(decide (te1=te)&&decide (te2=te)&&(Nat.blt l Ae&&(Nat.blt m Ae&&!Nat.beq m l)))=true∧(off=0∧len=A.length)∧(off2=0∧Aje=B.length)∧0<B.length∧A.length+B.length≤Am then
     some (.at (.own l 0 (A.length+B.length)),Jg st l m (.grid e te ((h.1.1▸A:List (List e.den))++(h.1.2▸B:List (List e.den))) none none))
    else none
   |_,_=>none
  |_,_=>none
def Ala (fr:Bool):(c:CK)→c.den→Option OB
 | .dat _,_=>none
 | .row e te,xs=>some (.arr (fr&&e.flat) false e te xs)
 | .xrow e te,xs=>some (.xarr e te xs)
 | .part e te,x=>some (.arr (fr&&e.flat) false e te x.1)
 | .grid e te _,xs=>some (.grid e te xs none none)
def As7 (H:List (Nat×OB)) (l:Nat):Option OB→List (Nat×OB)
 |some b=>Hc H l b
 |none=>H
def Nh (fr:Bool) (key:Nat→Nat):(k:Nat)→(cs:List CK)→CKs.den cs→List (Nat×OB)→List (Nat×OB)
 |_,[],_,H=>H
 |k,c::r,x,H=>Nh fr key (k+1) r x.2 (As7 H (key k) (Ala fr c x.1))
def Rf (key:Nat→Nat):(k:Nat)→(cs:List CK)→CKs.den cs→List AC
 |_,[],_=> []
 |k,c::r,x=>(match c,x.1 with
  | .dat τ,y=> .data τ.flat τ y
  | .row _ _,xs=> .own (key k) 0 (List.length xs)
  | .xrow _ _,xs=> .own (key k) 0 (List.length xs)
  | .grid _ _ _,xs=> .own (key k) 0 (List.length xs)
  | .part _ _,_=> .undef)::Rf key (k+1) r x.2
def Ow:List (Option Nat)→List AC→List (Bool×List AC)
 |none::s,a::as=>(false,[a])::Ow s as
 |some n::s,as=>(true,as.take n)::Ow s (as.drop n)
 |_,_=> []
def Bf9 (multi:Bool) (sh:List (Option Nat)) (as:List AC):Option AV:=
 if multi then some (.tupc (Ow sh as)) else match Kg sh as with
  | [v]=>some v
  | []=>some .undef
  |_=>none
def Adf (tks:List (Nat×Loc)):List Nat:=(tks.filter fun t=>Nat.blt t.1 Ae&&!t.2.reads).map fun t=>t.2.lab
def whole (tks:List (Nat×Loc)):List Nat:=tks.flatMap fun t=>match t.2 with| .row l=> [l]|_=> []
def Aqm (tks:List (Nat×Loc)):List Nat:=(tks.filter fun t=>t.2.reads).map fun t=>t.2.lab
def Ash (ins:List (Bool×CK)) (te:TypeId) (used:List Nat):List (Nat×Loc)→Option Nat
 | []=>none
 |(k, .row l)::r=>if Nat.blt k Ae&&(!used.contains l&&(match ins[k-500000]? with
   |some (false, .row _ te')=>decide (te'=te)
   |some (false, .xrow _ te')=>decide (te'=te)
   |some (false, .grid _ te' _)=>decide (te'=te)
   |_=>false)) then some l else Ash ins te used r
 |_::r=>Ash ins te used r
def Avj (ins:List (Bool×CK)) (tks:List (Nat×Loc)) (d:Nat):(k:Nat)→(used:List Nat)→List CK→List Nat
 |_,_,[]=> []
 |k,used,c::r=>match (match c with
   | .row _ te=>Ash ins te used tks
   | .xrow _ te=>Ash ins te used tks
   | .grid _ te _=>Ash ins te used tks
   |_=>none) with
  |some l=>l::Avj ins tks d (k+1) (l::used) r
  |none=>Baz d k::Avj ins tks d (k+1) used r
def Ada (s:Be) (tks:List (Nat×Loc)) (d:Nat):List Nat:=Avj s.ins tks d 0 [] s.outs
def Bo (ks:List Nat) (j:Nat):Nat:=match ks[j]? with
 |some l=>l
 |none=>Ae+j
def Aor (ks:List Nat) (n:Nat):Bool:=Nat.beq ks.length n&&(Ov ks&&ks.all fun l=>Nat.blt l Ae)
def Axj (st:St) (l:List Nat):Bool:=l.all fun k=>match st.at k with|some (.arr fr _ _ _ _)=>fr|_=>false
def Axs (st:St) (s:Be) (args:List AV):Option (List Nat×List AC×List AV):=
 match s.ptr with
 |none=>some ([],[],args)
 |some p=>match args with
  | .at (.vptr l i)::rest=>match st.at l with
   |some (.var tid vs)=>if tid=p.1∧vs.length=p.2∧i=0 then some ([l],vs,rest) else none
   |_=>none
  |_=>none
def Mf:List (Bool×CK)→List AC→Bool
 |(true, .row _ _)::r, .own _ _ _::as=>Mf r as
 |(true, .xrow _ _)::r, .own _ _ _::as=>Mf r as
 |(true,_)::_,_::_=>false
 |(false,_)::r,_::as=>Mf r as
 |_,as=>as.isEmpty
def Xg {α:Type} :List (Bool×CK)→List α→List α→List α
 |(true,_)::r,v::vs,as=>v::Xg r vs as
 |(false,_)::r,_::vs,a::as=>a::Xg r vs as
 |_,vs,_=>vs
def Ak1:List (Bool×CK)→Nat→Nat
 |(true,_)::r,n+1=>Ak1 r n
 |(false,_)::r,n+1=>Ak1 r n+1
 |_,_=>0
def Be.Pf (s:Be):Nat:=match s.ptr with|none=>0|some p=>Ak1 s.ins p.2
def Aho (ins:List (Bool×CK)) (as:List AC) (pl:List Nat) (st:St):St:=
 match pl with
 | []=>st
 |l::_=>match st.at l with
  |some (.var tid vs)=>st.En l (.var tid (Xg ins vs as))
  |_=>st
def Km (d:Nat):Nat:=Baz d 999
def Acs (s:Be) (d:Nat):List Nat:=match s.rp with|none=> []|some _=> [Km d]
def Ju (s:Be) (tks:List (Nat×Loc)) (d:Nat):List Nat:=Ada s tks d++Acs s d
def Adv (H:List (Nat×OB)) (l:Nat):Bool:=match Ac H l with
 |some (.grid _ _ _ _ _)=>true
 |_=>false
def Qy (H:List (Nat×OB)) (ks:List Nat) (tks:List (Nat×Loc)):List (Nat×Nat)→List Nat
 | []=> []
 |(k,j)::r=>match tks.find? (fun t=>Nat.beq t.1 (Bm false k)),ks[j]? with
  |some (_, .row l),some l'=>if Nat.beq l' l&&Adv H l then l::Qy H ks tks r else Qy H ks tks r
  |_,_=>Qy H ks tks r
def Ai3 (H:List (Nat×OB)) (l:Nat):Nat:=match Ac H l with
 |some (.grid _ _ rows _ _)=>rows.length
 |_=>0
def Tj (H:List (Nat×OB)) (ls:List Nat) (n:Nat):List AV→Bool
 | []=>true
 | .at (.sub l i _)::r=>(!ls.contains l||(Nat.blt i n&&Nat.blt i (Ai3 H l)))&&Tj H ls n r
 |_::r=>Tj H ls n r
def Fh (ls:List Nat):List AV→List AV→List AV
 | .at (.sub l i c)::r,v::vs=>(if ls.contains l then .at (.sub l i c) else v)::Fh ls r vs
 |_::r,v::vs=>v::Fh ls r vs
 |_,vs=>vs
def Bdz:Option OB→Option (Nat×Nat)
 |some (.grid _ _ _ _ kp)=>kp
 |_=>none
def OB.Ato (b:OB) (kp:Option (Nat×Nat)):OB:=match b with
 | .grid e te rows out _=> .grid e te rows out kp
 |b=>b
def Ta (H0:List (Nat×OB)) (ls:List Nat) (n:Nat):List (Nat×OB)→List (Nat×OB)
 | []=> []
 |(l,b)::r=>(l,if ls.contains l then b.Ato (Rb n (Bdz (Ac H0 l))) else b)::Ta H0 ls n r
def Acj (st0 st:St) (ls:List Nat) (n:Nat):St:=match ls with
 | []=>st
 |_=> {tmps:=Fh ls st0.tmps st.tmps,heap:=Ta st0.heap ls n st.heap}
def Bcy (s:Be) (d:Nat) (as:List AC):Option AV:=match s.rp with
 |none=>Bf9 s.multi s.rshapes as
 |some _=>some (.at (.vptr (Km d) 0))
def Ac3 (st st1:St) (d:Nat) (s:Be) (pl:List Nat) (tks:List (Nat×Loc)) (r:CKs.den s.outs):St:=
 let ks:=Ju s tks d
 let key:=Bo ks
 let st2:=Aho s.ins (Rf key 0 s.outs r) pl (st1.Rz (Adf tks++ks++(if s.flat then [] else Aqm tks)) (whole tks))
 {st2 with heap:=Nh (Axj st (Adf tks)) key 0 s.outs r (As7 st2.heap (Km d) (s.rp.map fun tid=> .var tid ((Rf key 0 s.outs r).drop s.Pf)))}
def Na (st:St) (dst:Option Nat) (s:Be) (args:List AV):Option (AV×St):=
 match Axs st s args with
 |none=>none
 |some (pl,vs,rest)=>match ungroup s.shapes rest with
 |none=>none
 |some as0=>match Wq st 0 s.ins (vs++as0) with
  |none=>none
  |some (x,tks)=>if Ov (tks.map fun t=>t.2.lab)&&Aor (Ju s tks (dst.getD 0)) (s.outs.length+(Acs s (dst.getD 0)).length)&&Nat.blt s.outs.length 1000&&Nat.blt s.ins.length 1000&&(Mf s.ins vs&&pl.all fun l=>!((tks.map fun t=>t.2.lab)++Ju s tks (dst.getD 0)).contains l) then match s.fn x with
   |none=>none
   |some (r,o)=>match Dg s.ins o (vs++as0) st with
    |none=>none
    |some st1=>match Bcy s (dst.getD 0) ((Rf (Bo (Ju s tks (dst.getD 0))) 0 s.outs r).drop s.Pf) with
     |none=>none
     |some v=>if Tj (Ac3 st st1 (dst.getD 0) s pl tks r).heap (Qy st.heap (Ju s tks (dst.getD 0)) tks s.keeps) (s.Ci x) st.tmps=true then
       some (v,Acj st (Ac3 st st1 (dst.getD 0) s pl tks r) (Qy st.heap (Ju s tks (dst.getD 0)) tks s.keeps) (s.Ci x)) else none
   else none
def Hm:List Operand→St→Option St
 | [],st=>some st
 |x::r,st=>match settle st (st.ev x) with
  |some (_,st')=>Hm r st'
  |none=>none
def Vx (s:Spec) (args:List AV):Bool:=!(s.fresh||s.res.flat||args.all (·.settled))
def evalOp (Γ:Env) (st:St) (o:Oper):Option (AV×St):=
 match o.op with
 | .assign x=>match st.ev x,o.dst,(T.elem o.type).bind fun te=>(T.ty te).map fun e=>(te,e) with
  | .at .nilv,some d,some (te,e)=>if d<Ae then some (.at (.own d 0 0),st.new d (.arr (T.fr0||e.flat) T.tr0 e te [])) else none
  |v,_,_=>some (v,st)
 | .alloc t=>match o.dst,T.ty t with
  |some d,some τ=>mkVar T st d t τ (zeroCells τ)
  |_,_=>none
 | .box t x=>match o.dst,T.ty t with
  |some d,some τ=>match cellsOf τ (st.ev x) with
   |some cs=>mkVar T st d t τ cs
   |none=>none
  |_,_=>none
 | .store t p x=>(Hw T st t (st.ev p) (st.ev x)).map fun s=>(.undef,s)
 | .makeSlice t l c=>match o.dst with
  |some d=>Nb T st d t (st.ev l) (st.ev c)
  |none=>none
 | .makeMap t none=>match o.dst with
  |some d=>Ln T st d t
  |none=>none
 | .mapUpdate t m k x=>(Dw T st t (st.ev m) (st.ev k) (st.ev x)).map fun s=>(.undef,s)
 | .insert t m k x=>(Dw T st t (st.ev m) (st.ev k) (st.ev x)).map fun s=>(.undef,s)
 | .buildSlice t len parts=>match o.dst with
  |some d=>Dt T st d t len parts
  |none=>none
 | .build t parts=>(Mz T st t parts).map fun v=>(v,st)
 | .call {callee:= .builtin .append,args,argTypes} =>match o.dst,args.toList,argTypes.toList with
  |some d,[x,y],[t,t']=>if t=t' then Jl T st d t x y else none
  |_,_,_=>none
 | .call {callee:= .builtin .copy,args,argTypes} =>match args.toList,argTypes.toList with
  | [x,y],[t,t']=>Yj T st t t' (st.ev x) (st.ev y)
  |_,_=>none
 | .call {callee:= .builtin .clear,args,argTypes} =>match args.toList,argTypes.toList with
  | [x],[t]=>(evalClear T st t (st.ev x)).map fun s=>(.undef,s)
  |_,_=>none
 | .call {callee:= .value (.func f),args, .. } =>match Γ f with
  |some (.m s)=>Na st o.dst s (args.toList.map st.ev)
  |some (.q s)=>if Vx s (args.toList.map st.ev) then (match Hm args.toList st with
   |some st1=>(Bz T Γ st1 o).map fun v=>(v,st1)
   |none=>none) else (Bz T Γ st o).map fun v=>(v,st)
  |_=>(Bz T Γ st o).map fun v=>(v,st)
 |_=>(Bz T Γ st o).map fun v=>(v,st)
def Wa (e:Ty):Nat→List (Nat×Operand)→St→Option (Bool×List e.den)
 |_,[],_=>some (true,[])
 |i,(j,x)::r,st=>
  if i=j∧(st.ev x).settled=true then match Cj st e (st.ev x),Wa e (i+1) r st with
   |some (fr,y),some (fr',ys)=>some (fr&&fr',y::ys)
   |_,_=>none
  else none
def Qq (st:St) (t:TypeId) (len:Nat) (parts:Array (Nat×Operand)):Option AV:=
 match T.elem t with
 |none=>none
 |some te=>match T.ty te with
  |none=>none
  |some e=>if parts.size=len∧len≤64∧e.size≤64 then (Wa e 0 parts.toList st).map fun p=> .at (.data p.1 (.slice e) p.2) else none
def Oa (Γ:Env) (st:St) (o:Oper):Option AV:=
 match o.op with
 | .buildSlice t len parts=>Qq T st t len parts
 | .build t parts=>Mz T st t parts
 |_=>Bz T Γ st o
def Bau (q:Bool) (Γ:Env) (o:Oper):Bool:=
 match o.op with
 | .buildSlice _ _ _| .build _ _=>!q
 | .alloc _| .box _ _| .store _ _ _| .makeSlice _ _ _| .makeMap _ _| .mapUpdate _ _ _ _| .insert _ _ _ _=>true
 | .assign (.const _)=>true
 | .call {callee:= .builtin .append, .. } =>true
 | .call {callee:= .builtin .copy, .. } =>true
 | .call {callee:= .builtin .clear, .. } =>true
 | .call {callee:= .value (.func f), .. } =>match Γ f with
  |some (.m _)=>true
  |_=>false
 |_=>false
def Ca (Γ:Env) (ops:Array Oper) (st:St) (o:Oper):Option St:=
 match o.guard with
 |none=>(evalOp T Γ st o).map fun r=>r.2.put o.dst r.1
 |some (j,want)=>match Mv st ((ops[j]?).bind (·.dst)) with
  |some (some b)=>if b==want then (evalOp T Γ st o).map fun r=>r.2.put o.dst r.1 else some (st.put o.dst (.at .skip))
  |some none=>some (st.put o.dst (.at .skip))
  |none=>none
def Po (Γ:Env) (ops:Array Oper):List Oper→St→Option St
 | [],st=>some st
 |o::r,st=>match Ca T Γ ops st o with
  |some st'=>Po Γ ops r st'
  |none=>none
def Ed (q:Bool) (Γ:Env) (ops:Array Oper):List Nat:=
 (List.range ops.size).foldl (init:= []) fun acc i=>match ops[i]? with
  |some o=>if Bau q Γ o||o.after.any (fun e=>Region.binds .any e&&acc.contains e.on) then acc++ [i] else acc
  |none=>acc
def Sb (q:Bool) (Γ:Env) (ops:Array Oper):List Nat:=(List.range ops.size).filter fun i=>!(Ed q Γ ops).contains i
def Adu (ops:Array Oper) (hd tl:List Nat) (i:Nat):Bool:=
 match ops[i]? with
 |some o=>(match o.op,o.guard with
  | .move (.tmp _),none=>true
  |_,_=>false)&&!((tl.take 1++hd).any fun j=>decide (i<j)&&Region.waitsFor .any ops j i)
 |none=>false
def Mc (q:Bool) (Γ:Env) (ops:Array Oper):List Nat:=(Sb q Γ ops).filter fun i=>Adu ops (Sb q Γ ops) (Ed q Γ ops) i
def Me (q:Bool) (Γ:Env) (ops:Array Oper):List Nat:=(Sb q Γ ops).filter fun i=>!Adu ops (Sb q Γ ops) (Ed q Γ ops) i
def Aaj (q:Bool) (Γ:Env) (ops:Array Oper):List Nat:=Mc q Γ ops++Me q Γ ops
def Ael (ops:Array Oper):List Nat→Array Bool→Bool
 | [],listed=>(Region.ready .any ops listed).isEmpty
 |k::r,listed=>decide (Region.ready .any ops listed= [k])&&Ael ops r (listed.setIfInBounds k true)
def Af9 (ops:Array Oper) (tl:List Nat):List Nat→Array Bool→Bool
 | [],listed=>Ael ops tl listed
 |k::r,listed=>(Region.ready .any ops listed).contains k&&Region.free .any ops listed k&&Af9 ops tl r (listed.setIfInBounds k true)
def Acv (ops:Array Oper) (hd:List Nat):List Nat→Bool
 | []=>true
 |f::r=>(hd.all fun i=>(f::hd).any fun j=>decide (i<j)&&Region.waitsFor .any ops j i)&&chain f r
where chain:Nat→List Nat→Bool
 |_,[]=>true
 |k,t::r=>Region.waitsFor .any ops t k&&chain t r
def Adp (ops:Array Oper) (tl hd:List Nat):List Nat→Array Bool→Bool
 | [],listed=>Af9 ops tl hd listed
 |k::r,listed=>(Region.ready .any ops listed).contains k&&Region.free .any ops listed k&&Adp ops tl hd r (listed.setIfInBounds k true)
def Aap (q:Bool) (Γ:Env) (ops:Array Oper):Bool:=
 Region.noSelect ops&&((Mc q Γ ops).length+((Me q Γ ops).length+(Ed q Γ ops).length)==ops.size)&&Adp ops (Ed q Γ ops) (Me q Γ ops) (Mc q Γ ops) (Array.replicate ops.size false)&&Acv ops (Me q Γ ops) (Ed q Γ ops)
def Xp (Γ:Env) (ops:Array Oper) (st:St) (o:Oper):Option AV:=
 match o.guard with
 |none=>Oa T Γ st o
 |some (j,want)=>match Mv st ((ops[j]?).bind (·.dst)) with
  |some (some b)=>if b==want then Oa T Γ st o else some (.at .skip)
  |some none=>some (.at .skip)
  |none=>none
def Df (Γ:Env) (ops:Array Oper):List Nat→St→Option St
 | [],st=>some st
 |i::r,st=>match ops[i]? with
  |none=>none
  |some o=>match Xp T Γ ops st o with
   |some v=>Df Γ ops r (st.put o.dst v)
   |none=>none
def Hd (Γ:Env) (ops:Array Oper):List Nat→St→Option St
 | [],st=>some st
 |i::r,st=>match ops[i]? with
  |none=>none
  |some o=>match Ca T Γ ops st o with
   |some st'=>Hd Γ ops r st'
   |none=>none
def Jm (Γ:Env) (ops:Array Oper) (draw:Bool) (st:St):Option St:=
 if draw then (if Aap false Γ ops then (match Df T Γ ops (Aaj false Γ ops) st with
  |some st'=>Hd T Γ ops (Ed false Γ ops) st'
  |none=>none) else if Aap true Γ ops then (match Df T Γ ops (Aaj true Γ ops) st with
  |some st'=>Hd T Γ ops (Ed true Γ ops) st'
  |none=>none) else none)
 else Po T Γ ops ops.toList st
def Aom (ops:Array Oper) (i:Nat):Bool:=match ops[i]? with
 |some o=>(match o.op,o.guard with
  | .move (.tmp _),none=>true
  |_,_=>false)
 |none=>false
def Aam (ops:Array Oper) (i:Nat):Bool:=match ops[i]? with
 |some o=>(match o.op,o.guard with
  | .move (.tmp _),none=>true
  | .nilCheck _,none=>true
  | .fieldAddr _ _ _,none=>true
  |_,_=>false)
 |none=>false
def Bfa (q:Bool) (ops:Array Oper) (i:Nat):Bool:=match q with
 |true=>Aam ops i
 |false=>Aom ops i
def Eb (q:Bool) (ops:Array Oper):List Nat→Array Bool→List Nat
 | [],_=> []
 |i::r,listed=>if Bfa q ops i&&((Region.ready .any ops listed).contains i&&Region.free .any ops listed i) then i::Eb q ops r (listed.setIfInBounds i true) else Eb q ops r listed
def Bay (q:Bool) (ops:Array Oper):List Nat:=Eb q ops (List.range ops.size) (Array.replicate ops.size false)
def Aae (q:Bool) (ops:Array Oper):Bool:=Nat.ble (ops.size-(Bay q ops).length) 8
def Ia (ops:Array Oper):List Nat:=Bay (!Aae false ops) ops
def Dj:List Nat→Array Bool→Array Bool
 | [],listed=>listed
 |i::r,listed=>Dj r (listed.setIfInBounds i true)
def anyS (Γ:Env) (ops:Array Oper) (K:St→Prop):Nat→Array Bool→St→Prop
 |0,listed,st=>Region.ready .any ops listed= []∧K st
 |f+1,listed,st=>Region.ready .any ops listed≠ []∧ ∀i∈Region.ready .any ops listed,∃o st',ops[i]?=some o∧Ca T Γ ops st o=some st'∧anyS Γ ops K f (listed.setIfInBounds i true) st'
def Anw (Γ:Env) (ops:Array Oper) (draw:Bool) (st:St) (K:St→Prop):Prop:=
 (∃st',Jm T Γ ops draw st=some st'∧K st')∨
 (draw=true∧Region.noSelect ops=true∧ ∃st0,Df T Γ ops (Ia ops) st=some st0∧anyS T Γ ops K (ops.size-(Ia ops).length) (Dj (Ia ops) (Array.replicate ops.size false)) st0)
def Apj (Γ:Env) (draw:Bool):Env:=fun f=>match Γ f with
 |some (.b s m)=>some (if draw then .q s else .m m)
 |r=>r
inductive Fe where
 |normal
 |exit (id:Nat)
 |ret
def Ek (live:List Nat):Nat→List AV→List AV
 |_,[]=> []
 |i,v::r=>(if live.contains i then v else .undef)::Ek live (i+1) r
def AV.refs:AV→List Nat
 | .at a=>a.refs
 | .agg cs=>cs.flatMap AC.refs
 | .tup _ _ _=> []
 | .tupc l=>l.flatMap fun p=>p.2.flatMap AC.refs
def OB.refs:OB→List Nat
 | .var _ vs=>vs.flatMap AC.refs
 |_=> []
def Tv:List Nat→St→St
 | [],st=>st
 |l::r,st=>Tv r (st.forget l)
def Afs (l k m:Nat):Nat:=if m=l then k else m
def Lw (l k:Nat):AC→AC
 | .own m off len=> .own (Afs l k m) off len
 | .vptr m i=> .vptr (Afs l k m) i
 | .eptr m i=> .eptr (Afs l k m) i
 | .clo f caps=> .clo f (caps.map fun p=>(Afs l k p.1,p.2))
 | .mapr m=> .mapr (Afs l k m)
 | .sub m i c=> .sub (Afs l k m) i c
 | .sptr m i c=> .sptr (Afs l k m) i c
 |a=>a
def St.rename (l k:Nat) (st:St):St:=
 match Ac st.heap k,Ac st.heap l with
 |none,some b=>if (Nat.blt l Ae&&Nat.blt k Ae)=true then
   (let s:=st.Ev (Lw l k); {s with heap:=Hc (Pd s.heap l) k (b.map (Lw l k))}) else st
 |_,_=>st
def Ga:Nat→Nat→St→St
 |0,_,st=>st
 |n+1,t,st=>Ga n (t+1) (match st.get t with
  | .at (.own l _ _)=>match Ac st.heap l with
   |some (.arr _ _ _ _ _)=>if (st.tmps.take t).any (fun v=>v.refs.contains l) then st else st.rename l (700000+t)
   |_=>st
  |_=>st)
def Si:Nat:=1000000007
def OB.Dx (flat all:Bool):OB→OB
 | .arr fr tr e tid xs=> .arr (fr&&!(all||(flat&&e.flat))) (tr&&!all) e tid xs
 |b=>b
def On:Nat:=1000000009
def Aue:Nat:=1100000000
def St.Dx (live:List Nat) (st:St):St:= {st with heap:=st.heap.map fun p=>(p.1,p.2.Dx (live.contains On) (live.contains (Aue+p.1)))}
def Jq:Nat:=900000000
def Rg (t:Nat) (st:St):St:=match st.get t with
 | .at (.own l off len)=>match Ac st.heap l with
  |some (.arr fr tr e tid xs)=>if Nat.blt l Ae=true then (st.new l (.arr fr tr e tid ((xs.drop off).take len))).put (some t) (.at (.own l 0 ((xs.drop off).take len).length)) else st
  |_=>st
 |_=>st
def Hl (live:List Nat):Nat→Nat→St→St
 |0,_,st=>st
 |n+1,t,st=>Hl live n (t+1) (if live.contains (Jq+t) then Rg t st else st)
def St.clean (live:List Nat) (st:St):St:=
 let s:St:= {st with tmps:=Ek live 0 st.tmps}
 let r1:=s.tmps.flatMap AV.refs
 let r2:=r1++(s.heap.filter fun p=>r1.contains p.1).flatMap fun p=>p.2.refs
 let s2:=Tv ((s.heap.map (·.1)).filter fun l=>!r2.contains l&&Nat.blt l Ae) s
 let s2:=if live.any (fun t=>Nat.ble Jq t&&Nat.blt t Si) then Hl live s2.tmps.length 0 s2 else s2
 let s3:=if live.contains Si then Ga s2.tmps.length 0 s2 else s2
 if live.any (fun t=>Nat.ble On t) then s3.Dx live else s3
def Bw:Code→Nat
 | .region id _ _=>id
 | .seq a _=>Bw a
 | .cond _ a _=>Bw a
 | .block _ c=>Bw c
 | .loop c=>1000+Bw c
 |_=>0
def Bdq (a b:List Nat):List Nat:=a++b.filter fun t=>!a.contains t
def Aov:List Oper→List Nat→List Nat
 | [],out=>out
 |o::r,out=>Bdq (o.op.operands.toList.filterMap fun| .tmp t=>some t|_=>none) (match o.dst with|some d=>(Aov r out).filter (·!=d)|none=>Aov r out)
def Av4:List (Nat×List Nat)→Nat→List Nat
 | [],_=> []
 |(k,l)::r,id=>if k=id then l else Av4 r id
def Agv:Code→List (Nat×List Nat)→List Nat→List Nat→List Nat×List (Nat×List Nat)
 | .region _ ops _,_,_,out=>(Aov ops.toList out,[])
 | .seq a b,env,ret,out=>let rb:=Agv b env ret out;let ra:=Agv a env ret rb.1;(ra.1,ra.2++rb.2)
 | .cond c a b,env,ret,out=>let ra:=Agv a env ret out;let rb:=Agv b env ret out
  (Bdq (match c with| .tmp t=> [t]|_=> []) (Bdq ra.1 rb.1),ra.2++rb.2)
 | .block id c,env,ret,out=>Agv c ((id,out)::env) ret out
 | .exit id,env,_,_=>(Av4 env id,[])
 | .ret,_,ret,_=>(ret,[])
 | .loop c,env,ret,_=>let l:=(Agv c env ret []).1;let r:=Agv c env ret l;(l,(Bw c,l)::r.2)
 |_,_,_,out=>(out,[])
def Aow:List ResultVar→List Nat
 | []=> []
 | .tmp t::r=>t::Aow r
 | .cell p _::r=>p::Aow r
def Aou (marks:List Nat) (fn:Func) (c:Code):Nat→List Nat:=let ret:=Aow fn.results.toList;let g:=Av4 (Agv c [] ret ret).2;match marks with
 | []=>g
 |m=>fun id=>g id++m
def Avu (K:St→Prop) (Q:Fe→St→Prop):Fe→St→Prop
 | .normal,s=>K s
 |e,s=>Q e s
def Amp (id:Nat) (Q:Fe→St→Prop):Fe→St→Prop
 | .exit id',s=>if id'=id then Q .normal s else Q (.exit id') s
 |e,s=>Q e s
inductive Hb (Γ:Env) (live:Nat→List Nat):Code→St→(Fe→St→Prop)→Prop where
 |skip {st:St} {Q:Fe→St→Prop} :Q .normal st→Hb Γ live .skip st Q
 |label {l:Nat} {st:St} {Q:Fe→St→Prop} :Q .normal st→Hb Γ live (.label l) st Q
 |exit {id:Nat} {st:St} {Q:Fe→St→Prop} :Q (.exit id) st→Hb Γ live (.exit id) st Q
 |ret {st:St} {Q:Fe→St→Prop} :Q .ret st→Hb Γ live .ret st Q
 |region {id:Nat} {ops:Array Oper} {draw:Bool} {st:St} {Q:Fe→St→Prop} :Anw T (Apj Γ draw) ops draw st (Q .normal)→Hb Γ live (.region id ops draw) st Q
 |seq {x y:Code} {st:St} {Q:Fe→St→Prop} (Q1:Fe→St→Prop):Hb Γ live x st Q1→(∀s,Q1 .normal s→Hb Γ live y s Q)→(∀e s,e≠ .normal→Q1 e s→Q e s)→Hb Γ live (.seq x y) st Q
 |cond {c:Operand} {x y:Code} {st:St} {fr t:Bool} {Q:Fe→St→Prop} :st.ev c= .at (.data fr .bool t)→(t=true→Hb Γ live x st Q)→(t=false→Hb Γ live y st Q)→Hb Γ live (.cond c x y) st Q
 |block {id:Nat} {c:Code} {st:St} {Q:Fe→St→Prop} (Q1:Fe→St→Prop):Hb Γ live c st Q1→(∀e s,Q1 e s→Amp id Q e s)→Hb Γ live (.block id c) st Q
 |loop {c:Code} {st:St} {Q:Fe→St→Prop} (Q1:Fe→St→Prop):Hb Γ live c (st.clean (live (Bw c))) Q1→(∀s,Q1 .normal s→Hb Γ live (.loop c) s Q)→(∀e s,e≠ .normal→Q1 e s→Q e s)→Hb Γ live (.loop c) st Q
def Tf (st:St):List ResultVar→Option (List AV)
 | []=>some []
 | .tmp t::r=>(Tf st r).map fun l=>st.get t::l
 | .cell p t::r=>match Io T st t (st.get p),Tf st r with
  |some v,some l=>some (v::l)
  |_,_=>none
def Adn (s:Spec) (fn:Func) (st:St):Option (Bool×s.res.den):=
 match Tf T st fn.results.toList with
 |some [v]=>if s.multi then none else Cj st s.res v
 |some [v,u]=>if s.multi then Bl st s.res [v,u] else none
 |some [v,u,t]=>if s.multi then Bl st s.res [v,u,t] else none
 |_=>none
def Kd:(τ:Ty)→τ.den→List AV
 | .pair a r,x=> .at (.data a.flat a x.1)::Kd r x.2
 |_,_=> []
def Ab0 (st:St):(c:CK)→AC→Option (c.den×List Nat)
 | .dat τ,a=>if τ.flat||a.settled then (Bh st τ a).map fun p=>(p.2,[]) else none
 | .row e te, .own l off len=>match st.at l with
  |some (.arr _ _ e' te' xs)=>if h:e'=e∧te'=te then some ((((h.1▸xs:List e.den).drop off).take len),[l]) else none
  |_=>none
 | .row _ _, .nilv=>some ([],[])
 | .xrow e te, .own l off len=>match st.at l with
  |some (.arr _ tr e' te' xs)=>if h:e'=e∧te'=te∧(tr||e.flat)=true then some ((((h.1▸xs:List e.den).drop off).take len),[l]) else none
  |some (.xarr e' te' xs)=>if h:e'=e∧te'=te then some ((((h.1▸xs:List e.den).drop off).take len),[l]) else none
  |_=>none
 | .xrow _ _, .nilv=>some ([],[])
 | .grid e te _, .own l off len=>match st.at l with
  |some (.grid e' te' rows none _)=>if h:e'=e∧te'=te∧off=0∧len=rows.length then some ((h.1▸rows:List (List e.den)),[l]) else none
  |_=>none
 |_,_=>none
def Lu (st:St):(cs:List CK)→List AC→Option (CKs.den cs×List Nat)
 | [],[]=>some ((),[])
 |c::r,a::as=>match Ab0 st c a,Lu st r as with
  |some (x,t1),some (y,t2)=>some ((x,y),t1++t2)
  |_,_=>none
 |_,_=>none
def Agi (st:St) (l:Nat):(c:CK)→Option c.den
 | .dat _=>none
 | .row e te=>match st.at l with
  |some (.arr _ _ e' te' xs)=>if h:e'=e∧te'=te then some (h.1▸xs) else none
  |_=>none
 | .xrow e te=>match st.at l with
  |some (.xarr e' te' xs)=>if h:e'=e∧te'=te then some (h.1▸xs) else none
  |_=>none
 | .part _ _=>none
 | .grid _ _ _=>none
def Hi (st:St):(k:Nat)→(cs:List (Bool×CK))→Option (IOs.den cs)
 |_,[]=>some ()
 |k,(true, .dat _)::r=>Hi st (k+1) r
 |k,(true, .grid _ _ _)::r=>Hi st (k+1) r
 |k,(true, .row e te)::r=>match Agi st (Bm true k) (.row e te),Hi st (k+1) r with
  |some x,some y=>some (x,y)
  |_,_=>none
 |k,(true, .xrow e te)::r=>match Agi st (Bm true k) (.xrow e te),Hi st (k+1) r with
  |some x,some y=>some (x,y)
  |_,_=>none
 |k,(true, .part e te)::r=>match Agi st (Bm true k) (.row e te),Hi st (k+1) r with
  |some x,some y=>some (x,y)
  |_,_=>none
 |k,(false,_)::r=>Hi st (k+1) r
def Hy:(k:Nat)→List (Bool×CK)→List Nat
 |_,[]=> []
 |k,(true, .dat _)::r=>Hy (k+1) r
 |k,(true, .grid _ _ _)::r=>Hy (k+1) r
 |k,(true,_)::r=>Bm true k::Hy (k+1) r
 |k,(false,_)::r=>Hy (k+1) r
def Js:Nat:=1900000000
def Ea:(k:Nat)→List (Bool×CK)→List AC→Option (List AC)
 |_,_,[]=>some []
 |k,(true, .row _ _)::r, .own l _ _::as=>if Nat.beq l (Bm true k) then Ea (k+1) r as else none
 |k,(true, .xrow _ _)::r, .own l _ _::as=>if Nat.beq l (Bm true k) then Ea (k+1) r as else none
 |k,(false,_)::r,a::as=>(Ea (k+1) r as).map fun l=>a::l
 |_,_,_=>none
def Yu (st:St):List AC→List (Bool×CK)→Prop
 | .own l off len::as,(true,_)::r=>(off=0∧match st.at l with
  |some (.arr _ _ _ _ xs)=>len=xs.length
  |some (.xarr _ _ xs)=>len=xs.length
  |_=>False)∧Yu st as r
 |_::as,(false,_)::r=>Yu st as r
 |_,_=>True
def Awb (s:Be) (st:St) (l:List AV):Option (List AC×List Nat):=match s.rp with
 |none=>if s.multi=Nat.blt 1 l.length then (ungroup s.rshapes l).map fun as=>(as,[]) else none
 |some tid=>match l with
  | [.at (.vptr m i)]=>match st.at m with
   |some (.var tid' vs)=>if tid'=tid∧i=0∧Nat.blt m Ae=true then some (vs,[m]) else none
   |_=>none
  |_=>none
def Amt (st:St) (n:Nat) (as:List AC):List (Nat×Nat)→Prop
 | []=>True
 |(k,j)::r=>(match as[j]? with
  |some (.own l _ _)=>match st.at l with
   |some (.grid _ _ _ _ (some p))=>p.1=Bm false k∧n≤p.2∧Nat.blt k 1000=true
   |_=>False
  |_=>False)∧Amt st n as r
def Aar (s:Be) (fn:Func) (x:Ins.den s.ins) (st:St) (cs:List AC) (P:CKs.den s.outs×IOs.den s.ins→Prop):Prop:=
 match Tf T st fn.results.toList with
 |none=>False
 |some l=>match Awb s st l with
  |none=>False
  |some (as,ml)=>match Lu st s.outs (cs++as),Hi st 0 s.ins with
   |some (r,ls),some o=>(Ov (ml++ls++Hy 0 s.ins)&&Nat.blt s.ins.length 1000&&Nat.blt s.outs.length 1000&&s.Bax)=true∧Amt st (s.Ci x) (cs++as) s.keeps∧P (r,o)
   |_,_=>False
def Ba4 (s:Be) (fn:Func) (x:Ins.den s.ins) (st:St) (P:CKs.den s.outs×IOs.den s.ins→Prop):Prop:=
 match s.ptr with
 |none=>Aar T s fn x st [] P
 |some p=> ∃vs cs,st.at Js=some (.var p.1 vs)∧vs.length=p.2∧Ea 0 s.ins vs=some cs∧Yu st vs s.ins∧Aar T s fn x st cs P
def Pe (s:Be) (as:List AC):List AV:=match s.ptr with
 |none=>Kg s.shapes as
 |some p=> .at (.vptr Js 0)::Kg s.shapes (as.drop p.2)
def Agr (s:Be) (x:Ins.den s.ins):List (Nat×OB):=match s.ptr with
 |none=>Of 0 s.ins x
 |some p=>Of 0 s.ins x++ [(Js, .var p.1 ((Qw 0 s.ins x).take p.2))]
def Oj:List (Bool×CK)→Bool
 | []=>true
 |(true, .grid _ _ _)::_=>false
 |_::r=>Oj r
def Apf (s:Be):Bool:=Oj s.ins&&match s.ptr with
 |none=>true
 |some p=>Nat.ble p.2 s.ins.length
def Bdh (Γ:Env) (s:Be) (fn:Func) (x:Ins.den s.ins) (P:CKs.den s.outs×IOs.den s.ins→Prop):Prop:=
 (Nat.blt s.ins.length 1000&&Apf s)=true∧ ∃c,fn.body=some c∧Hb T Γ (Aou T.marks fn c) c {tmps:=Pe s (Qw 0 s.ins x)++List.replicate (fn.ntmps-(Pe s (Qw 0 s.ins x)).length) .undef,heap:=Agr s x}
  (fun e st=>(∀id,e≠ .exit id)∧Ba4 T s fn x st P)
def Ba5 (Γ:Env) (s:Spec) (fn:Func) (x:s.arg.den) (P:s.res.den→Prop):Prop:=
 ∃c,fn.body=some c∧Hb T Γ (Aou T.marks fn c) c {tmps:=Kd s.arg x++List.replicate (fn.ntmps-(Kd s.arg x).length) .undef,heap:= []}
  (fun e st=>(∀id,e≠ .exit id)∧ ∃fr y,Adn T s fn st=some (fr,y)∧(fr||!s.fresh)=true∧P y)
end Go.Proofs.Ytebabhocakedaaa
