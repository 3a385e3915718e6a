/-
  Part 3 of the proof that the statement FnExactExactStateCount holds.
-/
import Derived.Test.YtjbdmibbbpdnnaaCExactStateCount01
namespace Go.Proofs.Ytjbdmibbbpdnnaa
open Go.RowKit
def Dp:Nat->St->List AC->Option (List AC×St)
 |0,st,cs=>if cs.all (·.settled) then some (cs,st) else none
 |n+1,st,cs=>
  match cs.find? (λc=>!c.settled) with
  |none=>some (cs,st)
  |some (.own l _ _)=>match st.at l with
   |some (.arr fr _ e _ xs)=>Dp n (st.freeze l fr e xs) (cs.map (Ba l fr e xs))
   |some (.Dc e _ xs)=>Dp n (st.freeze l false e xs) (cs.map (Ba l false e xs))
   |_=>none
  |some (.Gf l)=>match st.at l with
   |some (.Oh v m)=>Dp n (st.El l v m) (cs.map (Di l v m))
   |_=>none
  |some _=>none
def settle (st:St):AV->Option (AV×St)
 | .at (.own l off len)=>match st.at l with
  |some (.arr fr _ e _ xs)=>some (.at (.data fr (.slice e) ((xs.drop off).take len)),st.freeze l fr e xs)
  |some (.Dc e _ xs)=>some (.at (.data false (.slice e) ((xs.drop off).take len)),st.freeze l false e xs)
  |_=>none
 | .at (.Gf l)=>match st.at l with
  |some (.Oh v m)=>some (.at (.data false (.smap v) m),st.El l v m)
  |_=>none
 | .at a=>if a.settled then some (.at a,st) else none
 | .agg cs=>(Dp cs.length st cs).map λp=>(.agg p.1,p.2)
 | .Uf fr τ x=>some (.Uf fr τ x,st)
 | .Ir _=>none
def AC.refs:AC->List Nat
 | .own l _ _| .Dx l _| .Fy l _| .Gf l| .sub l _ _| .Fv l _ _=> [l]
 | .clo _ Bw=>Bw.map (·.1)
 |_=> []
def Sm:List Nat->Bool
 | []=>true
 |a::r=>!r.contains a&&Sm r
def Ty.tree:Ty->Bool
 | .int _| .bool| .str| .unit=>true
 | .slice e=>e.tree
 | .pair a r=>a.tree&&r.tree
 |_=>false
def Lo (st:St):AC->Bool
 | .data _ τ _=>τ.flat
 | .Hj=>true
 | .own l _ _=>match st.at l with
  |some (.arr _ tr e _ _)=>tr||e.flat
  |some (.Dc _ _ _)=>true
  |_=>false
 |_=>false
def Mn (st:St):AV->Bool
 | .at a=>Lo st a
 | .agg cs=>cs.all (Lo st)&&Sm (cs.flatMap AC.refs)
 |_=>false
def Aj:Nat:=1000000000
variable (T:Tab)
def zN (t:TypeId) (τ:Ty) (i:Nat):Option TypeId:=
 if τ.Ac then (List.range 24).findSome? λf=>match T.off t f with
  |some (o,u)=>if o=i then some u else none
  |none=>none
 else some t
def Tab.zX (te:TypeId):Option Ty:=if T.OJ.contains te then (match T.ty te with
 |some (.slice e)=>some e
 |_=>none) else none
def Xk (te:TypeId) (e:Ty):OB:=match T.zX te with
 |some e'=> .Ak e' te [] none none
 |none=> .arr (T.og||e.flat) T.tU e te []
def Nk (b:OB) (key l i:Nat) (st:St):St:=
 match st.at l with
 |some (.var _ vs)=>match vs[i]? with
  |some .Hj=>
   let s1:=st.new key b
   match s1.at l with
   |some (.var tid tW)=>s1.Fz l (.var tid (No tW i (.own key 0 0)))
   |_=>s1
  |_=>st
 |_=>st
def Zv (l:Nat) (t:TypeId) (τ:Ty):Nat->Nat->St->St
 |0,_,st=>st
 |n+1,i,st=>
  Zv l t τ n (i+1) (match ((zN T t τ i).bind T.elem).bind λte=>(T.ty te).map λe=>(te,e) with
   |some (te,e)=>Nk (Xk T te e) (100000+l*100+i) l i st
   |none=>st)
def Ye (l off:Nat) (t:TypeId) (τ:Ty):Nat->Nat->St->St
 |0,_,st=>st
 |n+1,i,st=>
  Ye l off t τ n (i+1) (match ((zN T t τ i).bind T.elem).bind λte=>(T.ty te).map λe=>(te,e) with
   |some (te,e)=>Nk (Xk T te e) (100000+l*100+(off+i)) l (off+i) st
   |none=>st)
def zeroCells:(τ:Ty)->List AC
 | .unit=> []
 | .pair a r=>zeroCells a++zeroCells r
 | .slice _=> [.Hj]
 | .oslice _=> [.Hj]
 | .ptr _=> [.Ql]
 | .optr _=> [.Ql]
 | .clo _ _=> [.undef]
 |τ=> [.data true τ τ.zero]
def cellsOf (τ:Ty):AV->Option (List AC)
 | .agg cs=>if τ.Ac&&cs.length==τ.size then some cs else none
 | .at (.data fr Iv x)=>if Iv=τ then some (Rc fr Iv x) else none
 | .at .undef=>none
 | .at .skip=>none
 | .at a=>if τ.Ac then none else some [a]
 |_=>none
def mkVar (st:St) (l:Nat) (t:TypeId) (τ:Ty) (cs:List AC):Option (AV×St):=
 if Aj<=100000+l*100+cs.length then none else
 let s:=Zv T l t τ cs.length 0 (st.new l (.var t (cs.map (Az l))))
 match s.at l with
 |some (.var _ _)=>some (.at (.Dx l 0),s)
 |_=>none
def Bq {α:Type} (xs:List α) (i:Nat) (ys:List α):List α:=xs.take i++ys++xs.drop (i+ys.length)
def Ns (st:St) (t:TypeId) (p v:AV):Option St:=
 match T.ty t,p with
 |some τ, .at (.Dx l i)=>match st.at l,cellsOf τ v with
  |some (.var tid vs),some cs=>if i+cs.length<=vs.length then some (if τ.Ac&&Nat.blt (100000+l*100+(i+cs.length)) Aj then Ye T l i t τ cs.length 0 (st.Fz l (.var tid (Bq vs i cs))) else st.Fz l (.var tid (Bq vs i cs))) else none
  |_,_=>none
 |some τ, .at (.Fy l j)=>match settle st v with
  |some (v',st')=>match st'.at l,Cr st' τ v' with
   |some (.arr fr tr e tid xs),some (Oo,x)=>if h:τ=e then (if j<xs.length then some (st'.Fz l (.arr (fr&&Oo) (tr&&(Mn st v&&e.tree)) e tid (xs.set j (h▸x)))) else none) else none
   |_,_=>none
  |none=>none
 |_,_=>none
def Bh:Nat:=4294967296
def Ik (st:St) (dst:Nat) (t:TypeId) (x y:Operand):Option (AV×St):=
 match T.elem t with
 |none=>none
 |some te=>match T.ty te,settle st (st.ev y) with
  |some e,some (y',st')=>match Cr st' (.slice e) y' with
   |none=>none
   |some (ld,ys)=>
    let tr2:=e.flat||(Mn st (st.ev y)&&e.tree)
    match st'.ev x with
    | .at .Hj=>if ys.length<=Bh/\dst<Aj then some (.at (.own dst 0 (0+ys.length)),(st'.new dst (.arr (T.og||e.flat) T.tU e te [])).new dst (.arr ((T.og||e.flat)&&(ld||e.flat)) (T.tU&&tr2) e te (((([]:List e.den).drop 0).take 0)++ys))) else none
    | .at (.own l off len)=>match st'.at l with
     |some (.arr fr tr e' tid xs)=>if h:e'=e/\tid=te then
       (if len+ys.length<=Bh/\l<Aj then
        some (.at (.own l 0 (len+ys.length)),st'.new l (.arr (fr&&(ld||e.flat)) (tr&&tr2) e te ((((h.1▸xs:List e.den).drop off).take len)++ys))) else none)
      else none
     |_=>none
    |_=>none
  |_,_=>none
def Kb (st:St) (l i m:Nat) (e:Ty) (te tid:TypeId) (rows:List (List e.den)) (kp:Option (Nat×Nat)):St:=
 (st.Fz l (.Ak e te rows (some i) kp)).new m (.arr false false e tid (rows.getD i []))
def Lc (st:St) (dst:Nat) (t:TypeId) (x y:Operand):Option (AV×St):=
 match x with
 | .tmp tx=>match st.get tx with
  | .at (.sub l i _)=>match st.at l,T.elem t with
   |some (.Ak e te rows none kp),some tid=>if (Nat.blt l Aj&&(Nat.blt dst Aj&&!Nat.beq dst l))=true then Ik T ((Kb st l i dst e te tid rows kp).put (some tx) (.at (.own dst 0 (rows.getD i []).length))) dst t x y else none
   |_,_=>none
  |_=>Ik T st dst t x y
 |_=>Ik T st dst t x y
def fz:Ty->Bool
 | .int _| .bool| .str| .slice _| .oslice _=>true
 |_=>false
def aq:Ty->Bool
 | .unit=>true
 | .pair a r=>aq a&&aq r
 |e=>fz e
def Um (st:St) (dst:Nat) (t:TypeId) (l c:AV):Option (AV×St):=
 match T.elem t,l,c with
 |some te, .at (.data _ (.int _) n), .at (.data _ (.int _) m)=>match T.ty te with
  |some e=>if PX n (Bh+1)=true/\n=m/\aq e=true/\dst<Aj then some (.at (.own dst 0 n.toNat),st.new dst (.arr (T.og||e.flat) (T.tU&&e.tree) e te (List.replicate n.toNat e.zero))) else none
  |none=>none
 |_,_,_=>none
def Gj (e:Ty):Nat->List (Nat×Operand)->St->Option (Bool×Bool×List e.den×St)
 |_,[],st=>some (true,true,[],st)
 |i,(j,x)::r,st=>
  if i=j then match settle st (st.ev x) with
   |some (v,st')=>match Cr st' e v with
    |some (fr,y)=>match Gj e (i+1) r st' with
     |some (Oo,KG,ys,Aeg)=>some (fr&&Oo,Mn st (st.ev x)&&e.tree&&KG,y::ys,Aeg)
     |none=>none
    |none=>none
   |none=>none
  else none
def He (st:St) (dst:Nat) (t:TypeId) (len:Nat) (parts:Array (Nat×Operand)):Option (AV×St):=
 match T.elem t with
 |none=>none
 |some te=>match T.ty te with
  |none=>none
  |some e=>if parts.size=len/\len<=64/\e.size<=64/\dst<Aj then (match Gj e 0 parts.toList st with
   |some (fr,tr,ys,st')=>some (.at (.own dst 0 len),st'.new dst (.arr ((T.og||e.flat)&&fr) (T.tU&&tr) e te ys))
   |none=>none) else none
def Nr (st:St) (dst:Nat) (t:TypeId):Option (AV×St):=
 match T.mapOf t with
 |some v=>if dst<Aj then some (.at (.Gf dst),st.new dst (.Oh v λ_=>none)) else none
 |none=>none
def Sb {α:Type} (m:ByteArray->Option α) (k:ByteArray) (x:α):ByteArray->Option α:= λs=>if s=k then some x else m s
def Et (st:St) (t:TypeId) (m k x:AV):Option St:=
 match T.mapOf t,m,k with
 |some v, .at (.Gf l), .at (.data _ .str s)=>match st.at l,Cr st v x with
  |some (.Oh v' f),some (_,y)=>if h:v'=v/\v.flat=true/\v.Ac=false then some (st.Fz l (.Oh v (Sb (h.1▸f:ByteArray->Option v.den) s y))) else none
  |_,_=>none
 |_,_,_=>none
def bE (st:St) (t t':TypeId) (x y:AV):Option (AV×St):=
 match x,(T.elem t).bind T.ty with
 | .at (.own l off len),some e=>if T.elem t=T.elem t'/\e.flat=true/\e.size=1 then match st.at l,Cr st (.slice e) y with
  |some (.arr fr _ e' tid xs),some (_,ys)=>if h:e'=e/\T.elem t=some tid then
    some (.at (.data true (.int .i64) (min len ys.length:Nat)),st.Fz l (.arr fr false e tid (Bq (h.1▸xs:List e.den) off (ys.take len))))
   else none
  |_,_=>none
  else none
 |_,_=>none
def evalClear (st:St) (t:TypeId) (x:AV):Option St:=
 match x,(T.elem t).bind T.ty with
 | .at (.own l off len),some e=>if e.flat=true/\fz e=true then match st.at l with
  |some (.arr fr _ e' tid xs)=>if h:e'=e/\T.elem t=some tid then
    some (st.Fz l (.arr fr false e tid (Bq (h.1▸xs:List e.den) off (List.replicate len e.zero))))
   else none
  |_=>none
  else none
 |_,_=>none
def Hd (st:St) (t:TypeId):List (Nat×Operand)->List AC->Option (List AC)
 | [],cs=>some cs
 |(i,x)::r,cs=>
  match T.off t i with
  |some (o,u)=>match T.ty u with
   |some ρ=>match cellsOf ρ (st.ev x) with
    |some c=>if o+c.length<=cs.length then Hd st t r (Bq cs o c) else none
    |none=>none
   |none=>none
  |none=>none
def Qa (st:St) (t:TypeId) (parts:Array (Nat×Operand)):Option AV:=
 match T.ty t with
 |none=>none
 |some τ=>if τ.Ac then (Hd T st t parts.toList (zeroCells τ)).map .agg else none
def Bu (io:Bool) (k:Nat):Nat:=if io then 1000000000+k else 500000+k
def Fq (k:Nat):Nat:=600000+k
def IS (dst:Nat) (k:Nat):Nat:=1000000*(dst+1)+k
def Mg:List (Option Nat)->List AC->List AV
 |none::s,a::as=> .at a::Mg s as
 |some n::s,as=> .agg (as.take n)::Mg s (as.drop n)
 |_,_=> []
def Gk:List (Option Nat)->List Value->List Value
 |none::s,u::us=>u::Gk s us
 |some n::s,us=> .agg (us.take n).toArray::Gk s (us.drop n)
 |_,_=> []
def ungroup:List (Option Nat)->List AV->Option (List AC)
 | [],[]=>some []
 |none::s, .at a::as=>(ungroup s as).map λr=>a::r
 |some n::s, .agg cs::as=>if cs.length=n then (ungroup s as).map λr=>cs++r else none
 |_,_=>none
def dw (l:Nat):(c:CK)->c.den->Option OB
 | .Fm _,_=>none
 | .row e te,xs=>some (.arr false false e te xs)
 | .Ds e te,xs=>some (.Dc e te xs)
 | .part e te,x=>some (.arr false false e te x.1)
 | .Ak e te kp,xs=>some (.Ak e te xs none (if kp then some (l,List.length xs) else none))
def Abj (l:Nat):(c:CK)->c.den->AC
 | .Fm τ,x=> .data τ.flat τ x
 | .row _ _,xs=> .own l 0 (List.length xs)
 | .Ds _ _,xs=> .own l 0 (List.length xs)
 | .part _ _,x=> .own l x.2.1 x.2.2
 | .Ak _ _ _,xs=> .own l 0 (List.length xs)
def bx {α:Type} (l:Nat):Option α->List (Nat×α)->List (Nat×α)
 |none,r=>r
 |some b,r=>(l,b)::r
def Rt:(k:Nat)->(cs:List (Bool×CK))->Ins.den cs->List (Nat×OB)
 |_,[],_=> []
 |k,p::r,x=>bx (Bu p.1 k) (dw (Bu p.1 k) p.2 x.1) (Rt (k+1) r x.2)
def Us:(k:Nat)->(cs:List (Bool×CK))->Ins.den cs->List AC
 |_,[],_=> []
 |k,p::r,x=>Abj (Bu p.1 k) p.2 x.1::Us (k+1) r x.2
inductive Loc where
 |row (l:Nat)
 |sub (l i c:Nat)
 |view (l:Nat)
 deriving DecidableEq
def Loc.Pq:Loc->Nat
 | .row l=>l
 | .sub l _ _=>l
 | .view l=>l
def Loc.reads:Loc->Bool
 | .view _=>true
 |_=>false
def Vi (st:St) (ls:List Nat):Bool:=ls.all λl=>match st.at l with|some (.var _ vs)=>vs.all (·.settled)|_=>false
def views (k:Nat) (ls:List Nat):List (Nat×Loc):=ls.map λl=>(Bu false k, .view l)
def Gy (st:St) (io:Bool) (k:Nat):(c:CK)->AC->Option (c.den×List (Nat×Loc))
 | .Fm τ, .own l off len=>(Bk st τ (.own l off len)).map λp=>(p.2,[(Bu false k, .view l)])
 | .Fm τ, .clo g Bw=>if Vi st (Bw.map (·.1))&&!τ.Ac then (Fk st τ (.clo g Bw)).map λp=>(p.2,views k (Bw.map (·.1))) else none
 | .Fm τ, .Dx l i=>if Vi st [l]&&!τ.Ac then (Fk st τ (.Dx l i)).map λp=>(p.2,views k [l]) else none
 | .Fm τ, .sub l i c=>(Bk st τ (.sub l i c)).map λp=>(p.2,[(Bu false k, .view l)])
 | .Fm τ,a=>if τ.flat||a.settled then (Bk st τ a).map λp=>(p.2,[]) else none
 | .row e te, .own l off len=>match st.at l with
  |some (.arr _ _ e' Ky xs)=>if h:e'=e/\Ky=te/\off=0/\len=xs.length then some ((h.1▸xs:List e.den),[(Bu io k, .row l)]) else none
  |_=>none
 | .row e _, .sub l i c=>match st.at l with
  |some (.Dc e' _ xs)=>if h:e'= .slice e/\e.flat=true/\io=true/\c=0 then xs[i]?.map λy=>((h.1▸y:(Ty.slice e).den),[(Bu io k, .sub l i c)]) else none
  |_=>none
 | .row _ _, .Hj=>some ([],[])
 | .Ds e te, .own l off len=>match st.at l with
  |some (.Dc e' Ky xs)=>if h:e'=e/\Ky=te/\off=0/\len=xs.length then some ((h.1▸xs:List e.den),[(Bu io k, .row l)]) else none
  |_=>none
 | .Ds e _, .sub l i c=>match st.at l with
  |some (.Dc e' _ xs)=>if h:e'= .slice e/\io=true/\c=0 then xs[i]?.map λy=>((h.1▸y:(Ty.slice e).den),[(Bu io k, .sub l i c)]) else none
  |_=>none
 | .Ds _ _, .Hj=>some ([],[])
 | .part e te, .own l off len=>match st.at l with
  |some (.arr _ _ e' Ky xs)=>if h:e'=e/\Ky=te/\e.flat=true/\io=true then some (((h.1▸xs:List e.den),off,len),[(Bu io k, .row l)]) else none
  |_=>none
 | .Ak e te _, .own l off len=>match st.at l with
  |some (.Ak e' Ky rows none _)=>if h:e'=e/\Ky=te/\off=0/\len=rows.length/\io=false then some ((h.1▸rows:List (List e.den)),[(Bu io k, .row l)]) else none
  |_=>none
 |_,_=>none
def al (st:St):(k:Nat)->(cs:List (Bool×CK))->List AC->Option (Ins.den cs×List (Nat×Loc))
 |_,[],[]=>some ((),[])
 |k,p::r,a::as=>match Gy st p.1 k p.2 a,al st (k+1) r as with
  |some (x,t1),some (y,t2)=>some ((x,y),t1++t2)
  |_,_=>none
 |_,_,_=>none
def Vl (st:St):(c:CK)->c.den->AC->Option St
 | .row e _,ys, .own l _ len=>match st.at l with
  |some (.arr fr tr e' te xs)=>if h:e=e'/\List.length ys=len/\xs.length=len then some (st.Fz l (.arr (fr&&e'.flat) (tr&&e'.flat) e' te (h.1▸ys))) else none
  |_=>none
 | .Ds e _,ys, .own l _ len=>match st.at l with
  |some (.Dc e' te xs)=>if h:e=e'/\List.length ys=len/\xs.length=len then some (st.Fz l (.Dc e' te (h.1▸ys))) else none
  |_=>none
 | .row e _,ys, .sub l i _=>match st.at l with
  |some (.Dc e' te xs)=>if h: .slice e=e' then (match xs[i]? with
   |some y=>if List.length ys=List.length (h▸y:(Ty.slice e).den) then some (st.Fz l (.Dc e' te (xs.set i (h▸(ys:(Ty.slice e).den))))) else none
   |none=>none) else none
  |_=>none
 | .Ds e _,ys, .sub l i _=>match st.at l with
  |some (.Dc e' te xs)=>if h: .slice e=e' then (match xs[i]? with
   |some y=>if List.length ys=List.length (h▸y:(Ty.slice e).den) then some (st.Fz l (.Dc e' te (xs.set i (h▸(ys:(Ty.slice e).den))))) else none
   |none=>none) else none
  |_=>none
 |_,_, .Hj=>some st
 |_,_,_=>none
def yO (st:St) (e:Ty) (ys:List e.den):AC->Option St
 | .own l _ _=>match st.at l with
  |some (.arr fr tr e' te xs)=>if h:e=e'/\List.length ys=xs.length then some (st.Fz l (.arr fr tr e' te (h.1▸ys))) else none
  |_=>none
 |_=>none
def Ed:(cs:List (Bool×CK))->IOs.den cs->List AC->St->Option St
 | [],_,_,st=>some st
 |(true, .Fm _)::r,x,_::as,st=>Ed r x as st
 |(true, .row e te)::r,x,a::as,st=>match Vl st (.row e te) x.1 a with
  |some st'=>Ed r x.2 as st'
  |none=>none
 |(true, .Ds e te)::r,x,a::as,st=>match Vl st (.Ds e te) x.1 a with
  |some st'=>Ed r x.2 as st'
  |none=>none
 |(true, .part e _)::r,x,a::as,st=>match yO st e x.1 a with
  |some st'=>Ed r x.2 as st'
  |none=>none
 |(true, .Ak _ _ _)::r,x,_::as,st=>Ed r x as st
 |(false,_)::r,x,_::as,st=>Ed r x as st
 |_,_,_,_=>none
def Aw (dead part:List Nat) (c:AC):AC:=if c.refs.any (λl=>dead.contains l) then .undef else match c with
 | .sub l i c=>if part.contains l then .undef else .sub l i c
 | .Fv l i c=>if part.contains l then .undef else .Fv l i c
 |c=>c
def Py:List (Nat×OB)->List Nat->List (Nat×OB)
 | [],_=> []
 |(k,b)::r,dead=>if dead.contains k then Py r dead else (k,b)::Py r dead
def St.Vr (st:St) (dead part:List Nat):St:=let s:=st.Ge (Aw dead part); {s with heap:=Py s.heap dead}
def Mr (st:St) (l j m:Nat) (e:Ty) (te:TypeId) (rows:List (List e.den)) (xs:List e.den) (kp:Option (Nat×Nat)):St:=
 (st.Vr [m] [l]).Fz l (.Ak e te (rows.set j xs) none kp)
def Uw (j:Nat):Option (Nat×Nat)->Option (Nat×Nat)
 |none=>none
 |some p=>some (p.1,min p.2 j)
def Up (st:St) (t:TypeId) (p v:AV):Option St:=
 match T.ty t,p with
 |some τ, .at (.Fv l i j)=>match settle st v with
  |some (v',st')=>match st'.at l,Cr st' τ v' with
   |some (.Ak e te rows none kp),some (_,x)=>if h:τ=e then some (st'.Fz l (.Ak e te (rows.set i ((rows.getD i []).set j (h▸x))) none kp)) else none
   |_,_=>none
  |none=>none
 |some τ, .at (.Fy l j)=>match st.at l,v with
  |some (.Ak e te rows out kp), .at (.own m off len)=>match st.at m with
   |some (.arr _ _ e' _ xs)=>if h:e'=e/\(Nat.blt l Aj&&(!Nat.beq m l&&!τ.Ac))=true/\off=0/\len=xs.length/\(out=none\/out=some j) then some (Mr st l j m e te rows (h.1▸xs) (Uw j kp)) else none
   |_=>none
  |_,_=>none
 |_,_=>none
def zY (st:St):AV->Bool
 | .at (.Fv _ _ _)=>true
 | .at (.Fy l _)=>match st.at l with
  |some (.Ak _ _ _ _ _)=>true
  |_=>false
 |_=>false
def Jr (st:St) (t:TypeId) (p v:AV):Option St:=match zY st p with
 |true=>Up T st t p v
 |false=>Ns T st t p v
def Ku (st:St) (k m:Nat) (b:OB):St:=let s:=st.Vr [m,k] []; {s with heap:=Ix s.heap k b}
def Xs (t:TypeId):Option (TypeId×Ty):=(T.elem t).bind λte=>(T.zX te).map λe=>(te,e)
def Qd (st:St) (dst:Nat) (t:TypeId) (l c:AV):Option (AV×St):=
 match Xs T t with
 |none=>Um T st dst t l c
 |some (te,e)=>match l,c with
  | .at (.data _ (.int _) n), .at (.data _ (.int _) m)=>if PX n (Bh+1)=true/\n=m/\dst<Aj then some (.at (.own dst 0 n.toNat),Ku st dst dst (.Ak e te (List.replicate n.toNat []) none none)) else none
  |_,_=>none
def Er (st:St) (dst:Nat) (t:TypeId) (len:Nat) (parts:Array (Nat×Operand)):Option (AV×St):=
 match Xs T t with
 |none=>He T st dst t len parts
 |some (te,e)=>match parts.toList with
  | [(0,x)]=>match st.ev x with
   | .at (.own m off ln)=>match st.at m with
    |some (.arr _ _ e' _ xs)=>if h:e'=e/\(Nat.beq len 1&&(Nat.blt dst Aj&&Nat.blt m Aj))=true/\off=0/\ln=xs.length then some (.at (.own dst 0 1),Ku st dst m (.Ak e te [h.1▸xs] none none)) else none
    |_=>none
   |_=>none
  |_=>none
def Ld (st:St) (dst:Nat) (t:TypeId) (x y:Operand):Option (AV×St):=
 match Xs T t with
 |none=>Lc T st dst t x y
 |some (te,e)=>match st.ev x,st.ev y with
  | .at (.own l off len), .at (.own m IT mF)=>match st.at l,st.at m with
   |some (.Ak e1 te1 A none _),some (.Ak e2 pz B none _)=>
    if h:(e1=e/\e2=e)/\(decide (te1=te)&&decide (pz=te)&&(Nat.blt l Aj&&(Nat.blt m Aj&&!Nat.beq m l)))=true/\(off=0/\len=A.length)/\(IT=0/\mF=B.length)/\0<B.length/\A.length+B.length<=Bh then
     some (.at (.own l 0 (A.length+B.length)),Ku st l m (.Ak e te ((h.1.1▸A:List (List e.den))++(h.1.2▸B:List (List e.den))) none none))
    else none
   |_,_=>none
  |_,_=>none
def oQ (fr:Bool):(c:CK)->c.den->Option OB
 | .Fm _,_=>none
 | .row e te,xs=>some (.arr (fr&&e.flat) false e te xs)
 | .Ds e te,xs=>some (.Dc e te xs)
 | .part e te,x=>some (.arr (fr&&e.flat) false e te x.1)
 | .Ak e te _,xs=>some (.Ak e te xs none none)
def ve (H:List (Nat×OB)) (l:Nat):Option OB->List (Nat×OB)
 |some b=>Ix H l b
 |none=>H
def Qn (fr:Bool) (key:Nat->Nat):(k:Nat)->(cs:List CK)->CKs.den cs->List (Nat×OB)->List (Nat×OB)
 |_,[],_,H=>H
 |k,c::r,x,H=>Qn fr key (k+1) r x.2 (ve H (key k) (oQ fr c x.1))
def Va (key:Nat->Nat):(k:Nat)->(cs:List CK)->CKs.den cs->List AC
 |_,[],_=> []
 |k,c::r,x=>(match c,x.1 with
  | .Fm τ,y=> .data τ.flat τ y
  | .row _ _,xs=> .own (key k) 0 (List.length xs)
  | .Ds _ _,xs=> .own (key k) 0 (List.length xs)
  | .Ak _ _ _,xs=> .own (key k) 0 (List.length xs)
  | .part _ _,_=> .undef)::Va key (k+1) r x.2
def Sn:List (Option Nat)->List AC->List (Bool×List AC)
 |none::s,a::as=>(false,[a])::Sn s as
 |some n::s,as=>(true,as.take n)::Sn s (as.drop n)
 |_,_=> []
def ZC (Ef:Bool) (sh:List (Option Nat)) (as:List AC):Option AV:=
 if Ef then some (.Ir (Sn sh as)) else match Mg sh as with
  | [v]=>some v
  | []=>some .undef
  |_=>none
def fR (tks:List (Nat×Loc)):List Nat:=(tks.filter λt=>Nat.blt t.1 Aj&&!t.2.reads).map λt=>t.2.Pq
def whole (tks:List (Nat×Loc)):List Nat:=tks.flatMap λt=>match t.2 with| .row l=> [l]|_=> []
def tC (tks:List (Nat×Loc)):List Nat:=(tks.filter λt=>t.2.reads).map λt=>t.2.Pq
def vA (ins:List (Bool×CK)) (te:TypeId) (used:List Nat):List (Nat×Loc)->Option Nat
 | []=>none
 |(k, .row l)::r=>if Nat.blt k Aj&&(!used.contains l&&(match ins[k-500000]? with
   |some (false, .row _ Ky)=>decide (Ky=te)
   |some (false, .Ds _ Ky)=>decide (Ky=te)
   |some (false, .Ak _ Ky _)=>decide (Ky=te)
   |_=>false)) then some l else vA ins te used r
 |_::r=>vA ins te used r
def yg (ins:List (Bool×CK)) (tks:List (Nat×Loc)) (d:Nat):(k:Nat)->(used:List Nat)->List CK->List Nat
 |_,_,[]=> []
 |k,used,c::r=>match (match c with
   | .row _ te=>vA ins te used tks
   | .Ds _ te=>vA ins te used tks
   | .Ak _ te _=>vA ins te used tks
   |_=>none) with
  |some l=>l::yg ins tks d (k+1) (l::used) r
  |none=>IS d k::yg ins tks d (k+1) used r
def fN (s:MSpec) (tks:List (Nat×Loc)) (d:Nat):List Nat:=yg s.ins tks d 0 [] s.outs
def Bv (ks:List Nat) (j:Nat):Nat:=match ks[j]? with
 |some l=>l
 |none=>Aj+j
def se (ks:List Nat) (n:Nat):Bool:=Nat.beq ks.length n&&(Sm ks&&ks.all λl=>Nat.blt l Aj)
def zT (st:St) (l:List Nat):Bool:=l.all λk=>match st.at k with|some (.arr fr _ _ _ _)=>fr|_=>false
def AS (st:St) (s:MSpec) (args:List AV):Option (List Nat×List AC×List AV):=
 match s.ptr with
 |none=>some ([],[],args)
 |some p=>match args with
  | .at (.Dx l i)::rest=>match st.at l with
   |some (.var tid vs)=>if tid=p.1/\vs.length=p.2/\i=0 then some ([l],vs,rest) else none
   |_=>none
  |_=>none
def Ou:List (Bool×CK)->List AC->Bool
 |(true, .row _ _)::r, .own _ _ _::as=>Ou r as
 |(true, .Ds _ _)::r, .own _ _ _::as=>Ou r as
 |(true,_)::_,_::_=>false
 |(false,_)::r,_::as=>Ou r as
 |_,as=>as.isEmpty
def aJ {α:Type} :List (Bool×CK)->List α->List α->List α
 |(true,_)::r,v::vs,as=>v::aJ r vs as
 |(false,_)::r,_::vs,a::as=>a::aJ r vs as
 |_,vs,_=>vs
def nk:List (Bool×CK)->Nat->Nat
 |(true,_)::r,n+1=>nk r n
 |(false,_)::r,n+1=>nk r n+1
 |_,_=>0
def MSpec.Sw (s:MSpec):Nat:=match s.ptr with|none=>0|some p=>nk s.ins p.2
def kO (ins:List (Bool×CK)) (as:List AC) (pl:List Nat) (st:St):St:=
 match pl with
 | []=>st
 |l::_=>match st.at l with
  |some (.var tid vs)=>st.Fz l (.var tid (aJ ins vs as))
  |_=>st
def Mo (d:Nat):Nat:=IS d 999
def fk (s:MSpec) (d:Nat):List Nat:=match s.rp with|none=> []|some _=> [Mo d]
def Lr (s:MSpec) (tks:List (Nat×Loc)) (d:Nat):List Nat:=fN s tks d++fk s d
def gw (H:List (Nat×OB)) (l:Nat):Bool:=match Ad H l with
 |some (.Ak _ _ _ _ _)=>true
 |_=>false
def Uv (H:List (Nat×OB)) (ks:List Nat) (tks:List (Nat×Loc)):List (Nat×Nat)->List Nat
 | []=> []
 |(k,j)::r=>match tks.find? (λt=>Nat.beq t.1 (Bu false k)),ks[j]? with
  |some (_, .row l),some l'=>if Nat.beq l' l&&gw H l then l::Uv H ks tks r else Uv H ks tks r
  |_,_=>Uv H ks tks r
def lg (H:List (Nat×OB)) (l:Nat):Nat:=match Ad H l with
 |some (.Ak _ _ rows _ _)=>rows.length
 |_=>0
def Xa (H:List (Nat×OB)) (ls:List Nat) (n:Nat):List AV->Bool
 | []=>true
 | .at (.sub l i _)::r=>(!ls.contains l||(Nat.blt i n&&Nat.blt i (lg H l)))&&Xa H ls n r
 |_::r=>Xa H ls n r
def Gr (ls:List Nat):List AV->List AV->List AV
 | .at (.sub l i c)::r,v::vs=>(if ls.contains l then .at (.sub l i c) else v)::Gr ls r vs
 |_::r,v::vs=>v::Gr ls r vs
 |_,vs=>vs
def SN:Option OB->Option (Nat×Nat)
 |some (.Ak _ _ _ _ kp)=>kp
 |_=>none
def OB.wz (b:OB) (kp:Option (Nat×Nat)):OB:=match b with
 | .Ak e te rows out _=> .Ak e te rows out kp
 |b=>b
def Ws (H0:List (Nat×OB)) (ls:List Nat) (n:Nat):List (Nat×OB)->List (Nat×OB)
 | []=> []
 |(l,b)::r=>(l,if ls.contains l then b.wz (Uw n (SN (Ad H0 l))) else b)::Ws H0 ls n r
def fa (aN st:St) (ls:List Nat) (n:Nat):St:=match ls with
 | []=>st
 |_=> {tmps:=Gr ls aN.tmps st.tmps,heap:=Ws aN.heap ls n st.heap}
def NG (s:MSpec) (d:Nat) (as:List AC):Option AV:=match s.rp with
 |none=>ZC s.Ef s.Gb as
 |some _=>some (.at (.Dx (Mo d) 0))
def eF (st st1:St) (d:Nat) (s:MSpec) (pl:List Nat) (tks:List (Nat×Loc)) (r:CKs.den s.outs):St:=
 let ks:=Lr s tks d
 let key:=Bv ks
 let ZE:=kO s.ins (Va key 0 s.outs r) pl (st1.Vr (fR tks++ks++(if s.flat then [] else tC tks)) (whole tks))
 {ZE with heap:=Qn (zT st (fR tks)) key 0 s.outs r (ve ZE.heap (Mo d) (s.rp.map λtid=> .var tid ((Va key 0 s.outs r).drop s.Sw)))}
def Qb (st:St) (dst:Option Nat) (s:MSpec) (args:List AV):Option (AV×St):=
 match AS st s args with
 |none=>none
 |some (pl,vs,rest)=>match ungroup s.Gv rest with
 |none=>none
 |some ik=>match al st 0 s.ins (vs++ik) with
  |none=>none
  |some (x,tks)=>if Sm (tks.map λt=>t.2.Pq)&&se (Lr s tks (dst.getD 0)) (s.outs.length+(fk s (dst.getD 0)).length)&&Nat.blt s.outs.length 1000&&Nat.blt s.ins.length 1000&&(Ou s.ins vs&&pl.all λl=>!((tks.map λt=>t.2.Pq)++Lr s tks (dst.getD 0)).contains l) then match s.fn x with
   |none=>none
   |some (r,o)=>match Ed s.ins o (vs++ik) st with
    |none=>none
    |some st1=>match NG s (dst.getD 0) ((Va (Bv (Lr s tks (dst.getD 0))) 0 s.outs r).drop s.Sw) with
     |none=>none
     |some v=>if Xa (eF st st1 (dst.getD 0) s pl tks r).heap (Uv st.heap (Lr s tks (dst.getD 0)) tks s.keeps) (s.Cs x) st.tmps=true then
       some (v,fa st (eF st st1 (dst.getD 0) s pl tks r) (Uv st.heap (Lr s tks (dst.getD 0)) tks s.keeps) (s.Cs x)) else none
   else none
def Jh:List Operand->St->Option St
 | [],st=>some st
 |x::r,st=>match settle st (st.ev x) with
  |some (_,st')=>Jh r st'
  |none=>none
def Zr (s:Spec) (args:List AV):Bool:=!(s.fresh||s.res.flat||args.all (·.settled))
def evalOp (Γ:Env) (st:St) (o:Oper):Option (AV×St):=
 match o.op with
 | .assign x=>match st.ev x,o.dst,(T.elem o.type).bind λte=>(T.ty te).map λe=>(te,e) with
  | .at .Hj,some d,some (te,e)=>if d<Aj then some (.at (.own d 0 0),st.new d (.arr (T.og||e.flat) T.tU e te [])) else none
  |v,_,_=>some (v,st)
 | .alloc t=>match o.dst,T.ty t with
  |some d,some τ=>mkVar T st d t τ (zeroCells τ)
  |_,_=>none
 | .box t x=>match o.dst,T.ty t with
  |some d,some τ=>match cellsOf τ (st.ev x) with
   |some cs=>mkVar T st d t τ cs
   |none=>none
  |_,_=>none
 | .store t p x=>(Jr T st t (st.ev p) (st.ev x)).map λs=>(.undef,s)
 | .makeSlice t l c=>match o.dst with
  |some d=>Qd T st d t (st.ev l) (st.ev c)
  |none=>none
 | .makeMap t none=>match o.dst with
  |some d=>Nr T st d t
  |none=>none
 | .mapUpdate t m k x=>(Et T st t (st.ev m) (st.ev k) (st.ev x)).map λs=>(.undef,s)
 | .insert t m k x=>(Et T st t (st.ev m) (st.ev k) (st.ev x)).map λs=>(.undef,s)
 | .buildSlice t len parts=>match o.dst with
  |some d=>Er T st d t len parts
  |none=>none
 | .build t parts=>(Qa T st t parts).map λv=>(v,st)
 | .call {callee:= .builtin .append,args,argTypes} =>match o.dst,args.toList,argTypes.toList with
  |some d,[x,y],[t,t']=>if t=t' then Ld T st d t x y else none
  |_,_,_=>none
 | .call {callee:= .builtin .copy,args,argTypes} =>match args.toList,argTypes.toList with
  | [x,y],[t,t']=>bE T st t t' (st.ev x) (st.ev y)
  |_,_=>none
 | .call {callee:= .builtin .clear,args,argTypes} =>match args.toList,argTypes.toList with
  | [x],[t]=>(evalClear T st t (st.ev x)).map λs=>(.undef,s)
  |_,_=>none
 | .call {callee:= .value (.func f),args, .. } =>match Γ f with
  |some (.m s)=>Qb st o.dst s (args.toList.map st.ev)
  |some (.q s)=>if Zr s (args.toList.map st.ev) then (match Jh args.toList st with
   |some st1=>(Ce T Γ st1 o).map λv=>(v,st1)
   |none=>none) else (Ce T Γ st o).map λv=>(v,st)
  |_=>(Ce T Γ st o).map λv=>(v,st)
 |_=>(Ce T Γ st o).map λv=>(v,st)
def Zu (e:Ty):Nat->List (Nat×Operand)->St->Option (Bool×List e.den)
 |_,[],_=>some (true,[])
 |i,(j,x)::r,st=>
  if i=j/\(st.ev x).settled=true then match Cr st e (st.ev x),Zu e (i+1) r st with
   |some (fr,y),some (Oo,ys)=>some (fr&&Oo,y::ys)
   |_,_=>none
  else none
def Ul (st:St) (t:TypeId) (len:Nat) (parts:Array (Nat×Operand)):Option AV:=
 match T.elem t with
 |none=>none
 |some te=>match T.ty te with
  |none=>none
  |some e=>if parts.size=len/\len<=64/\e.size<=64 then (Zu e 0 parts.toList st).map λp=> .at (.data p.1 (.slice e) p.2) else none
def Rk (Γ:Env) (st:St) (o:Oper):Option AV:=
 match o.op with
 | .buildSlice t len parts=>Ul T st t len parts
 | .build t parts=>Qa T st t parts
 |_=>Ce T Γ st o
def II (q:Bool) (Γ:Env) (o:Oper):Bool:=
 match o.op with
 | .buildSlice _ _ _| .build _ _=>!q
 | .alloc _| .box _ _| .store _ _ _| .makeSlice _ _ _| .makeMap _ _| .mapUpdate _ _ _ _| .insert _ _ _ _=>true
 | .assign (.const _)=>true
 | .call {callee:= .builtin .append, .. } =>true
 | .call {callee:= .builtin .copy, .. } =>true
 | .call {callee:= .builtin .clear, .. } =>true
 | .call {callee:= .value (.func f), .. } =>match Γ f with
  |some (.m _)=>true
  |_=>false
 |_=>false
def Cf (Γ:Env) (ops:Array Oper) (st:St) (o:Oper):Option St:=
 match o.guard with
 |none=>(evalOp T Γ st o).map λr=>r.2.put o.dst r.1
 |some (j,want)=>match Pw st ((ops[j]?).bind (·.dst)) with
  |some (some b)=>if b==want then (evalOp T Γ st o).map λr=>r.2.put o.dst r.1 else some (st.put o.dst (.at .skip))
  |some none=>some (st.put o.dst (.at .skip))
  |none=>none
def Tf (Γ:Env) (ops:Array Oper):List Oper->St->Option St
 | [],st=>some st
 |o::r,st=>match Cf T Γ ops st o with
  |some st'=>Tf Γ ops r st'
  |none=>none
def Fc (q:Bool) (Γ:Env) (ops:Array Oper):List Nat:=
 (List.range ops.size).foldl (init:= []) λacc i=>match ops[i]? with
  |some o=>if II q Γ o||o.after.any (λe=>Region.binds .any e&&acc.contains e.on) then acc++ [i] else acc
  |none=>acc
def Vt (q:Bool) (Γ:Env) (ops:Array Oper):List Nat:=(List.range ops.size).filter λi=>!(Fc q Γ ops).contains i
def gu (ops:Array Oper) (hd tl:List Nat) (i:Nat):Bool:=
 match ops[i]? with
 |some o=>(match o.op,o.guard with
  | .move (.tmp _),none=>true
  |_,_=>false)&&!((tl.take 1++hd).any λj=>decide (i<j)&&Region.waitsFor .any ops j i)
 |none=>false
def On (q:Bool) (Γ:Env) (ops:Array Oper):List Nat:=(Vt q Γ ops).filter λi=>gu ops (Vt q Γ ops) (Fc q Γ ops) i
def Oq (q:Bool) (Γ:Env) (ops:Array Oper):List Nat:=(Vt q Γ ops).filter λi=>!gu ops (Vt q Γ ops) (Fc q Γ ops) i
def cW (q:Bool) (Γ:Env) (ops:Array Oper):List Nat:=On q Γ ops++Oq q Γ ops
def IA (ops:Array Oper) (i:Nat):Bool:=match ops[i]? with
 |some o=>(match o.op,o.guard with
  | .extract _ _,none=>true
  |_,_=>false)
 |none=>false
def gQ (ops:Array Oper):List Nat->Array Bool->Bool
 | [],Ab=>(Region.ready .any ops Ab).isEmpty
 |k::r,Ab=>(decide (Region.ready .any ops Ab= [k])||(IA ops k&&((Region.ready .any ops Ab).contains k&&Region.free .any ops Ab k)))&&gQ ops r (Ab.setIfInBounds k true)
def iL (ops:Array Oper) (tl:List Nat):List Nat->Array Bool->Bool
 | [],Ab=>gQ ops tl Ab
 |k::r,Ab=>(Region.ready .any ops Ab).contains k&&Region.free .any ops Ab k&&iL ops tl r (Ab.setIfInBounds k true)
def nz (ops:Array Oper) (hd:List Nat):List Nat->Bool
 | []=>true
 |f::r=>(hd.all λi=>(f::hd).any λj=>decide (i<j)&&Region.waitsFor .any ops j i)&&r.all λt=>(f::r).any λk=>Region.waitsFor .any ops t k
def gb (ops:Array Oper) (tl hd:List Nat):List Nat->Array Bool->Bool
 | [],Ab=>iL ops tl hd Ab
 |k::r,Ab=>(Region.ready .any ops Ab).contains k&&Region.free .any ops Ab k&&gb ops tl hd r (Ab.setIfInBounds k true)
def dg (q:Bool) (Γ:Env) (ops:Array Oper):Bool:=
 Region.noSelect ops&&((On q Γ ops).length+((Oq q Γ ops).length+(Fc q Γ ops).length)==ops.size)&&gb ops (Fc q Γ ops) (Oq q Γ ops) (On q Γ ops) (Array.replicate ops.size false)&&nz ops (Oq q Γ ops) (Fc q Γ ops)
def ba (Γ:Env) (ops:Array Oper) (st:St) (o:Oper):Option AV:=
 match o.guard with
 |none=>Rk T Γ st o
 |some (j,want)=>match Pw st ((ops[j]?).bind (·.dst)) with
  |some (some b)=>if b==want then Rk T Γ st o else some (.at .skip)
  |some none=>some (.at .skip)
  |none=>none
def Ec (Γ:Env) (ops:Array Oper):List Nat->St->Option St
 | [],st=>some st
 |i::r,st=>match ops[i]? with
  |none=>none
  |some o=>match ba T Γ ops st o with
   |some v=>Ec Γ ops r (st.put o.dst v)
   |none=>none
def Iy (Γ:Env) (ops:Array Oper):List Nat->St->Option St
 | [],st=>some st
 |i::r,st=>match ops[i]? with
  |none=>none
  |some o=>match Cf T Γ ops st o with
   |some st'=>Iy Γ ops r st'
   |none=>none
def Le (Γ:Env) (ops:Array Oper) (draw:Bool) (st:St):Option St:=
 if draw then (if dg false Γ ops then (match Ec T Γ ops (cW false Γ ops) st with
  |some st'=>Iy T Γ ops (Fc false Γ ops) st'
  |none=>none) else if dg true Γ ops then (match Ec T Γ ops (cW true Γ ops) st with
  |some st'=>Iy T Γ ops (Fc true Γ ops) st'
  |none=>none) else none)
 else Tf T Γ ops ops.toList st
def s7 (ops:Array Oper) (i:Nat):Bool:=match ops[i]? with
 |some o=>(match o.op,o.guard with
  | .move (.tmp _),none=>true
  |_,_=>false)
 |none=>false
def dc (ops:Array Oper) (i:Nat):Bool:=match ops[i]? with
 |some o=>(match o.op,o.guard with
  | .move (.tmp _),none=>true
  | .nilCheck _,none=>true
  | .fieldAddr _ _ _,none=>true
  |_,_=>false)
 |none=>false
def ZK (q:Bool) (ops:Array Oper) (i:Nat):Bool:=match q with
 |true=>dc ops i
 |false=>s7 ops i
def Ez (q:Bool) (ops:Array Oper):List Nat->Array Bool->List Nat
 | [],_=> []
 |i::r,Ab=>if ZK q ops i&&((Region.ready .any ops Ab).contains i&&Region.free .any ops Ab i) then i::Ez q ops r (Ab.setIfInBounds i true) else Ez q ops r Ab
def IN (q:Bool) (ops:Array Oper):List Nat:=Ez q ops (List.range ops.size) (Array.replicate ops.size false)
def cT (q:Bool) (ops:Array Oper):Bool:=Nat.ble (ops.size-(IN q ops).length) 8
def Jw (ops:Array Oper):List Nat:=IN (!cT false ops) ops
def Eg:List Nat->Array Bool->Array Bool
 | [],Ab=>Ab
 |i::r,Ab=>Eg r (Ab.setIfInBounds i true)
def anyS (Γ:Env) (ops:Array Oper) (K:St->Prop):Nat->Array Bool->St->Prop
 |0,Ab,st=>Region.ready .any ops Ab= []/\K st
 |f+1,Ab,st=>Region.ready .any ops Ab≠ []/\ ∀i∈Region.ready .any ops Ab,∃o st',ops[i]?=some o/\Cf T Γ ops st o=some st'/\anyS Γ ops K f (Ab.setIfInBounds i true) st'
def r9 (Γ:Env) (ops:Array Oper) (draw:Bool) (st:St) (K:St->Prop):Prop:=
 (∃st',Le T Γ ops draw st=some st'/\K st')\/
 (draw=true/\Region.noSelect ops=true/\ ∃aN,Ec T Γ ops (Jw ops) st=some aN/\anyS T Γ ops K (ops.size-(Jw ops).length) (Eg (Jw ops) (Array.replicate ops.size false)) aN)
def sJ (Γ:Env) (draw:Bool):Env:= λf=>match Γ f with
 |some (.b s m)=>some (if draw then .q s else .m m)
 |r=>r
inductive Gp where
 |normal
 |exit (id:Nat)
 |ret
def Fw (live:List Nat):Nat->List AV->List AV
 |_,[]=> []
 |i,v::r=>(if live.contains i then v else .undef)::Fw live (i+1) r
def AV.refs:AV->List Nat
 | .at a=>a.refs
 | .agg cs=>cs.flatMap AC.refs
 | .Uf _ _ _=> []
 | .Ir l=>l.flatMap λp=>p.2.flatMap AC.refs
def OB.refs:OB->List Nat
 | .var _ vs=>vs.flatMap AC.refs
 |_=> []
def Xq:List Nat->St->St
 | [],st=>st
 |l::r,st=>Xq r (st.forget l)
def j6 (l k m:Nat):Nat:=if m=l then k else m
def Nw (l k:Nat):AC->AC
 | .own m off len=> .own (j6 l k m) off len
 | .Dx m i=> .Dx (j6 l k m) i
 | .Fy m i=> .Fy (j6 l k m) i
 | .clo f Bw=> .clo f (Bw.map λp=>(j6 l k p.1,p.2))
 | .Gf m=> .Gf (j6 l k m)
 | .sub m i c=> .sub (j6 l k m) i c
 | .Fv m i c=> .Fv (j6 l k m) i c
 |a=>a
def St.rename (l k:Nat) (st:St):St:=
 match Ad st.heap k,Ad st.heap l with
 |none,some b=>if (Nat.blt l Aj&&Nat.blt k Aj)=true then
   (let s:=st.Ge (Nw l k); {s with heap:=Ix (Ss s.heap l) k (b.map (Nw l k))}) else st
 |_,_=>st
def Hk:Nat->Nat->St->St
 |0,_,st=>st
 |n+1,t,st=>Hk n (t+1) (match st.get t with
  | .at (.own l _ _)=>match Ad st.heap l with
   |some (.arr _ _ _ _ _)=>if (st.tmps.take t).any (λv=>v.refs.contains l) then st else st.rename l (700000+t)
   |_=>st
  |_=>st)
def Wa:Nat:=1000000007
def OB.Eu (flat all:Bool):OB->OB
 | .arr fr tr e tid xs=> .arr (fr&&!(all||(flat&&e.flat))) (tr&&!all) e tid xs
 |b=>b
def Se:Nat:=1000000009
def Sd:Nat:=1100000000
def St.Eu (live:List Nat) (st:St):St:= {st with heap:=st.heap.map λp=>(p.1,p.2.Eu (live.contains Se) (live.contains (Sd+p.1)))}
def Lk:Nat:=900000000
def Vb (t:Nat) (st:St):St:=match st.get t with
 | .at (.own l off len)=>match Ad st.heap l with
  |some (.arr fr tr e tid xs)=>if Nat.blt l Aj=true then (st.new l (.arr fr tr e tid ((xs.drop off).take len))).put (some t) (.at (.own l 0 ((xs.drop off).take len).length)) else st
  |_=>st
 |_=>st
def Jg (live:List Nat):Nat->Nat->St->St
 |0,_,st=>st
 |n+1,t,st=>Jg live n (t+1) (if live.contains (Lk+t) then Vb t st else st)
def St.clean (live:List Nat) (st:St):St:=
 let s:St:= {st with tmps:=Fw live 0 st.tmps}
 let r1:=s.tmps.flatMap AV.refs
 let r2:=r1++(s.heap.filter λp=>r1.contains p.1).flatMap λp=>p.2.refs
 let s2:=Xq ((s.heap.map (·.1)).filter λl=>!r2.contains l&&Nat.blt l Aj) s
 let s2:=if live.any (λt=>Nat.ble Lk t&&Nat.blt t Wa) then Jg live s2.tmps.length 0 s2 else s2
 let s3:=if live.contains Wa then Hk s2.tmps.length 0 s2 else s2
 if live.any (λt=>Nat.ble Se t) then s3.Eu live else s3
def Cc:Code->Nat
 | .region id _ _=>id
 | .seq a _=>Cc a
 | .cond _ a _=>Cc a
 | .block _ c=>Cc c
 | .loop c=>1000+Cc c
 |_=>0
def QL (a b:List Nat):List Nat:=a++b.filter λt=>!a.contains t
def sl:List Oper->List Nat->List Nat
 | [],out=>out
 |o::r,out=>QL (o.op.operands.toList.filterMap λ | .tmp t=>some t|_=>none) (match o.dst with|some d=>(sl r out).filter (·!=d)|none=>sl r out)
def xF:List (Nat×List Nat)->Nat->List Nat
 | [],_=> []
 |(k,l)::r,id=>if k=id then l else xF r id
def jM:Code->List (Nat×List Nat)->List Nat->List Nat->List Nat×List (Nat×List Nat)
 | .region _ ops _,_,_,out=>(sl ops.toList out,[])
 | .seq a b,env,ret,out=>let rb:=jM b env ret out;let ra:=jM a env ret rb.1;(ra.1,ra.2++rb.2)
 | .cond c a b,env,ret,out=>let ra:=jM a env ret out;let rb:=jM b env ret out
  (QL (match c with| .tmp t=> [t]|_=> []) (QL ra.1 rb.1),ra.2++rb.2)
 | .block id c,env,ret,out=>jM c ((id,out)::env) ret out
 | .exit id,env,_,_=>(xF env id,[])
 | .ret,_,ret,_=>(ret,[])
 | .loop c,env,ret,_=>let l:=(jM c env ret []).1;let r:=jM c env ret l;(l,(Cc c,l)::r.2)
 |_,_,_,out=>(out,[])
def sm:List ResultVar->List Nat
 | []=> []
 | .tmp t::r=>t::sm r
 | .cell p _::r=>p::sm r
def sk (marks:List Nat) (fn:Func) (c:Code):Nat->List Nat:=let ret:=sm fn.results.toList;let g:=xF (jM c [] ret ret).2;match marks with
 | []=>g
 |m=> λid=>g id++m
def yy (K:St->Prop) (Q:Gp->St->Prop):Gp->St->Prop
 | .normal,s=>K s
 |e,s=>Q e s
def qb (id:Nat) (Q:Gp->St->Prop):Gp->St->Prop
 | .exit CF,s=>if CF=id then Q .normal s else Q (.exit CF) s
 |e,s=>Q e s
inductive Iw (Γ:Env) (live:Nat->List Nat):Code->St->(Gp->St->Prop)->Prop where
 |skip {st:St} {Q:Gp->St->Prop} :Q .normal st->Iw Γ live .skip st Q
 |label {l:Nat} {st:St} {Q:Gp->St->Prop} :Q .normal st->Iw Γ live (.label l) st Q
 |exit {id:Nat} {st:St} {Q:Gp->St->Prop} :Q (.exit id) st->Iw Γ live (.exit id) st Q
 |ret {st:St} {Q:Gp->St->Prop} :Q .ret st->Iw Γ live .ret st Q
 |region {id:Nat} {ops:Array Oper} {draw:Bool} {st:St} {Q:Gp->St->Prop} :r9 T (sJ Γ draw) ops draw st (Q .normal)->Iw Γ live (.region id ops draw) st Q
 |seq {x y:Code} {st:St} {Q:Gp->St->Prop} (Q1:Gp->St->Prop):Iw Γ live x st Q1->(∀s,Q1 .normal s->Iw Γ live y s Q)->(∀e s,e≠ .normal->Q1 e s->Q e s)->Iw Γ live (.seq x y) st Q
 |cond {c:Operand} {x y:Code} {st:St} {fr t:Bool} {Q:Gp->St->Prop} :st.ev c= .at (.data fr .bool t)->(t=true->Iw Γ live x st Q)->(t=false->Iw Γ live y st Q)->Iw Γ live (.cond c x y) st Q
 |block {id:Nat} {c:Code} {st:St} {Q:Gp->St->Prop} (Q1:Gp->St->Prop):Iw Γ live c st Q1->(∀e s,Q1 e s->qb id Q e s)->Iw Γ live (.block id c) st Q
 |loop {c:Code} {st:St} {Q:Gp->St->Prop} (Q1:Gp->St->Prop):Iw Γ live c (st.clean (live (Cc c))) Q1->(∀s,Q1 .normal s->Iw Γ live (.loop c) s Q)->(∀e s,e≠ .normal->Q1 e s->Q e s)->Iw Γ live (.loop c) st Q
def Wv (st:St):List ResultVar->Option (List AV)
 | []=>some []
 | .tmp t::r=>(Wv st r).map λl=>st.get t::l
 | .cell p t::r=>match Kd T st t (st.get p),Wv st r with
  |some v,some l=>some (v::l)
  |_,_=>none
def fZ (s:Spec) (fn:Func) (st:St):Option (Bool×s.res.den):=
 match Wv T st fn.results.toList with
 |some [v]=>if s.Ef then none else Cr st s.res v
 |some [v,u]=>if s.Ef then Bs st s.res [v,u] else none
 |some [v,u,t]=>if s.Ef then Bs st s.res [v,u,t] else none
 |_=>none
def Md:(τ:Ty)->τ.den->List AV
 | .pair a r,x=> .at (.data a.flat a x.1)::Md r x.2
 |_,_=> []
def dz (st:St):(c:CK)->AC->Option (c.den×List Nat)
 | .Fm τ,a=>if τ.flat||a.settled then (Bk st τ a).map λp=>(p.2,[]) else none
 | .row e te, .own l off len=>match st.at l with
  |some (.arr _ _ e' Ky xs)=>if h:e'=e/\Ky=te then some ((((h.1▸xs:List e.den).drop off).take len),[l]) else none
  |_=>none
 | .row _ _, .Hj=>some ([],[])
 | .Ds e te, .own l off len=>match st.at l with
  |some (.arr _ tr e' Ky xs)=>if h:e'=e/\Ky=te/\(tr||e.flat)=true then some ((((h.1▸xs:List e.den).drop off).take len),[l]) else none
  |some (.Dc e' Ky xs)=>if h:e'=e/\Ky=te then some ((((h.1▸xs:List e.den).drop off).take len),[l]) else none
  |_=>none
 | .Ds _ _, .Hj=>some ([],[])
 | .Ak e te _, .own l off len=>match st.at l with
  |some (.Ak e' Ky rows none _)=>if h:e'=e/\Ky=te/\off=0/\len=rows.length then some ((h.1▸rows:List (List e.den)),[l]) else none
  |_=>none
 |_,_=>none
def Nv (st:St):(cs:List CK)->List AC->Option (CKs.den cs×List Nat)
 | [],[]=>some ((),[])
 |c::r,a::as=>match dz st c a,Nv st r as with
  |some (x,t1),some (y,t2)=>some ((x,y),t1++t2)
  |_,_=>none
 |_,_=>none
def jw (st:St) (l:Nat):(c:CK)->Option c.den
 | .Fm _=>none
 | .row e te=>match st.at l with
  |some (.arr _ _ e' Ky xs)=>if h:e'=e/\Ky=te then some (h.1▸xs) else none
  |_=>none
 | .Ds e te=>match st.at l with
  |some (.Dc e' Ky xs)=>if h:e'=e/\Ky=te then some (h.1▸xs) else none
  |_=>none
 | .part _ _=>none
 | .Ak _ _ _=>none
def Jb (st:St):(k:Nat)->(cs:List (Bool×CK))->Option (IOs.den cs)
 |_,[]=>some ()
 |k,(true, .Fm _)::r=>Jb st (k+1) r
 |k,(true, .Ak _ _ _)::r=>Jb st (k+1) r
 |k,(true, .row e te)::r=>match jw st (Bu true k) (.row e te),Jb st (k+1) r with
  |some x,some y=>some (x,y)
  |_,_=>none
 |k,(true, .Ds e te)::r=>match jw st (Bu true k) (.Ds e te),Jb st (k+1) r with
  |some x,some y=>some (x,y)
  |_,_=>none
 |k,(true, .part e te)::r=>match jw st (Bu true k) (.row e te),Jb st (k+1) r with
  |some x,some y=>some (x,y)
  |_,_=>none
 |k,(false,_)::r=>Jb st (k+1) r
def Ju:(k:Nat)->List (Bool×CK)->List Nat
 |_,[]=> []
 |k,(true, .Fm _)::r=>Ju (k+1) r
 |k,(true, .Ak _ _ _)::r=>Ju (k+1) r
 |k,(true,_)::r=>Bu true k::Ju (k+1) r
 |k,(false,_)::r=>Ju (k+1) r
def Lp:Nat:=1900000000
def Ex:(k:Nat)->List (Bool×CK)->List AC->Option (List AC)
 |_,_,[]=>some []
 |k,(true, .row _ _)::r, .own l _ _::as=>if Nat.beq l (Bu true k) then Ex (k+1) r as else none
 |k,(true, .Ds _ _)::r, .own l _ _::as=>if Nat.beq l (Bu true k) then Ex (k+1) r as else none
 |k,(false,_)::r,a::as=>(Ex (k+1) r as).map λl=>a::l
 |_,_,_=>none
def bT (st:St):List AC->List (Bool×CK)->Prop
 | .own l off len::as,(true,_)::r=>(off=0/\match st.at l with
  |some (.arr _ _ _ _ xs)=>len=xs.length
  |some (.Dc _ _ xs)=>len=xs.length
  |_=>False)/\bT st as r
 |_::as,(false,_)::r=>bT st as r
 |_,_=>True
def yU (s:MSpec) (st:St) (l:List AV):Option (List AC×List Nat):=match s.rp with
 |none=>if s.Ef=Nat.blt 1 l.length then (ungroup s.Gb l).map λas=>(as,[]) else none
 |some tid=>match l with
  | [.at (.Dx m i)]=>match st.at m with
   |some (.var Np vs)=>if Np=tid/\i=0/\Nat.blt m Aj=true then some (vs,[m]) else none
   |_=>none
  |_=>none
def qg (st:St) (n:Nat) (as:List AC):List (Nat×Nat)->Prop
 | []=>True
 |(k,j)::r=>(match as[j]? with
  |some (.own l _ _)=>match st.at l with
   |some (.Ak _ _ _ _ (some p))=>p.1=Bu false k/\n<=p.2/\Nat.blt k 1000=true
   |_=>False
  |_=>False)/\qg st n as r
def di (s:MSpec) (fn:Func) (x:Ins.den s.ins) (st:St) (cs:List AC) (P:CKs.den s.outs×IOs.den s.ins->Prop):Prop:=
 match Wv T st fn.results.toList with
 |none=>False
 |some l=>match yU s st l with
  |none=>False
  |some (as,ml)=>match Nv st s.outs (cs++as),Jb st 0 s.ins with
   |some (r,ls),some o=>(Sm (ml++ls++Ju 0 s.ins)&&Nat.blt s.ins.length 1000&&Nat.blt s.outs.length 1000&&s.IM)=true/\qg st (s.Cs x) (cs++as) s.keeps/\P (r,o)
   |_,_=>False
def FX (s:MSpec) (fn:Func) (x:Ins.den s.ins) (st:St) (P:CKs.den s.outs×IOs.den s.ins->Prop):Prop:=
 match s.ptr with
 |none=>di T s fn x st [] P
 |some p=> ∃vs cs,st.at Lp=some (.var p.1 vs)/\vs.length=p.2/\Ex 0 s.ins vs=some cs/\bT st vs s.ins/\di T s fn x st cs P
def Su (s:MSpec) (as:List AC):List AV:=match s.ptr with
 |none=>Mg s.Gv as
 |some p=> .at (.Dx Lp 0)::Mg s.Gv (as.drop p.2)
def jJ (s:MSpec) (x:Ins.den s.ins):List (Nat×OB):=match s.ptr with
 |none=>Rt 0 s.ins x
 |some p=>Rt 0 s.ins x++ [(Lp, .var p.1 ((Us 0 s.ins x).take p.2))]
def Rx:List (Bool×CK)->Bool
 | []=>true
 |(true, .Ak _ _ _)::_=>false
 |_::r=>Rx r
def sF (s:MSpec):Bool:=Rx s.ins&&match s.ptr with
 |none=>true
 |some p=>Nat.ble p.2 s.ins.length
def OC (Γ:Env) (s:MSpec) (fn:Func) (x:Ins.den s.ins) (P:CKs.den s.outs×IOs.den s.ins->Prop):Prop:=
 (Nat.blt s.ins.length 1000&&sF s)=true/\ ∃c,fn.body=some c/\Iw T Γ (sk T.marks fn c) c {tmps:=Su s (Us 0 s.ins x)++List.replicate (fn.ntmps-(Su s (Us 0 s.ins x)).length) .undef,heap:=jJ s x}
  (λe st=>(∀id,e≠ .exit id)/\FX T s fn x st P)
def FY (Γ:Env) (s:Spec) (fn:Func) (x:s.arg.den) (P:s.res.den->Prop):Prop:=
 ∃c,fn.body=some c/\Iw T Γ (sk T.marks fn c) c {tmps:=Md s.arg x++List.replicate (fn.ntmps-(Md s.arg x).length) .undef,heap:= []}
  (λe st=>(∀id,e≠ .exit id)/\ ∃fr y,fZ T s fn st=some (fr,y)/\(fr||!s.fresh)=true/\P y)
end Go.Proofs.Ytjbdmibbbpdnnaa
