/-
  Part 3 of the proof that the statement FnExactProvesNoSolutionWithin holds.
-/
import Derived.Test.YtfolipnappekaaaGreatCProvesNoSolutionWithin01
namespace Go.Proofs.YtfolipnappekaaaGreat
open Go.RowKit
def Dr:Nat->St->List AC->Option (List AC×St)
 |0,st,cs=>if cs.all (·.settled) then some (cs,st) else none
 |n+1,st,cs=>
  match cs.find? (λc=>!c.settled) with
  |none=>some (cs,st)
  |some (.own l _ _)=>match st.at l with
   |some (.arr fr _ e _ xs)=>Dr n (st.freeze l fr e xs) (cs.map (Bh l fr e xs))
   |some (.Dg e _ xs)=>Dr n (st.freeze l false e xs) (cs.map (Bh l false e xs))
   |_=>none
  |some (.Gd l)=>match st.at l with
   |some (.Qi v m)=>Dr n (st.Eo l v m) (cs.map (Dl l v m))
   |_=>none
  |some _=>none
def settle (st:St):AV->Option (AV×St)
 | .at (.own l off len)=>match st.at l with
  |some (.arr fr _ e _ xs)=>some (.at (.data fr (.slice e) ((xs.drop off).take len)),st.freeze l fr e xs)
  |some (.Dg e _ xs)=>some (.at (.data false (.slice e) ((xs.drop off).take len)),st.freeze l false e xs)
  |_=>none
 | .at (.Gd l)=>match st.at l with
  |some (.Qi v m)=>some (.at (.data false (.smap v) m),st.Eo l v m)
  |_=>none
 | .at a=>if a.settled then some (.at a,st) else none
 | .agg cs=>(Dr cs.length st cs).map λp=>(.agg p.1,p.2)
 | .Xa fr τ x=>some (.Xa fr τ x,st)
 | .Ih _=>none
def AC.refs:AC->List Nat
 | .own l _ _| .Dt l _| .Fy l _| .Gd l| .sub l _ _| .Fu l _ _=> [l]
 | .clo _ Ca=>Ca.map (·.1)
 |_=> []
def Vg:List Nat->Bool
 | []=>true
 |a::r=>!r.contains a&&Vg r
def Ty.tree:Ty->Bool
 | .int _| .bool| .str| .unit=>true
 | .slice e=>e.tree
 | .pair a r=>a.tree&&r.tree
 |_=>false
def Mz (st:St):AC->Bool
 | .data _ τ _=>τ.flat
 | .Hr=>true
 | .own l _ _=>match st.at l with
  |some (.arr _ tr e _ _)=>tr||e.flat
  |some (.Dg _ _ _)=>true
  |_=>false
 |_=>false
def Oc (st:St):AV->Bool
 | .at a=>Mz st a
 | .agg cs=>cs.all (Mz st)&&Vg (cs.flatMap AC.refs)
 |_=>false
def Am:Nat:=1000000000
variable (T:Tab)
def JB (t:TypeId) (τ:Ty) (i:Nat):Option TypeId:=
 if τ.Ac then (List.range 24).findSome? λf=>match T.off t f with
  |some (o,u)=>if o=i then some u else none
  |none=>none
 else some t
def Tab.JK (te:TypeId):Option Ty:=if T.RD.contains te then (match T.ty te with
 |some (.slice e)=>some e
 |_=>none) else none
def ay (te:TypeId) (e:Ty):OB:=match T.JK te with
 |some e'=> .Al e' te [] none none
 |none=> .arr (T.pK||e.flat) T.xK e te []
def Pj (b:OB) (key l i:Nat) (st:St):St:=
 match st.at l with
 |some (.var _ vs)=>match vs[i]? with
  |some .Hr=>
   let s1:=st.new key b
   match s1.at l with
   |some (.var tid vs')=>s1.Ft l (.var tid (Nm vs' i (.own key 0 0)))
   |_=>s1
  |_=>st
 |_=>st
def bS (l:Nat) (t:TypeId) (τ:Ty):Nat->Nat->St->St
 |0,_,st=>st
 |n+1,i,st=>
  bS l t τ n (i+1) (match ((JB T t τ i).bind T.elem).bind λte=>(T.ty te).map λe=>(te,e) with
   |some (te,e)=>Pj (ay T te e) (100000+l*100+i) l i st
   |none=>st)
def aT (l off:Nat) (t:TypeId) (τ:Ty):Nat->Nat->St->St
 |0,_,st=>st
 |n+1,i,st=>
  aT l off t τ n (i+1) (match ((JB T t τ i).bind T.elem).bind λte=>(T.ty te).map λe=>(te,e) with
   |some (te,e)=>Pj (ay T te e) (100000+l*100+(off+i)) l (off+i) st
   |none=>st)
def zeroCells:(τ:Ty)->List AC
 | .unit=> []
 | .pair a r=>zeroCells a++zeroCells r
 | .slice _=> [.Hr]
 | .oslice _=> [.Hr]
 | .ptr _=> [.Rp]
 | .optr _=> [.Rp]
 | .clo _ _=> [.undef]
 |τ=> [.data true τ τ.zero]
def cellsOf (τ:Ty):AV->Option (List AC)
 | .agg cs=>if τ.Ac&&cs.length==τ.size then some cs else none
 | .at (.data fr Jr x)=>if Jr=τ then some (Nf fr Jr x) else none
 | .at .undef=>none
 | .at .skip=>none
 | .at a=>if τ.Ac then none else some [a]
 |_=>none
def mkVar (st:St) (l:Nat) (t:TypeId) (τ:Ty) (cs:List AC):Option (AV×St):=
 if Am<=100000+l*100+cs.length then none else
 let s:=bS T l t τ cs.length 0 (st.new l (.var t (cs.map (Bd l))))
 match s.at l with
 |some (.var _ _)=>some (.at (.Dt l 0),s)
 |_=>none
def Bs {α:Type} (xs:List α) (i:Nat) (ys:List α):List α:=xs.take i++ys++xs.drop (i+ys.length)
def Pr (st:St) (t:TypeId) (p v:AV):Option St:=
 match T.ty t,p with
 |some τ, .at (.Dt l i)=>match st.at l,cellsOf τ v with
  |some (.var tid vs),some cs=>if i+cs.length<=vs.length then some (if τ.Ac&&Nat.blt (100000+l*100+(i+cs.length)) Am then aT T l i t τ cs.length 0 (st.Ft l (.var tid (Bs vs i cs))) else st.Ft l (.var tid (Bs vs i cs))) else none
  |_,_=>none
 |some τ, .at (.Fy l j)=>match settle st v with
  |some (v',st')=>match st'.at l,Cv st' τ v' with
   |some (.arr fr tr e tid xs),some (Qt,x)=>if h:τ=e then (if j<xs.length then some (st'.Ft l (.arr (fr&&Qt) (tr&&(Oc st v&&e.tree)) e tid (xs.set j (h▸x)))) else none) else none
   |_,_=>none
  |none=>none
 |_,_=>none
def Be:Nat:=4294967296
def Jj (st:St) (dst:Nat) (t:TypeId) (x y:Operand):Option (AV×St):=
 match T.elem t with
 |none=>none
 |some te=>match T.ty te,settle st (st.ev y) with
  |some e,some (y',st')=>match Cv st' (.slice e) y' with
   |none=>none
   |some (oI,ys)=>
    let tr2:=e.flat||(Oc st (st.ev y)&&e.tree)
    match st'.ev x with
    | .at .Hr=>if ys.length<=Be/\dst<Am then some (.at (.own dst 0 (0+ys.length)),(st'.new dst (.arr (T.pK||e.flat) T.xK e te [])).new dst (.arr ((T.pK||e.flat)&&(oI||e.flat)) (T.xK&&tr2) e te (((([]:List e.den).drop 0).take 0)++ys))) else none
    | .at (.own l off len)=>match st'.at l with
     |some (.arr fr tr e' tid xs)=>if h:e'=e/\tid=te then
       (if len+ys.length<=Be/\l<Am then
        some (.at (.own l 0 (len+ys.length)),st'.new l (.arr (fr&&(oI||e.flat)) (tr&&tr2) e te ((((h.1▸xs:List e.den).drop off).take len)++ys))) else none)
      else none
     |_=>none
    |_=>none
  |_,_=>none
def Lf (st:St) (l i m:Nat) (e:Ty) (te tid:TypeId) (rows:List (List e.den)) (kp:Option (Nat×Nat)):St:=
 (st.Ft l (.Al e te rows (some i) kp)).new m (.arr false false e tid (rows.getD i []))
def Mj (st:St) (dst:Nat) (t:TypeId) (x y:Operand):Option (AV×St):=
 match x with
 | .tmp tx=>match st.get tx with
  | .at (.sub l i _)=>match st.at l,T.elem t with
   |some (.Al e te rows none kp),some tid=>if (Nat.blt l Am&&(Nat.blt dst Am&&!Nat.beq dst l))=true then Jj T ((Lf st l i dst e te tid rows kp).put (some tx) (.at (.own dst 0 (rows.getD i []).length))) dst t x y else none
   |_,_=>none
  |_=>Jj T st dst t x y
 |_=>Jj T st dst t x y
def jk:Ty->Bool
 | .int _| .bool| .str| .slice _| .oslice _=>true
 |_=>false
def cq:Ty->Bool
 | .unit=>true
 | .pair a r=>cq a&&cq r
 |e=>jk e
def Xi (st:St) (dst:Nat) (t:TypeId) (l c:AV):Option (AV×St):=
 match T.elem t,l,c with
 |some te, .at (.data _ (.int _) n), .at (.data _ (.int _) m)=>match T.ty te with
  |some e=>if inb n (Be+1)=true/\n=m/\cq e=true/\dst<Am then some (.at (.own dst 0 n.toNat),st.new dst (.arr (T.pK||e.flat) (T.xK&&e.tree) e te (List.replicate n.toNat e.zero))) else none
  |none=>none
 |_,_,_=>none
def Gu (e:Ty):Nat->List (Nat×Operand)->St->Option (Bool×Bool×List e.den×St)
 |_,[],st=>some (true,true,[],st)
 |i,(j,x)::r,st=>
  if i=j then match settle st (st.ev x) with
   |some (v,st')=>match Cv st' e v with
    |some (fr,y)=>match Gu e (i+1) r st' with
     |some (Qt,VS,ys,Anx)=>some (fr&&Qt,Oc st (st.ev x)&&e.tree&&VS,y::ys,Anx)
     |none=>none
    |none=>none
   |none=>none
  else none
def Hv (st:St) (dst:Nat) (t:TypeId) (len:Nat) (parts:Array (Nat×Operand)):Option (AV×St):=
 match T.elem t with
 |none=>none
 |some te=>match T.ty te with
  |none=>none
  |some e=>if parts.size=len/\len<=64/\e.size<=64/\dst<Am then (match Gu e 0 parts.toList st with
   |some (fr,tr,ys,st')=>some (.at (.own dst 0 len),st'.new dst (.arr ((T.pK||e.flat)&&fr) (T.xK&&tr) e te ys))
   |none=>none) else none
def Pq (st:St) (dst:Nat) (t:TypeId):Option (AV×St):=
 match T.mapOf t with
 |some v=>if dst<Am then some (.at (.Gd dst),st.new dst (.Qi v λ_=>none)) else none
 |none=>none
def eQ {α:Type} (m:ByteArray->Option α) (k:ByteArray) (x:α):ByteArray->Option α:= λs=>if s=k then some x else m s
def Ex (st:St) (t:TypeId) (m k x:AV):Option St:=
 match T.mapOf t,m,k with
 |some v, .at (.Gd l), .at (.data _ .str s)=>match st.at l,Cv st v x with
  |some (.Qi v' f),some (_,y)=>if h:v'=v/\v.flat=true/\v.Ac=false then some (st.Ft l (.Qi v (eQ (h.1▸f:ByteArray->Option v.den) s y))) else none
  |_,_=>none
 |_,_,_=>none
def dA (st:St) (t t':TypeId) (x y:AV):Option (AV×St):=
 match x,(T.elem t).bind T.ty with
 | .at (.own l off len),some e=>if T.elem t=T.elem t'/\e.flat=true/\e.size=1 then match st.at l,Cv st (.slice e) y with
  |some (.arr fr _ e' tid xs),some (_,ys)=>if h:e'=e/\T.elem t=some tid then
    some (.at (.data true (.int .i64) (min len ys.length:Nat)),st.Ft l (.arr fr false e tid (Bs (h.1▸xs:List e.den) off (ys.take len))))
   else none
  |_,_=>none
  else none
 |_,_=>none
def evalClear (st:St) (t:TypeId) (x:AV):Option St:=
 match x,(T.elem t).bind T.ty with
 | .at (.own l off len),some e=>if e.flat=true/\jk e=true then match st.at l with
  |some (.arr fr _ e' tid xs)=>if h:e'=e/\T.elem t=some tid then
    some (st.Ft l (.arr fr false e tid (Bs (h.1▸xs:List e.den) off (List.replicate len e.zero))))
   else none
  |_=>none
  else none
 |_,_=>none
def Hu (st:St) (t:TypeId):List (Nat×Operand)->List AC->Option (List AC)
 | [],cs=>some cs
 |(i,x)::r,cs=>
  match T.off t i with
  |some (o,u)=>match T.ty u with
   |some ρ=>match cellsOf ρ (st.ev x) with
    |some c=>if o+c.length<=cs.length then Hu st t r (Bs cs o c) else none
    |none=>none
   |none=>none
  |none=>none
def Sk (st:St) (t:TypeId) (parts:Array (Nat×Operand)):Option AV:=
 match T.ty t with
 |none=>none
 |some τ=>if τ.Ac then (Hu T st t parts.toList (zeroCells τ)).map .agg else none
def Bu (io:Bool) (k:Nat):Nat:=if io then 1000000000+k else 500000+k
def Fz (k:Nat):Nat:=600000+k
def TR (dst:Nat) (k:Nat):Nat:=1000000*(dst+1)+k
def Nu:List (Option Nat)->List AC->List AV
 |none::s,a::as=> .at a::Nu s as
 |some n::s,as=> .agg (as.take n)::Nu s (as.drop n)
 |_,_=> []
def Gi:List (Option Nat)->List Value->List Value
 |none::s,u::us=>u::Gi s us
 |some n::s,us=> .agg (us.take n).toArray::Gi s (us.drop n)
 |_,_=> []
def ungroup:List (Option Nat)->List AV->Option (List AC)
 | [],[]=>some []
 |none::s, .at a::as=>(ungroup s as).map λr=>a::r
 |some n::s, .agg cs::as=>if cs.length=n then (ungroup s as).map λr=>cs++r else none
 |some n::s, .at (.data fr τ x)::as=>if τ.Ac=true/\(Nf fr τ x).length=n then (ungroup s as).map λr=>Nf fr τ x++r else none
 |_,_=>none
def ga (l:Nat):(c:CK)->c.den->Option OB
 | .Dm _,_=>none
 | .row e te,xs=>some (.arr false false e te xs)
 | .Du e te,xs=>some (.Dg e te xs)
 | .part e te,x=>some (.arr false false e te x.1)
 | .Al e te kp,xs=>some (.Al e te xs none (if kp then some (l,List.length xs) else none))
def Aku (l:Nat):(c:CK)->c.den->AC
 | .Dm τ,x=> .data τ.flat τ x
 | .row _ _,xs=> .own l 0 (List.length xs)
 | .Du _ _,xs=> .own l 0 (List.length xs)
 | .part _ _,x=> .own l x.2.1 x.2.2
 | .Al _ _ _,xs=> .own l 0 (List.length xs)
def du {α:Type} (l:Nat):Option α->List (Nat×α)->List (Nat×α)
 |none,r=>r
 |some b,r=>(l,b)::r
def Ul:(k:Nat)->(cs:List (Bool×CK))->Ins.den cs->List (Nat×OB)
 |_,[],_=> []
 |k,p::r,x=>du (Bu p.1 k) (ga (Bu p.1 k) p.2 x.1) (Ul (k+1) r x.2)
def Xo:(k:Nat)->(cs:List (Bool×CK))->Ins.den cs->List AC
 |_,[],_=> []
 |k,p::r,x=>Aku (Bu p.1 k) p.2 x.1::Xo (k+1) r x.2
inductive Loc where
 |row (l:Nat)
 |sub (l i c:Nat)
 |view (l:Nat)
 deriving DecidableEq
def Loc.Ro:Loc->Nat
 | .row l=>l
 | .sub l _ _=>l
 | .view l=>l
def Loc.reads:Loc->Bool
 | .view _=>true
 |_=>false
def Yg (st:St) (ls:List Nat):Bool:=ls.all λl=>match st.at l with|some (.var _ vs)=>vs.all (·.settled)|_=>false
def views (k:Nat) (ls:List Nat):List (Nat×Loc):=ls.map λl=>(Bu false k, .view l)
def Hl (st:St) (io:Bool) (k:Nat):(c:CK)->AC->Option (c.den×List (Nat×Loc))
 | .Dm τ, .own l off len=>(Bp st τ (.own l off len)).map λp=>(p.2,[(Bu false k, .view l)])
 | .Dm τ, .clo g Ca=>if Yg st (Ca.map (·.1))&&!τ.Ac then (Fp st τ (.clo g Ca)).map λp=>(p.2,views k (Ca.map (·.1))) else none
 | .Dm τ, .Dt l i=>if Yg st [l]&&!τ.Ac then (Fp st τ (.Dt l i)).map λp=>(p.2,views k [l]) else none
 | .Dm τ, .sub l i c=>(Bp st τ (.sub l i c)).map λp=>(p.2,[(Bu false k, .view l)])
 | .Dm τ,a=>if τ.flat||a.settled then (Bp st τ a).map λp=>(p.2,[]) else none
 | .row e te, .own l off len=>match st.at l with
  |some (.arr _ _ e' Mf xs)=>if h:e'=e/\Mf=te/\off=0/\len=xs.length then some ((h.1▸xs:List e.den),[(Bu io k, .row l)]) else none
  |_=>none
 | .row e _, .sub l i c=>match st.at l with
  |some (.Dg e' _ xs)=>if h:e'= .slice e/\e.flat=true/\io=true/\c=0 then xs[i]?.map λy=>((h.1▸y:(Ty.slice e).den),[(Bu io k, .sub l i c)]) else none
  |_=>none
 | .row _ _, .Hr=>some ([],[])
 | .Du e te, .own l off len=>match st.at l with
  |some (.Dg e' Mf xs)=>if h:e'=e/\Mf=te/\off=0/\len=xs.length then some ((h.1▸xs:List e.den),[(Bu io k, .row l)]) else none
  |_=>none
 | .Du e _, .sub l i c=>match st.at l with
  |some (.Dg e' _ xs)=>if h:e'= .slice e/\io=true/\c=0 then xs[i]?.map λy=>((h.1▸y:(Ty.slice e).den),[(Bu io k, .sub l i c)]) else none
  |_=>none
 | .Du _ _, .Hr=>some ([],[])
 | .part e te, .own l off len=>match st.at l with
  |some (.arr _ _ e' Mf xs)=>if h:e'=e/\Mf=te/\e.flat=true/\io=true then some (((h.1▸xs:List e.den),off,len),[(Bu io k, .row l)]) else none
  |_=>none
 | .Al e te _, .own l off len=>match st.at l with
  |some (.Al e' Mf rows none _)=>if h:e'=e/\Mf=te/\off=0/\len=rows.length/\io=false then some ((h.1▸rows:List (List e.den)),[(Bu io k, .row l)]) else none
  |_=>none
 |_,_=>none
def ck (st:St):(k:Nat)->(cs:List (Bool×CK))->List AC->Option (Ins.den cs×List (Nat×Loc))
 |_,[],[]=>some ((),[])
 |k,p::r,a::as=>match Hl st p.1 k p.2 a,ck st (k+1) r as with
  |some (x,t1),some (y,t2)=>some ((x,y),t1++t2)
  |_,_=>none
 |_,_,_=>none
def Ym (st:St):(c:CK)->c.den->AC->Option St
 | .row e _,ys, .own l _ len=>match st.at l with
  |some (.arr fr tr e' te xs)=>if h:e=e'/\List.length ys=len/\xs.length=len then some (st.Ft l (.arr (fr&&e'.flat) (tr&&e'.flat) e' te (h.1▸ys))) else none
  |_=>none
 | .Du e _,ys, .own l _ len=>match st.at l with
  |some (.Dg e' te xs)=>if h:e=e'/\List.length ys=len/\xs.length=len then some (st.Ft l (.Dg e' te (h.1▸ys))) else none
  |_=>none
 | .row e _,ys, .sub l i _=>match st.at l with
  |some (.Dg e' te xs)=>if h: .slice e=e' then (match xs[i]? with
   |some y=>if List.length ys=List.length (h▸y:(Ty.slice e).den) then some (st.Ft l (.Dg e' te (xs.set i (h▸(ys:(Ty.slice e).den))))) else none
   |none=>none) else none
  |_=>none
 | .Du e _,ys, .sub l i _=>match st.at l with
  |some (.Dg e' te xs)=>if h: .slice e=e' then (match xs[i]? with
   |some y=>if List.length ys=List.length (h▸y:(Ty.slice e).den) then some (st.Ft l (.Dg e' te (xs.set i (h▸(ys:(Ty.slice e).den))))) else none
   |none=>none) else none
  |_=>none
 |_,_, .Hr=>some st
 |_,_,_=>none
def GH (st:St) (e:Ty) (ys:List e.den):AC->Option St
 | .own l _ _=>match st.at l with
  |some (.arr fr tr e' te xs)=>if h:e=e'/\List.length ys=xs.length then some (st.Ft l (.arr fr tr e' te (h.1▸ys))) else none
  |_=>none
 |_=>none
def Ef:(cs:List (Bool×CK))->IOs.den cs->List AC->St->Option St
 | [],_,_,st=>some st
 |(true, .Dm _)::r,x,_::as,st=>Ef r x as st
 |(true, .row e te)::r,x,a::as,st=>match Ym st (.row e te) x.1 a with
  |some st'=>Ef r x.2 as st'
  |none=>none
 |(true, .Du e te)::r,x,a::as,st=>match Ym st (.Du e te) x.1 a with
  |some st'=>Ef r x.2 as st'
  |none=>none
 |(true, .part e _)::r,x,a::as,st=>match GH st e x.1 a with
  |some st'=>Ef r x.2 as st'
  |none=>none
 |(true, .Al _ _ _)::r,x,_::as,st=>Ef r x as st
 |(false,_)::r,x,_::as,st=>Ef r x as st
 |_,_,_,_=>none
def Ba (dead part:List Nat) (c:AC):AC:=if c.refs.any (λl=>dead.contains l) then .undef else match c with
 | .sub l i c=>if part.contains l then .undef else .sub l i c
 | .Fu l i c=>if part.contains l then .undef else .Fu l i c
 |c=>c
def Si:List (Nat×OB)->List Nat->List (Nat×OB)
 | [],_=> []
 |(k,b)::r,dead=>if dead.contains k then Si r dead else (k,b)::Si r dead
def St.Yx (st:St) (dead part:List Nat):St:=let s:=st.Gl (Ba dead part); {s with heap:=Si s.heap dead}
def Og (st:St) (l j m:Nat) (e:Ty) (te:TypeId) (rows:List (List e.den)) (xs:List e.den) (kp:Option (Nat×Nat)):St:=
 (st.Yx [m] [l]).Ft l (.Al e te (rows.set j xs) none kp)
def Xr (j:Nat):Option (Nat×Nat)->Option (Nat×Nat)
 |none=>none
 |some p=>some (p.1,min p.2 j)
def Xj (st:St) (t:TypeId) (p v:AV):Option St:=
 match T.ty t,p with
 |some τ, .at (.Fu l i j)=>match settle st v with
  |some (v',st')=>match st'.at l,Cv st' τ v' with
   |some (.Al e te rows none kp),some (_,x)=>if h:τ=e then some (st'.Ft l (.Al e te (rows.set i ((rows.getD i []).set j (h▸x))) none kp)) else none
   |_,_=>none
  |none=>none
 |some τ, .at (.Fy l j)=>match st.at l,v with
  |some (.Al e te rows out kp), .at (.own m off len)=>match st.at m with
   |some (.arr _ _ e' _ xs)=>if h:e'=e/\(Nat.blt l Am&&(!Nat.beq m l&&!τ.Ac))=true/\off=0/\len=xs.length/\(out=none\/out=some j) then some (Og st l j m e te rows (h.1▸xs) (Xr j kp)) else none
   |_=>none
  |_,_=>none
 |_,_=>none
def JL (st:St):AV->Bool
 | .at (.Fu _ _ _)=>true
 | .at (.Fy l _)=>match st.at l with
  |some (.Al _ _ _ _ _)=>true
  |_=>false
 |_=>false
def Kw (st:St) (t:TypeId) (p v:AV):Option St:=match JL st p with
 |true=>Xj T st t p v
 |false=>Pr T st t p v
def Lz (st:St) (k m:Nat) (b:OB):St:=let s:=st.Yx [m,k] []; {s with heap:=Jt s.heap k b}
def aG (t:TypeId):Option (TypeId×Ty):=(T.elem t).bind λte=>(T.JK te).map λe=>(te,e)
def Sn (st:St) (dst:Nat) (t:TypeId) (l c:AV):Option (AV×St):=
 match aG T t with
 |none=>Xi T st dst t l c
 |some (te,e)=>match l,c with
  | .at (.data _ (.int _) n), .at (.data _ (.int _) m)=>if inb n (Be+1)=true/\n=m/\dst<Am then some (.at (.own dst 0 n.toNat),Lz st dst dst (.Al e te (List.replicate n.toNat []) none none)) else none
  |_,_=>none
def Eu (st:St) (dst:Nat) (t:TypeId) (len:Nat) (parts:Array (Nat×Operand)):Option (AV×St):=
 match aG T t with
 |none=>Hv T st dst t len parts
 |some (te,e)=>match parts.toList with
  | [(0,x)]=>match st.ev x with
   | .at (.own m off ln)=>match st.at m with
    |some (.arr _ _ e' _ xs)=>if h:e'=e/\(Nat.beq len 1&&(Nat.blt dst Am&&Nat.blt m Am))=true/\off=0/\ln=xs.length then some (.at (.own dst 0 1),Lz st dst m (.Al e te [h.1▸xs] none none)) else none
    |_=>none
   |_=>none
  |_=>none
def Mk (st:St) (dst:Nat) (t:TypeId) (x y:Operand):Option (AV×St):=
 match aG T t with
 |none=>Mj T st dst t x y
 |some (te,e)=>match st.ev x,st.ev y with
  | .at (.own l off len), .at (.own m TU qh)=>match st.at l,st.at m with
   |some (.Al e1 te1 A none _),some (.Al e2 tw B none _)=>
    if h:(e1=e/\e2=e)/\(decide (te1=te)&&decide (tw=te)&&(Nat.blt l Am&&(Nat.blt m Am&&!Nat.beq m l)))=true/\(off=0/\len=A.length)/\(TU=0/\qh=B.length)/\0<B.length/\A.length+B.length<=Be then
     some (.at (.own l 0 (A.length+B.length)),Lz st l m (.Al e te ((h.1.1▸A:List (List e.den))++(h.1.2▸B:List (List e.den))) none none))
    else none
   |_,_=>none
  |_,_=>none
def sD (fr:Bool):(c:CK)->c.den->Option OB
 | .Dm _,_=>none
 | .row e te,xs=>some (.arr (fr&&e.flat) false e te xs)
 | .Du e te,xs=>some (.Dg e te xs)
 | .part e te,x=>some (.arr (fr&&e.flat) false e te x.1)
 | .Al e te _,xs=>some (.Al e te xs none none)
def zp (H:List (Nat×OB)) (l:Nat):Option OB->List (Nat×OB)
 |some b=>Jt H l b
 |none=>H
def Sx (fr:Bool) (key:Nat->Nat):(k:Nat)->(cs:List CK)->CKs.den cs->List (Nat×OB)->List (Nat×OB)
 |_,[],_,H=>H
 |k,c::r,x,H=>Sx fr key (k+1) r x.2 (zp H (key k) (sD fr c x.1))
def Xv (key:Nat->Nat):(k:Nat)->(cs:List CK)->CKs.den cs->List AC
 |_,[],_=> []
 |k,c::r,x=>(match c,x.1 with
  | .Dm τ,y=> .data τ.flat τ y
  | .row _ _,xs=> .own (key k) 0 (List.length xs)
  | .Du _ _,xs=> .own (key k) 0 (List.length xs)
  | .Al _ _ _,xs=> .own (key k) 0 (List.length xs)
  | .part _ _,_=> .undef)::Xv key (k+1) r x.2
def Vh:List (Option Nat)->List AC->List (Bool×List AC)
 |none::s,a::as=>(false,[a])::Vh s as
 |some n::s,as=>(true,as.take n)::Vh s (as.drop n)
 |_,_=> []
def Aio (Ct:Bool) (sh:List (Option Nat)) (as:List AC):Option AV:=
 if Ct then some (.Ih (Vh sh as)) else match Nu sh as with
  | [v]=>some v
  | []=>some .undef
  |_=>none
def jD (tks:List (Nat×Loc)):List Nat:=(tks.filter λt=>Nat.blt t.1 Am&&!t.2.reads).map λt=>t.2.Ro
def whole (tks:List (Nat×Loc)):List Nat:=tks.flatMap λt=>match t.2 with| .row l=> [l]|_=> []
def xP (tks:List (Nat×Loc)):List Nat:=(tks.filter λt=>t.2.reads).map λt=>t.2.Ro
def zA (ins:List (Bool×CK)) (te:TypeId) (used:List Nat):List (Nat×Loc)->Option Nat
 | []=>none
 |(k, .row l)::r=>if Nat.blt k Am&&(!used.contains l&&(match ins[k-500000]? with
   |some (false, .row _ Mf)=>decide (Mf=te)
   |some (false, .Du _ Mf)=>decide (Mf=te)
   |some (false, .Al _ Mf _)=>decide (Mf=te)
   |_=>false)) then some l else zA ins te used r
 |_::r=>zA ins te used r
def EY (ins:List (Bool×CK)) (tks:List (Nat×Loc)) (d:Nat):(k:Nat)->(used:List Nat)->List CK->List Nat
 |_,_,[]=> []
 |k,used,c::r=>match (match c with
   | .row _ te=>zA ins te used tks
   | .Du _ te=>zA ins te used tks
   | .Al _ te _=>zA ins te used tks
   |_=>none) with
  |some l=>l::EY ins tks d (k+1) (l::used) r
  |none=>TR d k::EY ins tks d (k+1) used r
def jy (s:MSpec) (tks:List (Nat×Loc)) (d:Nat):List Nat:=EY s.ins tks d 0 [] s.outs
def Bz (ks:List Nat) (j:Nat):Nat:=match ks[j]? with
 |some l=>l
 |none=>Am+j
def wD (ks:List Nat) (n:Nat):Bool:=Nat.beq ks.length n&&(Vg ks&&ks.all λl=>Nat.blt l Am)
def JG (st:St) (l:List Nat):Bool:=l.all λk=>match st.at k with|some (.arr fr _ _ _ _)=>fr|_=>false
def KL (st:St) (s:MSpec) (args:List AV):Option (List Nat×List AC×List AV):=
 match s.ptr with
 |none=>some ([],[],args)
 |some p=>match args with
  | .at (.Dt l i)::rest=>match st.at l with
   |some (.var tid vs)=>if tid=p.1/\vs.length=p.2/\i=0 then some ([l],vs,rest) else none
   |_=>none
  |_=>none
def Qw:List (Bool×CK)->List AC->Bool
 |(true, .row _ _)::r, .own _ _ _::as=>Qw r as
 |(true, .Du _ _)::r, .own _ _ _::as=>Qw r as
 |(true,_)::_,_::_=>false
 |(false,_)::r,_::as=>Qw r as
 |_,as=>as.isEmpty
def cM {α:Type} :List (Bool×CK)->List α->List α->List α
 |(true,_)::r,v::vs,as=>v::cM r vs as
 |(false,_)::r,_::vs,a::as=>a::cM r vs as
 |_,vs,_=>vs
def qQ:List (Bool×CK)->Nat->Nat
 |(true,_)::r,n+1=>qQ r n
 |(false,_)::r,n+1=>qQ r n+1
 |_,_=>0
def MSpec.Vr (s:MSpec):Nat:=match s.ptr with|none=>0|some p=>qQ s.ins p.2
def o9 (ins:List (Bool×CK)) (as:List AC) (pl:List Nat) (st:St):St:=
 match pl with
 | []=>st
 |l::_=>match st.at l with
  |some (.var tid vs)=>st.Ft l (.var tid (cM ins vs as))
  |_=>st
def Od (d:Nat):Nat:=TR d 999
def j7 (s:MSpec) (d:Nat):List Nat:=match s.rp with|none=> []|some _=> [Od d]
def Nd (s:MSpec) (tks:List (Nat×Loc)) (d:Nat):List Nat:=jy s tks d++j7 s d
def kb (H:List (Nat×OB)) (l:Nat):Bool:=match Ad H l with
 |some (.Al _ _ _ _ _)=>true
 |_=>false
def Xq (H:List (Nat×OB)) (ks:List Nat) (tks:List (Nat×Loc)):List (Nat×Nat)->List Nat
 | []=> []
 |(k,j)::r=>match tks.find? (λt=>Nat.beq t.1 (Bu false k)),ks[j]? with
  |some (_, .row l),some l'=>if Nat.beq l' l&&kb H l then l::Xq H ks tks r else Xq H ks tks r
  |_,_=>Xq H ks tks r
def oJ (H:List (Nat×OB)) (l:Nat):Nat:=match Ad H l with
 |some (.Al _ _ rows _ _)=>rows.length
 |_=>0
def ak (H:List (Nat×OB)) (ls:List Nat) (n:Nat):List AV->Bool
 | []=>true
 | .at (.sub l i _)::r=>(!ls.contains l||(Nat.blt i n&&Nat.blt i (oJ H l)))&&ak H ls n r
 |_::r=>ak H ls n r
def He (ls:List Nat):List AV->List AV->List AV
 | .at (.sub l i c)::r,v::vs=>(if ls.contains l then .at (.sub l i c) else v)::He ls r vs
 |_::r,v::vs=>v::He ls r vs
 |_,vs=>vs
def Adj:Option OB->Option (Nat×Nat)
 |some (.Al _ _ _ _ kp)=>kp
 |_=>none
def OB.AW (b:OB) (kp:Option (Nat×Nat)):OB:=match b with
 | .Al e te rows out _=> .Al e te rows out kp
 |b=>b
def a7 (H0:List (Nat×OB)) (ls:List Nat) (n:Nat):List (Nat×OB)->List (Nat×OB)
 | []=> []
 |(l,b)::r=>(l,if ls.contains l then b.AW (Xr n (Adj (Ad H0 l))) else b)::a7 H0 ls n r
def iS (Yj st:St) (ls:List Nat) (n:Nat):St:=match ls with
 | []=>st
 |_=> {tmps:=He ls Yj.tmps st.tmps,heap:=a7 Yj.heap ls n st.heap}
def YX (s:MSpec) (d:Nat) (as:List AC):Option AV:=match s.rp with
 |none=>Aio s.Ct s.Di as
 |some _=>some (.at (.Dt (Od d) 0))
def iz (st st1:St) (d:Nat) (s:MSpec) (pl:List Nat) (tks:List (Nat×Loc)) (r:CKs.den s.outs):St:=
 let ks:=Nd s tks d
 let key:=Bz ks
 let st2:=o9 s.ins (Xv key 0 s.outs r) pl (st1.Yx (jD tks++ks++(if s.flat then [] else xP tks)) (whole tks))
 {st2 with heap:=Sx (JG st (jD tks)) key 0 s.outs r (zp st2.heap (Od d) (s.rp.map λtid=> .var tid ((Xv key 0 s.outs r).drop s.Vr)))}
def Sl (st:St) (dst:Option Nat) (s:MSpec) (args:List AV):Option (AV×St):=
 match KL st s args with
 |none=>none
 |some (pl,vs,rest)=>match ungroup s.Eh rest with
 |none=>none
 |some ld=>match ck st 0 s.ins (vs++ld) with
  |none=>none
  |some (x,tks)=>if Vg (tks.map λt=>t.2.Ro)&&wD (Nd s tks (dst.getD 0)) (s.outs.length+(j7 s (dst.getD 0)).length)&&Nat.blt s.outs.length 1000&&Nat.blt s.ins.length 1000&&(Qw s.ins vs&&pl.all λl=>!((tks.map λt=>t.2.Ro)++Nd s tks (dst.getD 0)).contains l) then match s.fn x with
   |none=>none
   |some (r,o)=>match Ef s.ins o (vs++ld) st with
    |none=>none
    |some st1=>match YX s (dst.getD 0) ((Xv (Bz (Nd s tks (dst.getD 0))) 0 s.outs r).drop s.Vr) with
     |none=>none
     |some v=>if ak (iz st st1 (dst.getD 0) s pl tks r).heap (Xq st.heap (Nd s tks (dst.getD 0)) tks s.keeps) (s.Cn x) st.tmps=true then
       some (v,iS st (iz st st1 (dst.getD 0) s pl tks r) (Xq st.heap (Nd s tks (dst.getD 0)) tks s.keeps) (s.Cn x)) else none
   else none
def Kg:List Operand->St->Option St
 | [],st=>some st
 |x::r,st=>match settle st (st.ev x) with
  |some (_,st')=>Kg r st'
  |none=>none
def bN (s:Spec) (args:List AV):Bool:=!(s.fresh||s.res.flat||args.all (·.settled))
def evalOp (Γ:Env) (st:St) (o:Oper):Option (AV×St):=
 match o.op with
 | .assign x=>match st.ev x,o.dst,(T.elem o.type).bind λte=>(T.ty te).map λe=>(te,e) with
  | .at .Hr,some d,some (te,e)=>if d<Am then some (.at (.own d 0 0),st.new d (.arr (T.pK||e.flat) T.xK e te [])) else none
  |v,_,_=>some (v,st)
 | .alloc t=>match o.dst,T.ty t with
  |some d,some τ=>mkVar T st d t τ (zeroCells τ)
  |_,_=>none
 | .box t x=>match o.dst,T.ty t with
  |some d,some τ=>match cellsOf τ (st.ev x) with
   |some cs=>mkVar T st d t τ cs
   |none=>none
  |_,_=>none
 | .store t p x=>(Kw T st t (st.ev p) (st.ev x)).map λs=>(.undef,s)
 | .makeSlice t l c=>match o.dst with
  |some d=>Sn T st d t (st.ev l) (st.ev c)
  |none=>none
 | .makeMap t none=>match o.dst with
  |some d=>Pq T st d t
  |none=>none
 | .mapUpdate t m k x=>(Ex T st t (st.ev m) (st.ev k) (st.ev x)).map λs=>(.undef,s)
 | .insert t m k x=>(Ex T st t (st.ev m) (st.ev k) (st.ev x)).map λs=>(.undef,s)
 | .buildSlice t len parts=>match o.dst with
  |some d=>Eu T st d t len parts
  |none=>none
 | .build t parts=>(Sk T st t parts).map λv=>(v,st)
 | .call {callee:= .builtin .append,args,argTypes} =>match o.dst,args.toList,argTypes.toList with
  |some d,[x,y],[t,t']=>if t=t' then Mk T st d t x y else none
  |_,_,_=>none
 | .call {callee:= .builtin .copy,args,argTypes} =>match args.toList,argTypes.toList with
  | [x,y],[t,t']=>dA T st t t' (st.ev x) (st.ev y)
  |_,_=>none
 | .call {callee:= .builtin .clear,args,argTypes} =>match args.toList,argTypes.toList with
  | [x],[t]=>(evalClear T st t (st.ev x)).map λs=>(.undef,s)
  |_,_=>none
 | .call {callee:= .value (.func f),args, .. } =>match Γ f with
  |some (.m s)=>Sl st o.dst s (args.toList.map st.ev)
  |some (.q s)=>if bN s (args.toList.map st.ev) then (match Kg args.toList st with
   |some st1=>(Cm T Γ st1 o).map λv=>(v,st1)
   |none=>none) else (Cm T Γ st o).map λv=>(v,st)
  |_=>(Cm T Γ st o).map λv=>(v,st)
 |_=>(Cm T Γ st o).map λv=>(v,st)
def bQ (e:Ty):Nat->List (Nat×Operand)->St->Option (Bool×List e.den)
 |_,[],_=>some (true,[])
 |i,(j,x)::r,st=>
  if i=j/\(st.ev x).settled=true then match Cv st e (st.ev x),bQ e (i+1) r st with
   |some (fr,y),some (Qt,ys)=>some (fr&&Qt,y::ys)
   |_,_=>none
  else none
def Xh (st:St) (t:TypeId) (len:Nat) (parts:Array (Nat×Operand)):Option AV:=
 match T.elem t with
 |none=>none
 |some te=>match T.ty te with
  |none=>none
  |some e=>if parts.size=len/\len<=64/\e.size<=64 then (bQ e 0 parts.toList st).map λp=> .at (.data p.1 (.slice e) p.2) else none
def Rv (Γ:Env) (st:St) (o:Oper):Option AV:=
 match o.op with
 | .buildSlice t len parts=>Xh T st t len parts
 | .build t parts=>Sk T st t parts
 |_=>Cm T Γ st o
def TG (q:Bool) (Γ:Env) (o:Oper):Bool:=
 match o.op with
 | .buildSlice _ _ _| .build _ _=>!q
 | .alloc _| .box _ _| .store _ _ _| .makeSlice _ _ _| .makeMap _ _| .mapUpdate _ _ _ _| .insert _ _ _ _=>true
 | .assign (.const _)=>true
 | .call {callee:= .builtin .append, .. } =>true
 | .call {callee:= .builtin .copy, .. } =>true
 | .call {callee:= .builtin .clear, .. } =>true
 | .call {callee:= .value (.func f), .. } =>match Γ f with
  |some (.m _)=>true
  |_=>false
 |_=>false
def Ch (Γ:Env) (ops:Array Oper) (st:St) (o:Oper):Option St:=
 match o.guard with
 |none=>(evalOp T Γ st o).map λr=>r.2.put o.dst r.1
 |some (j,want)=>match Sb st ((ops[j]?).bind (·.dst)) with
  |some (some b)=>if b==want then (evalOp T Γ st o).map λr=>r.2.put o.dst r.1 else some (st.put o.dst (.at .skip))
  |some none=>some (st.put o.dst (.at .skip))
  |none=>none
def Vz (Γ:Env) (ops:Array Oper):List Oper->St->Option St
 | [],st=>some st
 |o::r,st=>match Ch T Γ ops st o with
  |some st'=>Vz Γ ops r st'
  |none=>none
def Fg (q:Bool) (Γ:Env) (ops:Array Oper):List Nat:=
 (List.range ops.size).foldl (init:= []) λacc i=>match ops[i]? with
  |some o=>if TG q Γ o||o.after.any (λe=>Region.binds .any e&&acc.contains e.on) then acc++ [i] else acc
  |none=>acc
def Za (q:Bool) (Γ:Env) (ops:Array Oper):List Nat:=(List.range ops.size).filter λi=>!(Fg q Γ ops).contains i
def ka (ops:Array Oper) (hd tl:List Nat) (i:Nat):Bool:=
 match ops[i]? with
 |some o=>(match o.op,o.guard with
  | .move (.tmp _),none=>true
  |_,_=>false)&&!((tl.take 1++hd).any λj=>decide (i<j)&&Region.waitsFor .any ops j i)
 |none=>false
def Qs (q:Bool) (Γ:Env) (ops:Array Oper):List Nat:=(Za q Γ ops).filter λi=>ka ops (Za q Γ ops) (Fg q Γ ops) i
def Qu (q:Bool) (Γ:Env) (ops:Array Oper):List Nat:=(Za q Γ ops).filter λi=>!ka ops (Za q Γ ops) (Fg q Γ ops) i
def fk (q:Bool) (Γ:Env) (ops:Array Oper):List Nat:=Qs q Γ ops++Qu q Γ ops
def SX (ops:Array Oper) (i:Nat):Bool:=match ops[i]? with
 |some o=>(match o.op,o.guard with
  | .extract _ _,none=>true
  |_,_=>false)
 |none=>false
def kJ (ops:Array Oper):List Nat->Array Bool->Bool
 | [],Aa=>(Region.ready .any ops Aa).isEmpty
 |k::r,Aa=>(decide (Region.ready .any ops Aa= [k])||(SX ops k&&((Region.ready .any ops Aa).contains k&&Region.free .any ops Aa k)))&&kJ ops r (Aa.setIfInBounds k true)
def lM (ops:Array Oper) (tl:List Nat):List Nat->Array Bool->Bool
 | [],Aa=>kJ ops tl Aa
 |k::r,Aa=>(Region.ready .any ops Aa).contains k&&Region.free .any ops Aa k&&lM ops tl r (Aa.setIfInBounds k true)
def r7 (ops:Array Oper) (hd:List Nat):List Nat->Bool
 | []=>true
 |f::r=>(hd.all λi=>(f::hd).any λj=>decide (i<j)&&Region.waitsFor .any ops j i)&&r.all λt=>(f::r).any λk=>Region.waitsFor .any ops t k
def jO (ops:Array Oper) (tl hd:List Nat):List Nat->Array Bool->Bool
 | [],Aa=>lM ops tl hd Aa
 |k::r,Aa=>(Region.ready .any ops Aa).contains k&&Region.free .any ops Aa k&&jO ops tl hd r (Aa.setIfInBounds k true)
def fH (q:Bool) (Γ:Env) (ops:Array Oper):Bool:=
 Region.noSelect ops&&((Qs q Γ ops).length+((Qu q Γ ops).length+(Fg q Γ ops).length)==ops.size)&&jO ops (Fg q Γ ops) (Qu q Γ ops) (Qs q Γ ops) (Array.replicate ops.size false)&&r7 ops (Qu q Γ ops) (Fg q Γ ops)
def Rt (Γ:Env) (ops:Array Oper) (st:St) (o:Oper):Option AV:=
 match o.guard with
 |none=>Rv T Γ st o
 |some (j,want)=>match Sb st ((ops[j]?).bind (·.dst)) with
  |some (some b)=>if b==want then Rv T Γ st o else some (.at .skip)
  |some none=>some (.at .skip)
  |none=>none
def Cw (Γ:Env) (ops:Array Oper):List Nat->St->Option St
 | [],st=>some st
 |i::r,st=>match ops[i]? with
  |none=>none
  |some o=>match Rt T Γ ops st o with
   |some v=>Cw Γ ops r (st.put o.dst v)
   |none=>none
def Ij (Γ:Env) (ops:Array Oper):List Nat->St->Option St
 | [],st=>some st
 |i::r,st=>match ops[i]? with
  |none=>none
  |some o=>match Ch T Γ ops st o with
   |some st'=>Ij Γ ops r st'
   |none=>none
def Mm (Γ:Env) (ops:Array Oper) (draw:Bool) (st:St):Option St:=
 if draw then (if fH false Γ ops then (match Cw T Γ ops (fk false Γ ops) st with
  |some st'=>Ij T Γ ops (Fg false Γ ops) st'
  |none=>none) else if fH true Γ ops then (match Cw T Γ ops (fk true Γ ops) st with
  |some st'=>Ij T Γ ops (Fg true Γ ops) st'
  |none=>none) else none)
 else Vz T Γ ops ops.toList st
def wx (ops:Array Oper) (i:Nat):Bool:=match ops[i]? with
 |some o=>(match o.op,o.guard with
  | .move (.tmp _),none=>true
  |_,_=>false)
 |none=>false
def fw (ops:Array Oper) (i:Nat):Bool:=match ops[i]? with
 |some o=>(match o.op,o.guard with
  | .move (.tmp _),none=>true
  | .nilCheck _,none=>true
  | .fieldAddr _ _ _,none=>true
  |_,_=>false)
 |none=>false
def Aiw (q:Bool) (ops:Array Oper) (i:Nat):Bool:=match q with
 |true=>fw ops i
 |false=>wx ops i
def Fc (q:Bool) (ops:Array Oper):List Nat->Array Bool->List Nat
 | [],_=> []
 |i::r,Aa=>if Aiw q ops i&&((Region.ready .any ops Aa).contains i&&Region.free .any ops Aa i) then i::Fc q ops r (Aa.setIfInBounds i true) else Fc q ops r Aa
def TM (q:Bool) (ops:Array Oper):List Nat:=Fc q ops (List.range ops.size) (Array.replicate ops.size false)
def ff (q:Bool) (ops:Array Oper):Bool:=Nat.ble (ops.size-(TM q ops).length) 8
def It (ops:Array Oper):List Nat:=TM (!ff false ops) ops
def Cr:List Nat->Array Bool->Array Bool
 | [],Aa=>Aa
 |i::r,Aa=>Cr r (Aa.setIfInBounds i true)
def anyS (Γ:Env) (ops:Array Oper) (K:St->Prop):Nat->Array Bool->St->Prop
 |0,Aa,st=>Region.ready .any ops Aa= []/\K st
 |f+1,Aa,st=>Region.ready .any ops Aa≠ []/\ ∀i∈Region.ready .any ops Aa,∃o st',ops[i]?=some o/\Ch T Γ ops st o=some st'/\anyS Γ ops K f (Aa.setIfInBounds i true) st'
def fy (ops:Array Oper) (i:Nat):Bool:=match ops[i]? with
 |some o=>(match o.op,o.guard with
  | .move _,none=>true
  | .load _ _,none=>true
  | .indexAddr _ _ _,none=>true
  | .fieldAddr _ _ _,none=>true
  |_,_=>false)
 |none=>false
def m7 (ops:Array Oper):List Nat->Array Bool->List Nat
 | [],_=> []
 |i::r,Aa=>if fy ops i&&((Region.ready .any ops Aa).contains i&&Region.free .any ops Aa i) then i::m7 ops r (Aa.setIfInBounds i true) else m7 ops r Aa
def mJ (ops:Array Oper) (i j:Nat) (p:Oper->Oper->Bool):Bool:=match ops[i]?,ops[j]? with
 |some x,some y=>p x y
 |_,_=>false
def l8 (ops:Array Oper) (x y:Oper):Bool:=match x.dst with
 |some d=>!(y.looksAt ops).contains d
 |none=>true
def DV (x y:Oper):Bool:=match x.dst with
 |some d=>y.dst !=some d
 |none=>true
def ek (ops:Array Oper):List Nat->Array Bool->Bool
 | [],_=>true
 |r::E,Aa=>(Region.ready .any ops Aa).contains r&&ek ops E (Aa.setIfInBounds r true)
def wZ (ops:Array Oper):List Nat->Bool
 | []=>true
 |r::E=>(mJ ops r r (l8 ops)&&E.all λq=>mJ ops r q (λx y=>DV x y&&l8 ops y x)&&(Region.waitsFor .any ops q r||mJ ops r q (l8 ops)))&&wZ ops E
def XB (ops:Array Oper) (E:List Nat) (L0:Array Bool):Bool:=E.all λr=>(List.range ops.size).all λj=>E.contains j||L0.getD j false||Region.waitsFor .any ops j r||mJ ops r j (λx y=>x.apart ops y)
def fJ (ops:Array Oper) (E:List Nat) (L0:Array Bool):Bool:=(E.all (fy ops)&&ek ops E L0)&&(wZ ops E&&XB ops E L0)
def oV (ops:Array Oper) (E:List Nat) (Aa:Array Bool) (r:Nat):Bool:=(List.range ops.size).any λj=>!E.contains j&&(Aa.getD j false&&Region.waitsFor .any ops j r)
def UR (Γ:Env) (ops:Array Oper) (E:List Nat) (Aa:Array Bool) (st:St):Prop:=
 ∀r∈E,oV ops E Aa r=true\/ ∃o v,ops[r]?=some o/\Rt T Γ ops st o=some v/\ ∀d,o.dst=some d->st.get d=v
def se (Γ:Env) (ops:Array Oper) (E:List Nat) (K:St->Prop):Nat->Array Bool->St->Prop
 |0,Aa,st=>UR T Γ ops E Aa st/\Region.ready .any ops Aa= []/\K st
 |f+1,Aa,st=>UR T Γ ops E Aa st/\Region.ready .any ops Aa≠ []/\ ∀i∈Region.ready .any ops Aa,∃o st',ops[i]?=some o/\Ch T Γ ops st o=some st'/\se Γ ops E K f (Aa.setIfInBounds i true) st'
def Abo (Γ:Env) (ops:Array Oper) (K:St->Prop) (n:Nat) (L0:Array Bool) (Yj:St):Prop:=
 ∃E st1,fJ ops E L0=true/\E.length<=n/\Cw T Γ ops E Yj=some st1/\se T Γ ops E K (n-E.length) (Cr E L0) st1
def vE (Γ:Env) (ops:Array Oper) (draw:Bool) (st:St) (K:St->Prop):Prop:=
 (∃st',Mm T Γ ops draw st=some st'/\K st')\/
 (draw=true/\Region.noSelect ops=true/\ ∃Yj,Cw T Γ ops (It ops) st=some Yj/\
  (anyS T Γ ops K (ops.size-(It ops).length) (Cr (It ops) (Array.replicate ops.size false)) Yj\/Abo T Γ ops K (ops.size-(It ops).length) (Cr (It ops) (Array.replicate ops.size false)) Yj))
def xb (Γ:Env) (draw:Bool):Env:= λf=>match Γ f with
 |some (.b s m)=>some (if draw then .q s else .m m)
 |r=>r
inductive Ha where
 |normal
 |exit (id:Nat)
 |ret
def Gb (live:List Nat):Nat->List AV->List AV
 |_,[]=> []
 |i,v::r=>(if live.contains i then v else .undef)::Gb live (i+1) r
def AV.refs:AV->List Nat
 | .at a=>a.refs
 | .agg cs=>cs.flatMap AC.refs
 | .Xa _ _ _=> []
 | .Ih l=>l.flatMap λp=>p.2.flatMap AC.refs
def OB.refs:OB->List Nat
 | .var _ vs=>vs.flatMap AC.refs
 |_=> []
def aE:List Nat->St->St
 | [],st=>st
 |l::r,st=>aE r (st.forget l)
def m9 (l k m:Nat):Nat:=if m=l then k else m
def Qa (l k:Nat):AC->AC
 | .own m off len=> .own (m9 l k m) off len
 | .Dt m i=> .Dt (m9 l k m) i
 | .Fy m i=> .Fy (m9 l k m) i
 | .clo f Ca=> .clo f (Ca.map λp=>(m9 l k p.1,p.2))
 | .Gd m=> .Gd (m9 l k m)
 | .sub m i c=> .sub (m9 l k m) i c
 | .Fu m i c=> .Fu (m9 l k m) i c
 |a=>a
def St.rename (l k:Nat) (st:St):St:=
 match Ad st.heap k,Ad st.heap l with
 |none,some b=>if (Nat.blt l Am&&Nat.blt k Am)=true then
   (let s:=st.Gl (Qa l k); {s with heap:=Jt (Vo s.heap l) k (b.map (Qa l k))}) else st
 |_,_=>st
def Ib:Nat->Nat->St->St
 |0,_,st=>st
 |n+1,t,st=>Ib n (t+1) (match st.get t with
  | .at (.own l _ _)=>match Ad st.heap l with
   |some (.arr _ _ _ _ _)=>if (st.tmps.take t).any (λv=>v.refs.contains l) then st else st.rename l (700000+t)
   |_=>st
  |_=>st)
def Zh:Nat:=1000000007
def AC.Abh (flat:Bool):AC->AC
 | .data fr τ x=> .data (fr&&!(flat&&τ.flat)) τ x
 |c=>c
def OB.En (flat all one:Bool):OB->OB
 | .arr fr tr e tid xs=> .arr (fr&&!(all||(one||(flat&&e.flat)))) (tr&&!all) e tid xs
 | .var tid vs=> .var tid (vs.map (AC.Abh flat))
 |b=>b
def Ol:Nat:=1000000009
def Ux:Nat:=1100000000
def rX:Nat:=1200000000
def St.En (live:List Nat) (st:St):St:= {st with heap:=st.heap.map λp=>(p.1,p.2.En (live.contains Ol) (live.contains (Ux+p.1)) (live.contains (rX+p.1)))}
def Mw:Nat:=900000000
def Xw (t:Nat) (st:St):St:=match st.get t with
 | .at (.own l off len)=>match Ad st.heap l with
  |some (.arr fr tr e tid xs)=>if Nat.blt l Am=true then (st.new l (.arr fr tr e tid ((xs.drop off).take len))).put (some t) (.at (.own l 0 ((xs.drop off).take len).length)) else st
  |_=>st
 |_=>st
def Ki:Nat:=1900000000
def jz:Nat:=950000000
def Lc (c:Nat) (st:St):St:=match Ad st.heap Ki with
 |some (.var _ vs)=>match vs[c]? with
  |some (.own l off len)=>match Ad st.heap l with
   |some (.arr fr tr e te xs)=>if Nat.blt l Am=true then match Ad (st.new l (.arr fr tr e te ((xs.drop off).take len))).heap Ki with
     |some (.var tid vs')=>(st.new l (.arr fr tr e te ((xs.drop off).take len))).Ft Ki (.var tid (vs'.set c (.own l 0 ((xs.drop off).take len).length)))
     |_=>st
    else st
   |_=>st
  |_=>st
 |_=>st
def Kt (live:List Nat):Nat->Nat->St->St
 |0,_,st=>st
 |n+1,c,st=>Kt live n (c+1) (if live.contains (jz+c) then Lc c st else st)
def Kf (live:List Nat):Nat->Nat->St->St
 |0,_,st=>Kt live 16 0 st
 |n+1,t,st=>Kf live n (t+1) (if live.contains (Mw+t) then Xw t st else st)
def St.clean (live:List Nat) (st:St):St:=
 let s:St:= {st with tmps:=Gb live 0 st.tmps}
 let r1:=s.tmps.flatMap AV.refs
 let r2:=r1++(s.heap.filter λp=>r1.contains p.1).flatMap λp=>p.2.refs
 let s2:=aE ((s.heap.map (·.1)).filter λl=>!r2.contains l&&Nat.blt l Am) s
 let s2:=if live.any (λt=>Nat.ble Mw t&&Nat.blt t Zh) then Kf live s2.tmps.length 0 s2 else s2
 let s3:=if live.contains Zh then Ib s2.tmps.length 0 s2 else s2
 if live.any (λt=>Nat.ble Ol t) then s3.En live else s3
def Ci:Code->Nat
 | .region id _ _=>id
 | .seq a _=>Ci a
 | .cond _ a _=>Ci a
 | .block _ c=>Ci c
 | .loop c=>1000+Ci c
 |_=>0
def Abm (a b:List Nat):List Nat:=a++b.filter λt=>!a.contains t
def wI:List Oper->List Nat->List Nat
 | [],out=>out
 |o::r,out=>Abm (o.op.operands.toList.filterMap λ | .tmp t=>some t|_=>none) (match o.dst with|some d=>(wI r out).filter (·!=d)|none=>wI r out)
def DW:List (Nat×List Nat)->Nat->List Nat
 | [],_=> []
 |(k,l)::r,id=>if k=id then l else DW r id
def nk:Code->List (Nat×List Nat)->List Nat->List Nat->List Nat×List (Nat×List Nat)
 | .region _ ops _,_,_,out=>(wI ops.toList out,[])
 | .seq a b,env,ret,out=>let rb:=nk b env ret out;let ra:=nk a env ret rb.1;(ra.1,ra.2++rb.2)
 | .cond c a b,env,ret,out=>let ra:=nk a env ret out;let rb:=nk b env ret out
  (Abm (match c with| .tmp t=> [t]|_=> []) (Abm ra.1 rb.1),ra.2++rb.2)
 | .block id c,env,ret,out=>nk c ((id,out)::env) ret out
 | .exit id,env,_,_=>(DW env id,[])
 | .ret,_,ret,_=>(ret,[])
 | .loop c,env,ret,_=>let l:=(nk c env ret []).1;let r:=nk c env ret l;(l,(Ci c,l)::r.2)
 |_,_,_,out=>(out,[])
def wJ:List ResultVar->List Nat
 | []=> []
 | .tmp t::r=>t::wJ r
 | .cell p _::r=>p::wJ r
def wH (marks:List Nat) (fn:Func) (c:Code):Nat->List Nat:=let ret:=wJ fn.results.toList;let g:=DW (nk c [] ret ret).2;match marks with
 | []=>g
 |m=> λid=>g id++m
def FO (K:St->Prop) (Q:Ha->St->Prop):Ha->St->Prop
 | .normal,s=>K s
 |e,s=>Q e s
def uq (id:Nat) (Q:Ha->St->Prop):Ha->St->Prop
 | .exit MI,s=>if MI=id then Q .normal s else Q (.exit MI) s
 |e,s=>Q e s
def UI (ops:Array Oper) (t:Nat):Bool:=ops.toList.any λo=>match o.op with
 | .extract (.tmp s) _=>Nat.beq s t
 | .move (.tmp s)=>Nat.beq s t
 | .assign (.tmp s)=>Nat.beq s t
 |_=>false
def Kb (ops:Array Oper):Nat->List AV->List AV
 |_,[]=> []
 |i, .Ih l::r=>(if UI ops i=true then .Ih l else .undef)::Kb ops (i+1) r
 |i,v::r=>v::Kb ops (i+1) r
def St.jC (ops:Array Oper) (st:St):St:= {st with tmps:=Kb ops 0 st.tmps}
inductive Js (Γ:Env) (live:Nat->List Nat):Code->St->(Ha->St->Prop)->Prop where
 |skip {st:St} {Q:Ha->St->Prop} :Q .normal st->Js Γ live .skip st Q
 |label {l:Nat} {st:St} {Q:Ha->St->Prop} :Q .normal st->Js Γ live (.label l) st Q
 |exit {id:Nat} {st:St} {Q:Ha->St->Prop} :Q (.exit id) st->Js Γ live (.exit id) st Q
 |ret {st:St} {Q:Ha->St->Prop} :Q .ret st->Js Γ live .ret st Q
 |region {id:Nat} {ops:Array Oper} {draw:Bool} {st:St} {Q:Ha->St->Prop} :vE T (xb Γ draw) ops draw (st.jC ops) (Q .normal)->Js Γ live (.region id ops draw) st Q
 |seq {x y:Code} {st:St} {Q:Ha->St->Prop} (Q1:Ha->St->Prop):Js Γ live x st Q1->(∀s,Q1 .normal s->Js Γ live y s Q)->(∀e s,e≠ .normal->Q1 e s->Q e s)->Js Γ live (.seq x y) st Q
 |cond {c:Operand} {x y:Code} {st:St} {fr t:Bool} {Q:Ha->St->Prop} :st.ev c= .at (.data fr .bool t)->(t=true->Js Γ live x st Q)->(t=false->Js Γ live y st Q)->Js Γ live (.cond c x y) st Q
 |block {id:Nat} {c:Code} {st:St} {Q:Ha->St->Prop} (Q1:Ha->St->Prop):Js Γ live c st Q1->(∀e s,Q1 e s->uq id Q e s)->Js Γ live (.block id c) st Q
 |loop {c:Code} {st:St} {Q:Ha->St->Prop} (Q1:Ha->St->Prop):Js Γ live c (st.clean (live (Ci c))) Q1->(∀s,Q1 .normal s->Js Γ live (.loop c) s Q)->(∀e s,e≠ .normal->Q1 e s->Q e s)->Js Γ live (.loop c) st Q
def ah (st:St):List ResultVar->Option (List AV)
 | []=>some []
 | .tmp t::r=>(ah st r).map λl=>st.get t::l
 | .cell p t::r=>match Lg T st t (st.get p),ah st r with
  |some v,some l=>some (v::l)
  |_,_=>none
def jM (s:Spec) (fn:Func) (st:St):Option (Bool×s.res.den):=
 match ah T st fn.results.toList with
 |some [v]=>if s.Ct then none else Cv st s.res v
 |some [v,u]=>if s.Ct then Bt st s.res [v,u] else none
 |some [v,u,t]=>if s.Ct then Bt st s.res [v,u,t] else none
 |_=>none
def Nr:(τ:Ty)->τ.den->List AV
 | .pair a r,x=> .at (.data a.flat a x.1)::Nr r x.2
 |_,_=> []
def gk (st:St):(c:CK)->AC->Option (c.den×List Nat)
 | .Dm τ,a=>if τ.flat||a.settled then (Bp st τ a).map λp=>(p.2,[]) else none
 | .row e te, .own l off len=>match st.at l with
  |some (.arr _ _ e' Mf xs)=>if h:e'=e/\Mf=te then some ((((h.1▸xs:List e.den).drop off).take len),[l]) else none
  |_=>none
 | .row _ _, .Hr=>some ([],[])
 | .Du e te, .own l off len=>match st.at l with
  |some (.arr _ tr e' Mf xs)=>if h:e'=e/\Mf=te/\(tr||e.flat)=true then some ((((h.1▸xs:List e.den).drop off).take len),[l]) else none
  |some (.Dg e' Mf xs)=>if h:e'=e/\Mf=te then some ((((h.1▸xs:List e.den).drop off).take len),[l]) else none
  |_=>none
 | .Du _ _, .Hr=>some ([],[])
 | .Al e te _, .own l off len=>match st.at l with
  |some (.Al e' Mf rows none _)=>if h:e'=e/\Mf=te/\off=0/\len=rows.length then some ((h.1▸rows:List (List e.den)),[l]) else none
  |_=>none
 |_,_=>none
def Pz (st:St):(cs:List CK)->List AC->Option (CKs.den cs×List Nat)
 | [],[]=>some ((),[])
 |c::r,a::as=>match gk st c a,Pz st r as with
  |some (x,t1),some (y,t2)=>some ((x,y),t1++t2)
  |_,_=>none
 |_,_=>none
def mO (st:St) (l:Nat):(c:CK)->Option c.den
 | .Dm _=>none
 | .row e te=>match st.at l with
  |some (.arr _ _ e' Mf xs)=>if h:e'=e/\Mf=te then some (h.1▸xs) else none
  |_=>none
 | .Du e te=>match st.at l with
  |some (.Dg e' Mf xs)=>if h:e'=e/\Mf=te then some (h.1▸xs) else none
  |_=>none
 | .part _ _=>none
 | .Al _ _ _=>none
def Jz (st:St):(k:Nat)->(cs:List (Bool×CK))->Option (IOs.den cs)
 |_,[]=>some ()
 |k,(true, .Dm _)::r=>Jz st (k+1) r
 |k,(true, .Al _ _ _)::r=>Jz st (k+1) r
 |k,(true, .row e te)::r=>match mO st (Bu true k) (.row e te),Jz st (k+1) r with
  |some x,some y=>some (x,y)
  |_,_=>none
 |k,(true, .Du e te)::r=>match mO st (Bu true k) (.Du e te),Jz st (k+1) r with
  |some x,some y=>some (x,y)
  |_,_=>none
 |k,(true, .part e te)::r=>match mO st (Bu true k) (.row e te),Jz st (k+1) r with
  |some x,some y=>some (x,y)
  |_,_=>none
 |k,(false,_)::r=>Jz st (k+1) r
def La:(k:Nat)->List (Bool×CK)->List Nat
 |_,[]=> []
 |k,(true, .Dm _)::r=>La (k+1) r
 |k,(true, .Al _ _ _)::r=>La (k+1) r
 |k,(true,_)::r=>Bu true k::La (k+1) r
 |k,(false,_)::r=>La (k+1) r
def Fb:(k:Nat)->List (Bool×CK)->List AC->Option (List AC)
 |_,_,[]=>some []
 |k,(true, .row _ _)::r, .own l _ _::as=>if Nat.beq l (Bu true k) then Fb (k+1) r as else none
 |k,(true, .Du _ _)::r, .own l _ _::as=>if Nat.beq l (Bu true k) then Fb (k+1) r as else none
 |k,(false,_)::r,a::as=>(Fb (k+1) r as).map λl=>a::l
 |_,_,_=>none
def dU (st:St):List AC->List (Bool×CK)->Prop
 | .own l off len::as,(true,_)::r=>(off=0/\match st.at l with
  |some (.arr _ _ _ _ xs)=>len=xs.length
  |some (.Dg _ _ xs)=>len=xs.length
  |_=>False)/\dU st as r
 |_::as,(false,_)::r=>dU st as r
 |_,_=>True
def GP (s:MSpec) (st:St) (l:List AV):Option (List AC×List Nat):=match s.rp with
 |none=>if s.Ct=Nat.blt 1 l.length then (ungroup s.Di l).map λas=>(as,[]) else none
 |some tid=>match l with
  | [.at (.Dt m i)]=>match st.at m with
   |some (.var Po vs)=>if Po=tid/\i=0/\Nat.blt m Am=true then some (vs,[m]) else none
   |_=>none
  |_=>none
def ux (st:St) (n:Nat) (as:List AC):List (Nat×Nat)->Prop
 | []=>True
 |(k,j)::r=>(match as[j]? with
  |some (.own l _ _)=>match st.at l with
   |some (.Al _ _ _ _ (some p))=>p.1=Bu false k/\n<=p.2/\Nat.blt k 1000=true
   |_=>False
  |_=>False)/\ux st n as r
def fL (s:MSpec) (fn:Func) (x:Ins.den s.ins) (st:St) (cs:List AC) (P:CKs.den s.outs×IOs.den s.ins->Prop):Prop:=
 match ah T st fn.results.toList with
 |none=>False
 |some l=>match GP s st l with
  |none=>False
  |some (as,ml)=>match Pz st s.outs (cs++as),Jz st 0 s.ins with
   |some (r,ls),some o=>(Vg (ml++ls++La 0 s.ins)&&Nat.blt s.ins.length 1000&&Nat.blt s.outs.length 1000&&s.TL)=true/\ux st (s.Cn x) (cs++as) s.keeps/\P (r,o)
   |_,_=>False
def QC (s:MSpec) (fn:Func) (x:Ins.den s.ins) (st:St) (P:CKs.den s.outs×IOs.den s.ins->Prop):Prop:=
 match s.ptr with
 |none=>fL T s fn x st [] P
 |some p=> ∃vs cs,st.at Ki=some (.var p.1 vs)/\vs.length=p.2/\Fb 0 s.ins vs=some cs/\dU st vs s.ins/\fL T s fn x st cs P
def Vq (s:MSpec) (as:List AC):List AV:=match s.ptr with
 |none=>Nu s.Eh as
 |some p=> .at (.Dt Ki 0)::Nu s.Eh (as.drop p.2)
def nh (s:MSpec) (x:Ins.den s.ins):List (Nat×OB):=match s.ptr with
 |none=>Ul 0 s.ins x
 |some p=>Ul 0 s.ins x++ [(Ki, .var p.1 ((Xo 0 s.ins x).take p.2))]
def Up:List (Bool×CK)->Bool
 | []=>true
 |(true, .Al _ _ _)::_=>false
 |_::r=>Up r
def x6 (s:MSpec):Bool:=Up s.ins&&match s.ptr with
 |none=>true
 |some p=>Nat.ble p.2 s.ins.length
def ZS (Γ:Env) (s:MSpec) (fn:Func) (x:Ins.den s.ins) (P:CKs.den s.outs×IOs.den s.ins->Prop):Prop:=
 (Nat.blt s.ins.length 1000&&x6 s)=true/\ ∃c,fn.body=some c/\Js T Γ (wH T.marks fn c) c {tmps:=Vq s (Xo 0 s.ins x)++List.replicate (fn.ntmps-(Vq s (Xo 0 s.ins x)).length) .undef,heap:=nh s x}
  (λe st=>(∀id,e≠ .exit id)/\QC T s fn x st P)
def QD (Γ:Env) (s:Spec) (fn:Func) (x:s.arg.den) (P:s.res.den->Prop):Prop:=
 ∃c,fn.body=some c/\Js T Γ (wH T.marks fn c) c {tmps:=Nr s.arg x++List.replicate (fn.ntmps-(Nr s.arg x).length) .undef,heap:= []}
  (λe st=>(∀id,e≠ .exit id)/\ ∃fr y,jM T s fn st=some (fr,y)/\(fr||!s.fresh)=true/\P y)
end Go.Proofs.YtfolipnappekaaaGreat
