/-
  Part 3 of the proof that the statement FnExactLowerBounds holds.
-/
import Derived.Test.YtfolipnappekaaaGreatCLowerBounds01
namespace Go.Proofs.YtfolipnappekaaaGreat
open Go.RowKit
def Dt:Nat->St->List AC->Option (List AC×St)
 |0,st,cs=>if cs.all (·.settled) then some (cs,st) else none
 |n+1,st,cs=>
  match cs.find? (λc=>!c.settled) with
  |none=>some (cs,st)
  |some (.own l _ _)=>match st.at l with
   |some (.arr fr _ e _ xs)=>Dt n (st.freeze l fr e xs) (cs.map (Bf l fr e xs))
   |some (.Dc e _ xs)=>Dt n (st.freeze l false e xs) (cs.map (Bf l false e xs))
   |_=>none
  |some (.Ga l)=>match st.at l with
   |some (.Pb v m)=>Dt n (st.Em l v m) (cs.map (Dk l v m))
   |_=>none
  |some _=>none
def settle (st:St):AV->Option (AV×St)
 | .at (.own l off len)=>match st.at l with
  |some (.arr fr _ e _ xs)=>some (.at (.data fr (.slice e) ((xs.drop off).take len)),st.freeze l fr e xs)
  |some (.Dc e _ xs)=>some (.at (.data false (.slice e) ((xs.drop off).take len)),st.freeze l false e xs)
  |_=>none
 | .at (.Ga l)=>match st.at l with
  |some (.Pb v m)=>some (.at (.data false (.smap v) m),st.Em l v m)
  |_=>none
 | .at a=>if a.settled then some (.at a,st) else none
 | .agg cs=>(Dt cs.length st cs).map λp=>(.agg p.1,p.2)
 | .Vl fr τ x=>some (.Vl fr τ x,st)
 | .Ib _=>none
def AC.refs:AC->List Nat
 | .own l _ _| .Dv l _| .Fu l _| .Ga l| .sub l _ _| .Fp l _ _=> [l]
 | .clo _ Bv=>Bv.map (·.1)
 |_=> []
def To:List Nat->Bool
 | []=>true
 |a::r=>!r.contains a&&To r
def Ty.tree:Ty->Bool
 | .int _| .bool| .str| .unit=>true
 | .slice e=>e.tree
 | .pair a r=>a.tree&&r.tree
 |_=>false
def Lz (st:St):AC->Bool
 | .data _ τ _=>τ.flat
 | .Hp=>true
 | .own l _ _=>match st.at l with
  |some (.arr _ tr e _ _)=>tr||e.flat
  |some (.Dc _ _ _)=>true
  |_=>false
 |_=>false
def Nd (st:St):AV->Bool
 | .at a=>Lz st a
 | .agg cs=>cs.all (Lz st)&&To (cs.flatMap AC.refs)
 |_=>false
def Ak:Nat:=1000000000
variable (T:Tab)
def FA (t:TypeId) (τ:Ty) (i:Nat):Option TypeId:=
 if τ.Ab then (List.range 24).findSome? λf=>match T.off t f with
  |some (o,u)=>if o=i then some u else none
  |none=>none
 else some t
def Tab.FI (te:TypeId):Option Ty:=if T.MG.contains te then (match T.ty te with
 |some (.slice e)=>some e
 |_=>none) else none
def Zd (te:TypeId) (e:Ty):OB:=match T.FI te with
 |some e'=> .Aj e' te [] none none
 |none=> .arr (T.nX||e.flat) T.vY e te []
def Nz (b:OB) (key l i:Nat) (st:St):St:=
 match st.at l with
 |some (.var _ vs)=>match vs[i]? with
  |some .Hp=>
   let s1:=st.new key b
   match s1.at l with
   |some (.var tid vs')=>s1.Fo l (.var tid (Od vs' i (.own key 0 0)))
   |_=>s1
  |_=>st
 |_=>st
def aY (l:Nat) (t:TypeId) (τ:Ty):Nat->Nat->St->St
 |0,_,st=>st
 |n+1,i,st=>
  aY l t τ n (i+1) (match ((FA T t τ i).bind T.elem).bind λte=>(T.ty te).map λe=>(te,e) with
   |some (te,e)=>Nz (Zd T te e) (100000+l*100+i) l i st
   |none=>st)
def Zx (l off:Nat) (t:TypeId) (τ:Ty):Nat->Nat->St->St
 |0,_,st=>st
 |n+1,i,st=>
  Zx l off t τ n (i+1) (match ((FA T t τ i).bind T.elem).bind λte=>(T.ty te).map λe=>(te,e) with
   |some (te,e)=>Nz (Zd T te e) (100000+l*100+(off+i)) l (off+i) st
   |none=>st)
def zeroCells:(τ:Ty)->List AC
 | .unit=> []
 | .pair a r=>zeroCells a++zeroCells r
 | .slice _=> [.Hp]
 | .oslice _=> [.Hp]
 | .ptr _=> [.Qd]
 | .optr _=> [.Qd]
 | .clo _ _=> [.undef]
 |τ=> [.data true τ τ.zero]
def cellsOf (τ:Ty):AV->Option (List AC)
 | .agg cs=>if τ.Ab&&cs.length==τ.size then some cs else none
 | .at (.data fr Jc x)=>if Jc=τ then some (Me fr Jc x) else none
 | .at .undef=>none
 | .at .skip=>none
 | .at a=>if τ.Ab then none else some [a]
 |_=>none
def mkVar (st:St) (l:Nat) (t:TypeId) (τ:Ty) (cs:List AC):Option (AV×St):=
 if Ak<=100000+l*100+cs.length then none else
 let s:=aY T l t τ cs.length 0 (st.new l (.var t (cs.map (Bc l))))
 match s.at l with
 |some (.var _ _)=>some (.at (.Dv l 0),s)
 |_=>none
def Bp {α:Type} (xs:List α) (i:Nat) (ys:List α):List α:=xs.take i++ys++xs.drop (i+ys.length)
def Oi (st:St) (t:TypeId) (p v:AV):Option St:=
 match T.ty t,p with
 |some τ, .at (.Dv l i)=>match st.at l,cellsOf τ v with
  |some (.var tid vs),some cs=>if i+cs.length<=vs.length then some (if τ.Ab&&Nat.blt (100000+l*100+(i+cs.length)) Ak then Zx T l i t τ cs.length 0 (st.Fo l (.var tid (Bp vs i cs))) else st.Fo l (.var tid (Bp vs i cs))) else none
  |_,_=>none
 |some τ, .at (.Fu l j)=>match settle st v with
  |some (v',st')=>match st'.at l,Ct st' τ v' with
   |some (.arr fr tr e tid xs),some (Pk,x)=>if h:τ=e then (if j<xs.length then some (st'.Fo l (.arr (fr&&Pk) (tr&&(Nd st v&&e.tree)) e tid (xs.set j (h▸x)))) else none) else none
   |_,_=>none
  |none=>none
 |_,_=>none
def Bh:Nat:=4294967296
def Iv (st:St) (dst:Nat) (t:TypeId) (x y:Operand):Option (AV×St):=
 match T.elem t with
 |none=>none
 |some te=>match T.ty te,settle st (st.ev y) with
  |some e,some (y',st')=>match Ct st' (.slice e) y' with
   |none=>none
   |some (mS,ys)=>
    let tr2:=e.flat||(Nd st (st.ev y)&&e.tree)
    match st'.ev x with
    | .at .Hp=>if ys.length<=Bh/\dst<Ak then some (.at (.own dst 0 (0+ys.length)),(st'.new dst (.arr (T.nX||e.flat) T.vY e te [])).new dst (.arr ((T.nX||e.flat)&&(mS||e.flat)) (T.vY&&tr2) e te (((([]:List e.den).drop 0).take 0)++ys))) else none
    | .at (.own l off len)=>match st'.at l with
     |some (.arr fr tr e' tid xs)=>if h:e'=e/\tid=te then
       (if len+ys.length<=Bh/\l<Ak then
        some (.at (.own l 0 (len+ys.length)),st'.new l (.arr (fr&&(mS||e.flat)) (tr&&tr2) e te ((((h.1▸xs:List e.den).drop off).take len)++ys))) else none)
      else none
     |_=>none
    |_=>none
  |_,_=>none
def Ko (st:St) (l i m:Nat) (e:Ty) (te tid:TypeId) (rows:List (List e.den)) (kp:Option (Nat×Nat)):St:=
 (st.Fo l (.Aj e te rows (some i) kp)).new m (.arr false false e tid (rows.getD i []))
def Lm (st:St) (dst:Nat) (t:TypeId) (x y:Operand):Option (AV×St):=
 match x with
 | .tmp tx=>match st.get tx with
  | .at (.sub l i _)=>match st.at l,T.elem t with
   |some (.Aj e te rows none kp),some tid=>if (Nat.blt l Ak&&(Nat.blt dst Ak&&!Nat.beq dst l))=true then Iv T ((Ko st l i dst e te tid rows kp).put (some tx) (.at (.own dst 0 (rows.getD i []).length))) dst t x y else none
   |_,_=>none
  |_=>Iv T st dst t x y
 |_=>Iv T st dst t x y
def gY:Ty->Bool
 | .int _| .bool| .str| .slice _| .oslice _=>true
 |_=>false
def bz:Ty->Bool
 | .unit=>true
 | .pair a r=>bz a&&bz r
 |e=>gY e
def Vt (st:St) (dst:Nat) (t:TypeId) (l c:AV):Option (AV×St):=
 match T.elem t,l,c with
 |some te, .at (.data _ (.int _) n), .at (.data _ (.int _) m)=>match T.ty te with
  |some e=>if WD n (Bh+1)=true/\n=m/\bz e=true/\dst<Ak then some (.at (.own dst 0 n.toNat),st.new dst (.arr (T.nX||e.flat) (T.vY&&e.tree) e te (List.replicate n.toNat e.zero))) else none
  |none=>none
 |_,_,_=>none
def Gs (e:Ty):Nat->List (Nat×Operand)->St->Option (Bool×Bool×List e.den×St)
 |_,[],st=>some (true,true,[],st)
 |i,(j,x)::r,st=>
  if i=j then match settle st (st.ev x) with
   |some (v,st')=>match Ct st' e v with
    |some (fr,y)=>match Gs e (i+1) r st' with
     |some (Pk,QI,ys,Ajg)=>some (fr&&Pk,Nd st (st.ev x)&&e.tree&&QI,y::ys,Ajg)
     |none=>none
    |none=>none
   |none=>none
  else none
def Hs (st:St) (dst:Nat) (t:TypeId) (len:Nat) (parts:Array (Nat×Operand)):Option (AV×St):=
 match T.elem t with
 |none=>none
 |some te=>match T.ty te with
  |none=>none
  |some e=>if parts.size=len/\len<=64/\e.size<=64/\dst<Ak then (match Gs e 0 parts.toList st with
   |some (fr,tr,ys,st')=>some (.at (.own dst 0 len),st'.new dst (.arr ((T.nX||e.flat)&&fr) (T.vY&&tr) e te ys))
   |none=>none) else none
def Oh (st:St) (dst:Nat) (t:TypeId):Option (AV×St):=
 match T.mapOf t with
 |some v=>if dst<Ak then some (.at (.Ga dst),st.new dst (.Pb v λ_=>none)) else none
 |none=>none
def dQ {α:Type} (m:ByteArray->Option α) (k:ByteArray) (x:α):ByteArray->Option α:= λs=>if s=k then some x else m s
def Eu (st:St) (t:TypeId) (m k x:AV):Option St:=
 match T.mapOf t,m,k with
 |some v, .at (.Ga l), .at (.data _ .str s)=>match st.at l,Ct st v x with
  |some (.Pb v' f),some (_,y)=>if h:v'=v/\v.flat=true/\v.Ab=false then some (st.Fo l (.Pb v (dQ (h.1▸f:ByteArray->Option v.den) s y))) else none
  |_,_=>none
 |_,_,_=>none
def cI (st:St) (t t':TypeId) (x y:AV):Option (AV×St):=
 match x,(T.elem t).bind T.ty with
 | .at (.own l off len),some e=>if T.elem t=T.elem t'/\e.flat=true/\e.size=1 then match st.at l,Ct st (.slice e) y with
  |some (.arr fr _ e' tid xs),some (_,ys)=>if h:e'=e/\T.elem t=some tid then
    some (.at (.data true (.int .i64) (min len ys.length:Nat)),st.Fo l (.arr fr false e tid (Bp (h.1▸xs:List e.den) off (ys.take len))))
   else none
  |_,_=>none
  else none
 |_,_=>none
def evalClear (st:St) (t:TypeId) (x:AV):Option St:=
 match x,(T.elem t).bind T.ty with
 | .at (.own l off len),some e=>if e.flat=true/\gY e=true then match st.at l with
  |some (.arr fr _ e' tid xs)=>if h:e'=e/\T.elem t=some tid then
    some (st.Fo l (.arr fr false e tid (Bp (h.1▸xs:List e.den) off (List.replicate len e.zero))))
   else none
  |_=>none
  else none
 |_,_=>none
def Hr (st:St) (t:TypeId):List (Nat×Operand)->List AC->Option (List AC)
 | [],cs=>some cs
 |(i,x)::r,cs=>
  match T.off t i with
  |some (o,u)=>match T.ty u with
   |some ρ=>match cellsOf ρ (st.ev x) with
    |some c=>if o+c.length<=cs.length then Hr st t r (Bp cs o c) else none
    |none=>none
   |none=>none
  |none=>none
def Qo (st:St) (t:TypeId) (parts:Array (Nat×Operand)):Option AV:=
 match T.ty t with
 |none=>none
 |some τ=>if τ.Ab then (Hr T st t parts.toList (zeroCells τ)).map .agg else none
def Bl (io:Bool) (k:Nat):Nat:=if io then 1000000000+k else 500000+k
def Ff (k:Nat):Nat:=600000+k
def OG (dst:Nat) (k:Nat):Nat:=1000000*(dst+1)+k
def Mv:List (Option Nat)->List AC->List AV
 |none::s,a::as=> .at a::Mv s as
 |some n::s,as=> .agg (as.take n)::Mv s (as.drop n)
 |_,_=> []
def Gg:List (Option Nat)->List Value->List Value
 |none::s,u::us=>u::Gg s us
 |some n::s,us=> .agg (us.take n).toArray::Gg s (us.drop n)
 |_,_=> []
def ungroup:List (Option Nat)->List AV->Option (List AC)
 | [],[]=>some []
 |none::s, .at a::as=>(ungroup s as).map λr=>a::r
 |some n::s, .agg cs::as=>if cs.length=n then (ungroup s as).map λr=>cs++r else none
 |some n::s, .at (.data fr τ x)::as=>if τ.Ab=true/\(Me fr τ x).length=n then (ungroup s as).map λr=>Me fr τ x++r else none
 |_,_=>none
def eO (l:Nat):(c:CK)->c.den->Option OB
 | .Dh _,_=>none
 | .row e te,xs=>some (.arr false false e te xs)
 | .Ds e te,xs=>some (.Dc e te xs)
 | .part e te,x=>some (.arr false false e te x.1)
 | .Aj e te kp,xs=>some (.Aj e te xs none (if kp then some (l,List.length xs) else none))
def Agg (l:Nat):(c:CK)->c.den->AC
 | .Dh τ,x=> .data τ.flat τ x
 | .row _ _,xs=> .own l 0 (List.length xs)
 | .Ds _ _,xs=> .own l 0 (List.length xs)
 | .part _ _,x=> .own l x.2.1 x.2.2
 | .Aj _ _ _,xs=> .own l 0 (List.length xs)
def cC {α:Type} (l:Nat):Option α->List (Nat×α)->List (Nat×α)
 |none,r=>r
 |some b,r=>(l,b)::r
def Sv:(k:Nat)->(cs:List (Bool×CK))->Ins.den cs->List (Nat×OB)
 |_,[],_=> []
 |k,p::r,x=>cC (Bl p.1 k) (eO (Bl p.1 k) p.2 x.1) (Sv (k+1) r x.2)
def Wb:(k:Nat)->(cs:List (Bool×CK))->Ins.den cs->List AC
 |_,[],_=> []
 |k,p::r,x=>Agg (Bl p.1 k) p.2 x.1::Wb (k+1) r x.2
inductive Loc where
 |row (l:Nat)
 |sub (l i c:Nat)
 |view (l:Nat)
 deriving DecidableEq
def Loc.Qc:Loc->Nat
 | .row l=>l
 | .sub l _ _=>l
 | .view l=>l
def Loc.reads:Loc->Bool
 | .view _=>true
 |_=>false
def Wt (st:St) (ls:List Nat):Bool:=ls.all λl=>match st.at l with|some (.var _ vs)=>vs.all (·.settled)|_=>false
def views (k:Nat) (ls:List Nat):List (Nat×Loc):=ls.map λl=>(Bl false k, .view l)
def Hk (st:St) (io:Bool) (k:Nat):(c:CK)->AC->Option (c.den×List (Nat×Loc))
 | .Dh τ, .own l off len=>(Bn st τ (.own l off len)).map λp=>(p.2,[(Bl false k, .view l)])
 | .Dh τ, .clo g Bv=>if Wt st (Bv.map (·.1))&&!τ.Ab then (Fl st τ (.clo g Bv)).map λp=>(p.2,views k (Bv.map (·.1))) else none
 | .Dh τ, .Dv l i=>if Wt st [l]&&!τ.Ab then (Fl st τ (.Dv l i)).map λp=>(p.2,views k [l]) else none
 | .Dh τ, .sub l i c=>(Bn st τ (.sub l i c)).map λp=>(p.2,[(Bl false k, .view l)])
 | .Dh τ,a=>if τ.flat||a.settled then (Bn st τ a).map λp=>(p.2,[]) else none
 | .row e te, .own l off len=>match st.at l with
  |some (.arr _ _ e' Li xs)=>if h:e'=e/\Li=te/\off=0/\len=xs.length then some ((h.1▸xs:List e.den),[(Bl io k, .row l)]) else none
  |_=>none
 | .row e _, .sub l i c=>match st.at l with
  |some (.Dc e' _ xs)=>if h:e'= .slice e/\e.flat=true/\io=true/\c=0 then xs[i]?.map λy=>((h.1▸y:(Ty.slice e).den),[(Bl io k, .sub l i c)]) else none
  |_=>none
 | .row _ _, .Hp=>some ([],[])
 | .Ds e te, .own l off len=>match st.at l with
  |some (.Dc e' Li xs)=>if h:e'=e/\Li=te/\off=0/\len=xs.length then some ((h.1▸xs:List e.den),[(Bl io k, .row l)]) else none
  |_=>none
 | .Ds e _, .sub l i c=>match st.at l with
  |some (.Dc e' _ xs)=>if h:e'= .slice e/\io=true/\c=0 then xs[i]?.map λy=>((h.1▸y:(Ty.slice e).den),[(Bl io k, .sub l i c)]) else none
  |_=>none
 | .Ds _ _, .Hp=>some ([],[])
 | .part e te, .own l off len=>match st.at l with
  |some (.arr _ _ e' Li xs)=>if h:e'=e/\Li=te/\e.flat=true/\io=true then some (((h.1▸xs:List e.den),off,len),[(Bl io k, .row l)]) else none
  |_=>none
 | .Aj e te _, .own l off len=>match st.at l with
  |some (.Aj e' Li rows none _)=>if h:e'=e/\Li=te/\off=0/\len=rows.length/\io=false then some ((h.1▸rows:List (List e.den)),[(Bl io k, .row l)]) else none
  |_=>none
 |_,_=>none
def bt (st:St):(k:Nat)->(cs:List (Bool×CK))->List AC->Option (Ins.den cs×List (Nat×Loc))
 |_,[],[]=>some ((),[])
 |k,p::r,a::as=>match Hk st p.1 k p.2 a,bt st (k+1) r as with
  |some (x,t1),some (y,t2)=>some ((x,y),t1++t2)
  |_,_=>none
 |_,_,_=>none
def Wy (st:St):(c:CK)->c.den->AC->Option St
 | .row e _,ys, .own l _ len=>match st.at l with
  |some (.arr fr tr e' te xs)=>if h:e=e'/\List.length ys=len/\xs.length=len then some (st.Fo l (.arr (fr&&e'.flat) (tr&&e'.flat) e' te (h.1▸ys))) else none
  |_=>none
 | .Ds e _,ys, .own l _ len=>match st.at l with
  |some (.Dc e' te xs)=>if h:e=e'/\List.length ys=len/\xs.length=len then some (st.Fo l (.Dc e' te (h.1▸ys))) else none
  |_=>none
 | .row e _,ys, .sub l i _=>match st.at l with
  |some (.Dc e' te xs)=>if h: .slice e=e' then (match xs[i]? with
   |some y=>if List.length ys=List.length (h▸y:(Ty.slice e).den) then some (st.Fo l (.Dc e' te (xs.set i (h▸(ys:(Ty.slice e).den))))) else none
   |none=>none) else none
  |_=>none
 | .Ds e _,ys, .sub l i _=>match st.at l with
  |some (.Dc e' te xs)=>if h: .slice e=e' then (match xs[i]? with
   |some y=>if List.length ys=List.length (h▸y:(Ty.slice e).den) then some (st.Fo l (.Dc e' te (xs.set i (h▸(ys:(Ty.slice e).den))))) else none
   |none=>none) else none
  |_=>none
 |_,_, .Hp=>some st
 |_,_,_=>none
def CQ (st:St) (e:Ty) (ys:List e.den):AC->Option St
 | .own l _ _=>match st.at l with
  |some (.arr fr tr e' te xs)=>if h:e=e'/\List.length ys=xs.length then some (st.Fo l (.arr fr tr e' te (h.1▸ys))) else none
  |_=>none
 |_=>none
def Ef:(cs:List (Bool×CK))->IOs.den cs->List AC->St->Option St
 | [],_,_,st=>some st
 |(true, .Dh _)::r,x,_::as,st=>Ef r x as st
 |(true, .row e te)::r,x,a::as,st=>match Wy st (.row e te) x.1 a with
  |some st'=>Ef r x.2 as st'
  |none=>none
 |(true, .Ds e te)::r,x,a::as,st=>match Wy st (.Ds e te) x.1 a with
  |some st'=>Ef r x.2 as st'
  |none=>none
 |(true, .part e _)::r,x,a::as,st=>match CQ st e x.1 a with
  |some st'=>Ef r x.2 as st'
  |none=>none
 |(true, .Aj _ _ _)::r,x,_::as,st=>Ef r x as st
 |(false,_)::r,x,_::as,st=>Ef r x as st
 |_,_,_,_=>none
def Ba (dead part:List Nat) (c:AC):AC:=if c.refs.any (λl=>dead.contains l) then .undef else match c with
 | .sub l i c=>if part.contains l then .undef else .sub l i c
 | .Fp l i c=>if part.contains l then .undef else .Fp l i c
 |c=>c
def Qm:List (Nat×OB)->List Nat->List (Nat×OB)
 | [],_=> []
 |(k,b)::r,dead=>if dead.contains k then Qm r dead else (k,b)::Qm r dead
def St.Xi (st:St) (dead part:List Nat):St:=let s:=st.Gj (Ba dead part); {s with heap:=Qm s.heap dead}
def Ni (st:St) (l j m:Nat) (e:Ty) (te:TypeId) (rows:List (List e.den)) (xs:List e.den) (kp:Option (Nat×Nat)):St:=
 (st.Xi [m] [l]).Fo l (.Aj e te (rows.set j xs) none kp)
def We (j:Nat):Option (Nat×Nat)->Option (Nat×Nat)
 |none=>none
 |some p=>some (p.1,min p.2 j)
def Vw (st:St) (t:TypeId) (p v:AV):Option St:=
 match T.ty t,p with
 |some τ, .at (.Fp l i j)=>match settle st v with
  |some (v',st')=>match st'.at l,Ct st' τ v' with
   |some (.Aj e te rows none kp),some (_,x)=>if h:τ=e then some (st'.Fo l (.Aj e te (rows.set i ((rows.getD i []).set j (h▸x))) none kp)) else none
   |_,_=>none
  |none=>none
 |some τ, .at (.Fu l j)=>match st.at l,v with
  |some (.Aj e te rows out kp), .at (.own m off len)=>match st.at m with
   |some (.arr _ _ e' _ xs)=>if h:e'=e/\(Nat.blt l Ak&&(!Nat.beq m l&&!τ.Ab))=true/\off=0/\len=xs.length/\(out=none\/out=some j) then some (Ni st l j m e te rows (h.1▸xs) (We j kp)) else none
   |_=>none
  |_,_=>none
 |_,_=>none
def FJ (st:St):AV->Bool
 | .at (.Fp _ _ _)=>true
 | .at (.Fu l _)=>match st.at l with
  |some (.Aj _ _ _ _ _)=>true
  |_=>false
 |_=>false
def Kf (st:St) (t:TypeId) (p v:AV):Option St:=match FJ st p with
 |true=>Vw T st t p v
 |false=>Oi T st t p v
def Le (st:St) (k m:Nat) (b:OB):St:=let s:=st.Xi [m,k] []; {s with heap:=Je s.heap k b}
def Zl (t:TypeId):Option (TypeId×Ty):=(T.elem t).bind λte=>(T.FI te).map λe=>(te,e)
def Qr (st:St) (dst:Nat) (t:TypeId) (l c:AV):Option (AV×St):=
 match Zl T t with
 |none=>Vt T st dst t l c
 |some (te,e)=>match l,c with
  | .at (.data _ (.int _) n), .at (.data _ (.int _) m)=>if WD n (Bh+1)=true/\n=m/\dst<Ak then some (.at (.own dst 0 n.toNat),Le st dst dst (.Aj e te (List.replicate n.toNat []) none none)) else none
  |_,_=>none
def Er (st:St) (dst:Nat) (t:TypeId) (len:Nat) (parts:Array (Nat×Operand)):Option (AV×St):=
 match Zl T t with
 |none=>Hs T st dst t len parts
 |some (te,e)=>match parts.toList with
  | [(0,x)]=>match st.ev x with
   | .at (.own m off ln)=>match st.at m with
    |some (.arr _ _ e' _ xs)=>if h:e'=e/\(Nat.beq len 1&&(Nat.blt dst Ak&&Nat.blt m Ak))=true/\off=0/\ln=xs.length then some (.at (.own dst 0 1),Le st dst m (.Aj e te [h.1▸xs] none none)) else none
    |_=>none
   |_=>none
  |_=>none
def Ln (st:St) (dst:Nat) (t:TypeId) (x y:Operand):Option (AV×St):=
 match Zl T t with
 |none=>Lm T st dst t x y
 |some (te,e)=>match st.ev x,st.ev y with
  | .at (.own l off len), .at (.own m OH oA)=>match st.at l,st.at m with
   |some (.Aj e1 te1 A none _),some (.Aj e2 rE B none _)=>
    if h:(e1=e/\e2=e)/\(decide (te1=te)&&decide (rE=te)&&(Nat.blt l Ak&&(Nat.blt m Ak&&!Nat.beq m l)))=true/\(off=0/\len=A.length)/\(OH=0/\oA=B.length)/\0<B.length/\A.length+B.length<=Bh then
     some (.at (.own l 0 (A.length+B.length)),Le st l m (.Aj e te ((h.1.1▸A:List (List e.den))++(h.1.2▸B:List (List e.den))) none none))
    else none
   |_,_=>none
  |_,_=>none
def qI (fr:Bool):(c:CK)->c.den->Option OB
 | .Dh _,_=>none
 | .row e te,xs=>some (.arr (fr&&e.flat) false e te xs)
 | .Ds e te,xs=>some (.Dc e te xs)
 | .part e te,x=>some (.arr (fr&&e.flat) false e te x.1)
 | .Aj e te _,xs=>some (.Aj e te xs none none)
def xH (H:List (Nat×OB)) (l:Nat):Option OB->List (Nat×OB)
 |some b=>Je H l b
 |none=>H
def Rb (fr:Bool) (key:Nat->Nat):(k:Nat)->(cs:List CK)->CKs.den cs->List (Nat×OB)->List (Nat×OB)
 |_,[],_,H=>H
 |k,c::r,x,H=>Rb fr key (k+1) r x.2 (xH H (key k) (qI fr c x.1))
def Wi (key:Nat->Nat):(k:Nat)->(cs:List CK)->CKs.den cs->List AC
 |_,[],_=> []
 |k,c::r,x=>(match c,x.1 with
  | .Dh τ,y=> .data τ.flat τ y
  | .row _ _,xs=> .own (key k) 0 (List.length xs)
  | .Ds _ _,xs=> .own (key k) 0 (List.length xs)
  | .Aj _ _ _,xs=> .own (key k) 0 (List.length xs)
  | .part _ _,_=> .undef)::Wi key (k+1) r x.2
def Tp:List (Option Nat)->List AC->List (Bool×List AC)
 |none::s,a::as=>(false,[a])::Tp s as
 |some n::s,as=>(true,as.take n)::Tp s (as.drop n)
 |_,_=> []
def Aed (Dn:Bool) (sh:List (Option Nat)) (as:List AC):Option AV:=
 if Dn then some (.Ib (Tp sh as)) else match Mv sh as with
  | [v]=>some v
  | []=>some .undef
  |_=>none
def iu (tks:List (Nat×Loc)):List Nat:=(tks.filter λt=>Nat.blt t.1 Ak&&!t.2.reads).map λt=>t.2.Qc
def whole (tks:List (Nat×Loc)):List Nat:=tks.flatMap λt=>match t.2 with| .row l=> [l]|_=> []
def w8 (tks:List (Nat×Loc)):List Nat:=(tks.filter λt=>t.2.reads).map λt=>t.2.Qc
def xR (ins:List (Bool×CK)) (te:TypeId) (used:List Nat):List (Nat×Loc)->Option Nat
 | []=>none
 |(k, .row l)::r=>if Nat.blt k Ak&&(!used.contains l&&(match ins[k-500000]? with
   |some (false, .row _ Li)=>decide (Li=te)
   |some (false, .Ds _ Li)=>decide (Li=te)
   |some (false, .Aj _ Li _)=>decide (Li=te)
   |_=>false)) then some l else xR ins te used r
 |_::r=>xR ins te used r
def BK (ins:List (Bool×CK)) (tks:List (Nat×Loc)) (d:Nat):(k:Nat)->(used:List Nat)->List CK->List Nat
 |_,_,[]=> []
 |k,used,c::r=>match (match c with
   | .row _ te=>xR ins te used tks
   | .Ds _ te=>xR ins te used tks
   | .Aj _ te _=>xR ins te used tks
   |_=>none) with
  |some l=>l::BK ins tks d (k+1) (l::used) r
  |none=>OG d k::BK ins tks d (k+1) used r
def il (s:MSpec) (tks:List (Nat×Loc)) (d:Nat):List Nat:=BK s.ins tks d 0 [] s.outs
def Bt (ks:List Nat) (j:Nat):Nat:=match ks[j]? with
 |some l=>l
 |none=>Ak+j
def uy (ks:List Nat) (n:Nat):Bool:=Nat.beq ks.length n&&(To ks&&ks.all λl=>Nat.blt l Ak)
def FE (st:St) (l:List Nat):Bool:=l.all λk=>match st.at k with|some (.arr fr _ _ _ _)=>fr|_=>false
def GF (st:St) (s:MSpec) (args:List AV):Option (List Nat×List AC×List AV):=
 match s.ptr with
 |none=>some ([],[],args)
 |some p=>match args with
  | .at (.Dv l i)::rest=>match st.at l with
   |some (.var tid vs)=>if tid=p.1/\vs.length=p.2/\i=0 then some ([l],vs,rest) else none
   |_=>none
  |_=>none
def Po:List (Bool×CK)->List AC->Bool
 |(true, .row _ _)::r, .own _ _ _::as=>Po r as
 |(true, .Ds _ _)::r, .own _ _ _::as=>Po r as
 |(true,_)::_,_::_=>false
 |(false,_)::r,_::as=>Po r as
 |_,as=>as.isEmpty
def bR {α:Type} :List (Bool×CK)->List α->List α->List α
 |(true,_)::r,v::vs,as=>v::bR r vs as
 |(false,_)::r,_::vs,a::as=>a::bR r vs as
 |_,vs,_=>vs
def oZ:List (Bool×CK)->Nat->Nat
 |(true,_)::r,n+1=>oZ r n
 |(false,_)::r,n+1=>oZ r n+1
 |_,_=>0
def MSpec.Sy (s:MSpec):Nat:=match s.ptr with|none=>0|some p=>oZ s.ins p.2
def mr (ins:List (Bool×CK)) (as:List AC) (pl:List Nat) (st:St):St:=
 match pl with
 | []=>st
 |l::_=>match st.at l with
  |some (.var tid vs)=>st.Fo l (.var tid (bR ins vs as))
  |_=>st
def Nf (d:Nat):Nat:=OG d 999
def gM (s:MSpec) (d:Nat):List Nat:=match s.rp with|none=> []|some _=> [Nf d]
def Md (s:MSpec) (tks:List (Nat×Loc)) (d:Nat):List Nat:=il s tks d++gM s d
def iQ (H:List (Nat×OB)) (l:Nat):Bool:=match Ad H l with
 |some (.Aj _ _ _ _ _)=>true
 |_=>false
def Wd (H:List (Nat×OB)) (ks:List Nat) (tks:List (Nat×Loc)):List (Nat×Nat)->List Nat
 | []=> []
 |(k,j)::r=>match tks.find? (λt=>Nat.beq t.1 (Bl false k)),ks[j]? with
  |some (_, .row l),some l'=>if Nat.beq l' l&&iQ H l then l::Wd H ks tks r else Wd H ks tks r
  |_,_=>Wd H ks tks r
def mT (H:List (Nat×OB)) (l:Nat):Nat:=match Ad H l with
 |some (.Aj _ _ rows _ _)=>rows.length
 |_=>0
def Yw (H:List (Nat×OB)) (ls:List Nat) (n:Nat):List AV->Bool
 | []=>true
 | .at (.sub l i _)::r=>(!ls.contains l||(Nat.blt i n&&Nat.blt i (mT H l)))&&Yw H ls n r
 |_::r=>Yw H ls n r
def Gz (ls:List Nat):List AV->List AV->List AV
 | .at (.sub l i c)::r,v::vs=>(if ls.contains l then .at (.sub l i c) else v)::Gz ls r vs
 |_::r,v::vs=>v::Gz ls r vs
 |_,vs=>vs
def ZP:Option OB->Option (Nat×Nat)
 |some (.Aj _ _ _ _ kp)=>kp
 |_=>none
def OB.yN (b:OB) (kp:Option (Nat×Nat)):OB:=match b with
 | .Aj e te rows out _=> .Aj e te rows out kp
 |b=>b
def Yp (H0:List (Nat×OB)) (ls:List Nat) (n:Nat):List (Nat×OB)->List (Nat×OB)
 | []=> []
 |(l,b)::r=>(l,if ls.contains l then b.yN (We n (ZP (Ad H0 l))) else b)::Yp H0 ls n r
def gC (bV st:St) (ls:List Nat) (n:Nat):St:=match ls with
 | []=>st
 |_=> {tmps:=Gz ls bV.tmps st.tmps,heap:=Yp bV.heap ls n st.heap}
def TO (s:MSpec) (d:Nat) (as:List AC):Option AV:=match s.rp with
 |none=>Aed s.Dn s.Ek as
 |some _=>some (.at (.Dv (Nf d) 0))
def ga (st st1:St) (d:Nat) (s:MSpec) (pl:List Nat) (tks:List (Nat×Loc)) (r:CKs.den s.outs):St:=
 let ks:=Md s tks d
 let key:=Bt ks
 let st2:=mr s.ins (Wi key 0 s.outs r) pl (st1.Xi (iu tks++ks++(if s.flat then [] else w8 tks)) (whole tks))
 {st2 with heap:=Rb (FE st (iu tks)) key 0 s.outs r (xH st2.heap (Nf d) (s.rp.map λtid=> .var tid ((Wi key 0 s.outs r).drop s.Sy)))}
def Qp (st:St) (dst:Option Nat) (s:MSpec) (args:List AV):Option (AV×St):=
 match GF st s args with
 |none=>none
 |some (pl,vs,rest)=>match ungroup s.Fk rest with
 |none=>none
 |some jE=>match bt st 0 s.ins (vs++jE) with
  |none=>none
  |some (x,tks)=>if To (tks.map λt=>t.2.Qc)&&uy (Md s tks (dst.getD 0)) (s.outs.length+(gM s (dst.getD 0)).length)&&Nat.blt s.outs.length 1000&&Nat.blt s.ins.length 1000&&(Po s.ins vs&&pl.all λl=>!((tks.map λt=>t.2.Qc)++Md s tks (dst.getD 0)).contains l) then match s.fn x with
   |none=>none
   |some (r,o)=>match Ef s.ins o (vs++jE) st with
    |none=>none
    |some st1=>match TO s (dst.getD 0) ((Wi (Bt (Md s tks (dst.getD 0))) 0 s.outs r).drop s.Sy) with
     |none=>none
     |some v=>if Yw (ga st st1 (dst.getD 0) s pl tks r).heap (Wd st.heap (Md s tks (dst.getD 0)) tks s.keeps) (s.Ch x) st.tmps=true then
       some (v,gC st (ga st st1 (dst.getD 0) s pl tks r) (Wd st.heap (Md s tks (dst.getD 0)) tks s.keeps) (s.Ch x)) else none
   else none
def Jq:List Operand->St->Option St
 | [],st=>some st
 |x::r,st=>match settle st (st.ev x) with
  |some (_,st')=>Jq r st'
  |none=>none
def aT (s:Spec) (args:List AV):Bool:=!(s.fresh||s.res.flat||args.all (·.settled))
def evalOp (Γ:Env) (st:St) (o:Oper):Option (AV×St):=
 match o.op with
 | .assign x=>match st.ev x,o.dst,(T.elem o.type).bind λte=>(T.ty te).map λe=>(te,e) with
  | .at .Hp,some d,some (te,e)=>if d<Ak then some (.at (.own d 0 0),st.new d (.arr (T.nX||e.flat) T.vY e te [])) else none
  |v,_,_=>some (v,st)
 | .alloc t=>match o.dst,T.ty t with
  |some d,some τ=>mkVar T st d t τ (zeroCells τ)
  |_,_=>none
 | .box t x=>match o.dst,T.ty t with
  |some d,some τ=>match cellsOf τ (st.ev x) with
   |some cs=>mkVar T st d t τ cs
   |none=>none
  |_,_=>none
 | .store t p x=>(Kf T st t (st.ev p) (st.ev x)).map λs=>(.undef,s)
 | .makeSlice t l c=>match o.dst with
  |some d=>Qr T st d t (st.ev l) (st.ev c)
  |none=>none
 | .makeMap t none=>match o.dst with
  |some d=>Oh T st d t
  |none=>none
 | .mapUpdate t m k x=>(Eu T st t (st.ev m) (st.ev k) (st.ev x)).map λs=>(.undef,s)
 | .insert t m k x=>(Eu T st t (st.ev m) (st.ev k) (st.ev x)).map λs=>(.undef,s)
 | .buildSlice t len parts=>match o.dst with
  |some d=>Er T st d t len parts
  |none=>none
 | .build t parts=>(Qo T st t parts).map λv=>(v,st)
 | .call {callee:= .builtin .append,args,argTypes} =>match o.dst,args.toList,argTypes.toList with
  |some d,[x,y],[t,t']=>if t=t' then Ln T st d t x y else none
  |_,_,_=>none
 | .call {callee:= .builtin .copy,args,argTypes} =>match args.toList,argTypes.toList with
  | [x,y],[t,t']=>cI T st t t' (st.ev x) (st.ev y)
  |_,_=>none
 | .call {callee:= .builtin .clear,args,argTypes} =>match args.toList,argTypes.toList with
  | [x],[t]=>(evalClear T st t (st.ev x)).map λs=>(.undef,s)
  |_,_=>none
 | .call {callee:= .value (.func f),args, .. } =>match Γ f with
  |some (.m s)=>Qp st o.dst s (args.toList.map st.ev)
  |some (.q s)=>if aT s (args.toList.map st.ev) then (match Jq args.toList st with
   |some st1=>(Ci T Γ st1 o).map λv=>(v,st1)
   |none=>none) else (Ci T Γ st o).map λv=>(v,st)
  |_=>(Ci T Γ st o).map λv=>(v,st)
 |_=>(Ci T Γ st o).map λv=>(v,st)
def aW (e:Ty):Nat->List (Nat×Operand)->St->Option (Bool×List e.den)
 |_,[],_=>some (true,[])
 |i,(j,x)::r,st=>
  if i=j/\(st.ev x).settled=true then match Ct st e (st.ev x),aW e (i+1) r st with
   |some (fr,y),some (Pk,ys)=>some (fr&&Pk,y::ys)
   |_,_=>none
  else none
def Vs (st:St) (t:TypeId) (len:Nat) (parts:Array (Nat×Operand)):Option AV:=
 match T.elem t with
 |none=>none
 |some te=>match T.ty te with
  |none=>none
  |some e=>if parts.size=len/\len<=64/\e.size<=64 then (aW e 0 parts.toList st).map λp=> .at (.data p.1 (.slice e) p.2) else none
def Sm (Γ:Env) (st:St) (o:Oper):Option AV:=
 match o.op with
 | .buildSlice t len parts=>Vs T st t len parts
 | .build t parts=>Qo T st t parts
 |_=>Ci T Γ st o
def NW (q:Bool) (Γ:Env) (o:Oper):Bool:=
 match o.op with
 | .buildSlice _ _ _| .build _ _=>!q
 | .alloc _| .box _ _| .store _ _ _| .makeSlice _ _ _| .makeMap _ _| .mapUpdate _ _ _ _| .insert _ _ _ _=>true
 | .assign (.const _)=>true
 | .call {callee:= .builtin .append, .. } =>true
 | .call {callee:= .builtin .copy, .. } =>true
 | .call {callee:= .builtin .clear, .. } =>true
 | .call {callee:= .value (.func f), .. } =>match Γ f with
  |some (.m _)=>true
  |_=>false
 |_=>false
def Cj (Γ:Env) (ops:Array Oper) (st:St) (o:Oper):Option St:=
 match o.guard with
 |none=>(evalOp T Γ st o).map λr=>r.2.put o.dst r.1
 |some (j,want)=>match Qj st ((ops[j]?).bind (·.dst)) with
  |some (some b)=>if b==want then (evalOp T Γ st o).map λr=>r.2.put o.dst r.1 else some (st.put o.dst (.at .skip))
  |some none=>some (st.put o.dst (.at .skip))
  |none=>none
def Ui (Γ:Env) (ops:Array Oper):List Oper->St->Option St
 | [],st=>some st
 |o::r,st=>match Cj T Γ ops st o with
  |some st'=>Ui Γ ops r st'
  |none=>none
def Fb (q:Bool) (Γ:Env) (ops:Array Oper):List Nat:=
 (List.range ops.size).foldl (init:= []) λacc i=>match ops[i]? with
  |some o=>if NW q Γ o||o.after.any (λe=>Region.binds .any e&&acc.contains e.on) then acc++ [i] else acc
  |none=>acc
def Xl (q:Bool) (Γ:Env) (ops:Array Oper):List Nat:=(List.range ops.size).filter λi=>!(Fb q Γ ops).contains i
def iP (ops:Array Oper) (hd tl:List Nat) (i:Nat):Bool:=
 match ops[i]? with
 |some o=>(match o.op,o.guard with
  | .move (.tmp _),none=>true
  |_,_=>false)&&!((tl.take 1++hd).any λj=>decide (i<j)&&Region.waitsFor .any ops j i)
 |none=>false
def Pj (q:Bool) (Γ:Env) (ops:Array Oper):List Nat:=(Xl q Γ ops).filter λi=>iP ops (Xl q Γ ops) (Fb q Γ ops) i
def Pl (q:Bool) (Γ:Env) (ops:Array Oper):List Nat:=(Xl q Γ ops).filter λi=>!iP ops (Xl q Γ ops) (Fb q Γ ops) i
def eg (q:Bool) (Γ:Env) (ops:Array Oper):List Nat:=Pj q Γ ops++Pl q Γ ops
def NN (ops:Array Oper) (i:Nat):Bool:=match ops[i]? with
 |some o=>(match o.op,o.guard with
  | .extract _ _,none=>true
  |_,_=>false)
 |none=>false
def ji (ops:Array Oper):List Nat->Array Bool->Bool
 | [],Ac=>(Region.ready .any ops Ac).isEmpty
 |k::r,Ac=>(decide (Region.ready .any ops Ac= [k])||(NN ops k&&((Region.ready .any ops Ac).contains k&&Region.free .any ops Ac k)))&&ji ops r (Ac.setIfInBounds k true)
def kf (ops:Array Oper) (tl:List Nat):List Nat->Array Bool->Bool
 | [],Ac=>ji ops tl Ac
 |k::r,Ac=>(Region.ready .any ops Ac).contains k&&Region.free .any ops Ac k&&kf ops tl r (Ac.setIfInBounds k true)
def ph (ops:Array Oper) (hd:List Nat):List Nat->Bool
 | []=>true
 |f::r=>(hd.all λi=>(f::hd).any λj=>decide (i<j)&&Region.waitsFor .any ops j i)&&r.all λt=>(f::r).any λk=>Region.waitsFor .any ops t k
def iE (ops:Array Oper) (tl hd:List Nat):List Nat->Array Bool->Bool
 | [],Ac=>kf ops tl hd Ac
 |k::r,Ac=>(Region.ready .any ops Ac).contains k&&Region.free .any ops Ac k&&iE ops tl hd r (Ac.setIfInBounds k true)
def ez (q:Bool) (Γ:Env) (ops:Array Oper):Bool:=
 Region.noSelect ops&&((Pj q Γ ops).length+((Pl q Γ ops).length+(Fb q Γ ops).length)==ops.size)&&iE ops (Fb q Γ ops) (Pl q Γ ops) (Pj q Γ ops) (Array.replicate ops.size false)&&ph ops (Pl q Γ ops) (Fb q Γ ops)
def cd (Γ:Env) (ops:Array Oper) (st:St) (o:Oper):Option AV:=
 match o.guard with
 |none=>Sm T Γ st o
 |some (j,want)=>match Qj st ((ops[j]?).bind (·.dst)) with
  |some (some b)=>if b==want then Sm T Γ st o else some (.at .skip)
  |some none=>some (.at .skip)
  |none=>none
def Ed (Γ:Env) (ops:Array Oper):List Nat->St->Option St
 | [],st=>some st
 |i::r,st=>match ops[i]? with
  |none=>none
  |some o=>match cd T Γ ops st o with
   |some v=>Ed Γ ops r (st.put o.dst v)
   |none=>none
def Jf (Γ:Env) (ops:Array Oper):List Nat->St->Option St
 | [],st=>some st
 |i::r,st=>match ops[i]? with
  |none=>none
  |some o=>match Cj T Γ ops st o with
   |some st'=>Jf Γ ops r st'
   |none=>none
def Lo (Γ:Env) (ops:Array Oper) (draw:Bool) (st:St):Option St:=
 if draw then (if ez false Γ ops then (match Ed T Γ ops (eg false Γ ops) st with
  |some st'=>Jf T Γ ops (Fb false Γ ops) st'
  |none=>none) else if ez true Γ ops then (match Ed T Γ ops (eg true Γ ops) st with
  |some st'=>Jf T Γ ops (Fb true Γ ops) st'
  |none=>none) else none)
 else Ui T Γ ops ops.toList st
def uq (ops:Array Oper) (i:Nat):Bool:=match ops[i]? with
 |some o=>(match o.op,o.guard with
  | .move (.tmp _),none=>true
  |_,_=>false)
 |none=>false
def eu (ops:Array Oper) (i:Nat):Bool:=match ops[i]? with
 |some o=>(match o.op,o.guard with
  | .move (.tmp _),none=>true
  | .nilCheck _,none=>true
  | .fieldAddr _ _ _,none=>true
  |_,_=>false)
 |none=>false
def Ael (q:Bool) (ops:Array Oper) (i:Nat):Bool:=match q with
 |true=>eu ops i
 |false=>uq ops i
def Ex (q:Bool) (ops:Array Oper):List Nat->Array Bool->List Nat
 | [],_=> []
 |i::r,Ac=>if Ael q ops i&&((Region.ready .any ops Ac).contains i&&Region.free .any ops Ac i) then i::Ex q ops r (Ac.setIfInBounds i true) else Ex q ops r Ac
def OC (q:Bool) (ops:Array Oper):List Nat:=Ex q ops (List.range ops.size) (Array.replicate ops.size false)
def ec (q:Bool) (ops:Array Oper):Bool:=Nat.ble (ops.size-(OC q ops).length) 8
def Kk (ops:Array Oper):List Nat:=OC (!ec false ops) ops
def Ei:List Nat->Array Bool->Array Bool
 | [],Ac=>Ac
 |i::r,Ac=>Ei r (Ac.setIfInBounds i true)
def anyS (Γ:Env) (ops:Array Oper) (K:St->Prop):Nat->Array Bool->St->Prop
 |0,Ac,st=>Region.ready .any ops Ac= []/\K st
 |f+1,Ac,st=>Region.ready .any ops Ac≠ []/\ ∀i∈Region.ready .any ops Ac,∃o st',ops[i]?=some o/\Cj T Γ ops st o=some st'/\anyS Γ ops K f (Ac.setIfInBounds i true) st'
def tC (Γ:Env) (ops:Array Oper) (draw:Bool) (st:St) (K:St->Prop):Prop:=
 (∃st',Lo T Γ ops draw st=some st'/\K st')\/
 (draw=true/\Region.noSelect ops=true/\ ∃bV,Ed T Γ ops (Kk ops) st=some bV/\anyS T Γ ops K (ops.size-(Kk ops).length) (Ei (Kk ops) (Array.replicate ops.size false)) bV)
def vf (Γ:Env) (draw:Bool):Env:= λf=>match Γ f with
 |some (.b s m)=>some (if draw then .q s else .m m)
 |r=>r
inductive Gw where
 |normal
 |exit (id:Nat)
 |ret
def Fw (live:List Nat):Nat->List AV->List AV
 |_,[]=> []
 |i,v::r=>(if live.contains i then v else .undef)::Fw live (i+1) r
def AV.refs:AV->List Nat
 | .at a=>a.refs
 | .agg cs=>cs.flatMap AC.refs
 | .Vl _ _ _=> []
 | .Ib l=>l.flatMap λp=>p.2.flatMap AC.refs
def OB.refs:OB->List Nat
 | .var _ vs=>vs.flatMap AC.refs
 |_=> []
def Zj:List Nat->St->St
 | [],st=>st
 |l::r,st=>Zj r (st.forget l)
def kE (l k m:Nat):Nat:=if m=l then k else m
def Oq (l k:Nat):AC->AC
 | .own m off len=> .own (kE l k m) off len
 | .Dv m i=> .Dv (kE l k m) i
 | .Fu m i=> .Fu (kE l k m) i
 | .clo f Bv=> .clo f (Bv.map λp=>(kE l k p.1,p.2))
 | .Ga m=> .Ga (kE l k m)
 | .sub m i c=> .sub (kE l k m) i c
 | .Fp m i c=> .Fp (kE l k m) i c
 |a=>a
def St.rename (l k:Nat) (st:St):St:=
 match Ad st.heap k,Ad st.heap l with
 |none,some b=>if (Nat.blt l Ak&&Nat.blt k Ak)=true then
   (let s:=st.Gj (Oq l k); {s with heap:=Je (Tw s.heap l) k (b.map (Oq l k))}) else st
 |_,_=>st
def Hy:Nat->Nat->St->St
 |0,_,st=>st
 |n+1,t,st=>Hy n (t+1) (match st.get t with
  | .at (.own l _ _)=>match Ad st.heap l with
   |some (.arr _ _ _ _ _)=>if (st.tmps.take t).any (λv=>v.refs.contains l) then st else st.rename l (700000+t)
   |_=>st
  |_=>st)
def Xu:Nat:=1000000007
def OB.Ep (flat all one:Bool):OB->OB
 | .arr fr tr e tid xs=> .arr (fr&&!(all||(one||(flat&&e.flat)))) (tr&&!all) e tid xs
 |b=>b
def Tg:Nat:=1000000009
def Tf:Nat:=1100000000
def dY:Nat:=1200000000
def St.Ep (live:List Nat) (st:St):St:= {st with heap:=st.heap.map λp=>(p.1,p.2.Ep (live.contains Tg) (live.contains (Tf+p.1)) (live.contains (dY+p.1)))}
def Lw:Nat:=900000000
def Wj (t:Nat) (st:St):St:=match st.get t with
 | .at (.own l off len)=>match Ad st.heap l with
  |some (.arr fr tr e tid xs)=>if Nat.blt l Ak=true then (st.new l (.arr fr tr e tid ((xs.drop off).take len))).put (some t) (.at (.own l 0 ((xs.drop off).take len).length)) else st
  |_=>st
 |_=>st
def Js:Nat:=1900000000
def MB:Nat:=950000000
def Km (c:Nat) (st:St):St:=match Ad st.heap Js with
 |some (.var _ vs)=>match vs[c]? with
  |some (.own l off len)=>match Ad st.heap l with
   |some (.arr fr tr e te xs)=>if Nat.blt l Ak=true then match Ad (st.new l (.arr fr tr e te ((xs.drop off).take len))).heap Js with
     |some (.var tid vs')=>(st.new l (.arr fr tr e te ((xs.drop off).take len))).Fo Js (.var tid (vs'.set c (.own l 0 ((xs.drop off).take len).length)))
     |_=>st
    else st
   |_=>st
  |_=>st
 |_=>st
def Kb (live:List Nat):Nat->Nat->St->St
 |0,_,st=>st
 |n+1,c,st=>Kb live n (c+1) (if live.contains (MB+c) then Km c st else st)
def Jp (live:List Nat):Nat->Nat->St->St
 |0,_,st=>Kb live 16 0 st
 |n+1,t,st=>Jp live n (t+1) (if live.contains (Lw+t) then Wj t st else st)
def St.clean (live:List Nat) (st:St):St:=
 let s:St:= {st with tmps:=Fw live 0 st.tmps}
 let r1:=s.tmps.flatMap AV.refs
 let r2:=r1++(s.heap.filter λp=>r1.contains p.1).flatMap λp=>p.2.refs
 let s2:=Zj ((s.heap.map (·.1)).filter λl=>!r2.contains l&&Nat.blt l Ak) s
 let s2:=if live.any (λt=>Nat.ble Lw t&&Nat.blt t Xu) then Jp live s2.tmps.length 0 s2 else s2
 let s3:=if live.contains Xu then Hy s2.tmps.length 0 s2 else s2
 if live.any (λt=>Nat.ble Tg t) then s3.Ep live else s3
def Ce:Code->Nat
 | .region id _ _=>id
 | .seq a _=>Ce a
 | .cond _ a _=>Ce a
 | .block _ c=>Ce c
 | .loop c=>1000+Ce c
 |_=>0
def XC (a b:List Nat):List Nat:=a++b.filter λt=>!a.contains t
def uF:List Oper->List Nat->List Nat
 | [],out=>out
 |o::r,out=>XC (o.op.operands.toList.filterMap λ | .tmp t=>some t|_=>none) (match o.dst with|some d=>(uF r out).filter (·!=d)|none=>uF r out)
def AF:List (Nat×List Nat)->Nat->List Nat
 | [],_=> []
 |(k,l)::r,id=>if k=id then l else AF r id
def lC:Code->List (Nat×List Nat)->List Nat->List Nat->List Nat×List (Nat×List Nat)
 | .region _ ops _,_,_,out=>(uF ops.toList out,[])
 | .seq a b,env,ret,out=>let rb:=lC b env ret out;let ra:=lC a env ret rb.1;(ra.1,ra.2++rb.2)
 | .cond c a b,env,ret,out=>let ra:=lC a env ret out;let rb:=lC b env ret out
  (XC (match c with| .tmp t=> [t]|_=> []) (XC ra.1 rb.1),ra.2++rb.2)
 | .block id c,env,ret,out=>lC c ((id,out)::env) ret out
 | .exit id,env,_,_=>(AF env id,[])
 | .ret,_,ret,_=>(ret,[])
 | .loop c,env,ret,_=>let l:=(lC c env ret []).1;let r:=lC c env ret l;(l,(Ce c,l)::r.2)
 |_,_,_,out=>(out,[])
def uG:List ResultVar->List Nat
 | []=> []
 | .tmp t::r=>t::uG r
 | .cell p _::r=>p::uG r
def uE (marks:List Nat) (fn:Func) (c:Code):Nat->List Nat:=let ret:=uG fn.results.toList;let g:=AF (lC c [] ret ret).2;match marks with
 | []=>g
 |m=> λid=>g id++m
def BY (K:St->Prop) (Q:Gw->St->Prop):Gw->St->Prop
 | .normal,s=>K s
 |e,s=>Q e s
def sB (id:Nat) (Q:Gw->St->Prop):Gw->St->Prop
 | .exit HT,s=>if HT=id then Q .normal s else Q (.exit HT) s
 |e,s=>Q e s
def OZ (ops:Array Oper) (t:Nat):Bool:=ops.toList.any λo=>match o.op with
 | .extract (.tmp s) _=>Nat.beq s t
 | .move (.tmp s)=>Nat.beq s t
 | .assign (.tmp s)=>Nat.beq s t
 |_=>false
def Jl (ops:Array Oper):Nat->List AV->List AV
 |_,[]=> []
 |i, .Ib l::r=>(if OZ ops i=true then .Ib l else .undef)::Jl ops (i+1) r
 |i,v::r=>v::Jl ops (i+1) r
def St.ir (ops:Array Oper) (st:St):St:= {st with tmps:=Jl ops 0 st.tmps}
inductive Jd (Γ:Env) (live:Nat->List Nat):Code->St->(Gw->St->Prop)->Prop where
 |skip {st:St} {Q:Gw->St->Prop} :Q .normal st->Jd Γ live .skip st Q
 |label {l:Nat} {st:St} {Q:Gw->St->Prop} :Q .normal st->Jd Γ live (.label l) st Q
 |exit {id:Nat} {st:St} {Q:Gw->St->Prop} :Q (.exit id) st->Jd Γ live (.exit id) st Q
 |ret {st:St} {Q:Gw->St->Prop} :Q .ret st->Jd Γ live .ret st Q
 |region {id:Nat} {ops:Array Oper} {draw:Bool} {st:St} {Q:Gw->St->Prop} :tC T (vf Γ draw) ops draw (st.ir ops) (Q .normal)->Jd Γ live (.region id ops draw) st Q
 |seq {x y:Code} {st:St} {Q:Gw->St->Prop} (Q1:Gw->St->Prop):Jd Γ live x st Q1->(∀s,Q1 .normal s->Jd Γ live y s Q)->(∀e s,e≠ .normal->Q1 e s->Q e s)->Jd Γ live (.seq x y) st Q
 |cond {c:Operand} {x y:Code} {st:St} {fr t:Bool} {Q:Gw->St->Prop} :st.ev c= .at (.data fr .bool t)->(t=true->Jd Γ live x st Q)->(t=false->Jd Γ live y st Q)->Jd Γ live (.cond c x y) st Q
 |block {id:Nat} {c:Code} {st:St} {Q:Gw->St->Prop} (Q1:Gw->St->Prop):Jd Γ live c st Q1->(∀e s,Q1 e s->sB id Q e s)->Jd Γ live (.block id c) st Q
 |loop {c:Code} {st:St} {Q:Gw->St->Prop} (Q1:Gw->St->Prop):Jd Γ live c (st.clean (live (Ce c))) Q1->(∀s,Q1 .normal s->Jd Γ live (.loop c) s Q)->(∀e s,e≠ .normal->Q1 e s->Q e s)->Jd Γ live (.loop c) st Q
def Yt (st:St):List ResultVar->Option (List AV)
 | []=>some []
 | .tmp t::r=>(Yt st r).map λl=>st.get t::l
 | .cell p t::r=>match Kp T st t (st.get p),Yt st r with
  |some v,some l=>some (v::l)
  |_,_=>none
def iC (s:Spec) (fn:Func) (st:St):Option (Bool×s.res.den):=
 match Yt T st fn.results.toList with
 |some [v]=>if s.Dn then none else Ct st s.res v
 |some [v,u]=>if s.Dn then Bq st s.res [v,u] else none
 |some [v,u,t]=>if s.Dn then Bq st s.res [v,u,t] else none
 |_=>none
def Ms:(τ:Ty)->τ.den->List AV
 | .pair a r,x=> .at (.data a.flat a x.1)::Ms r x.2
 |_,_=> []
def eT (st:St):(c:CK)->AC->Option (c.den×List Nat)
 | .Dh τ,a=>if τ.flat||a.settled then (Bn st τ a).map λp=>(p.2,[]) else none
 | .row e te, .own l off len=>match st.at l with
  |some (.arr _ _ e' Li xs)=>if h:e'=e/\Li=te then some ((((h.1▸xs:List e.den).drop off).take len),[l]) else none
  |_=>none
 | .row _ _, .Hp=>some ([],[])
 | .Ds e te, .own l off len=>match st.at l with
  |some (.arr _ tr e' Li xs)=>if h:e'=e/\Li=te/\(tr||e.flat)=true then some ((((h.1▸xs:List e.den).drop off).take len),[l]) else none
  |some (.Dc e' Li xs)=>if h:e'=e/\Li=te then some ((((h.1▸xs:List e.den).drop off).take len),[l]) else none
  |_=>none
 | .Ds _ _, .Hp=>some ([],[])
 | .Aj e te _, .own l off len=>match st.at l with
  |some (.Aj e' Li rows none _)=>if h:e'=e/\Li=te/\off=0/\len=rows.length then some ((h.1▸rows:List (List e.den)),[l]) else none
  |_=>none
 |_,_=>none
def Oo (st:St):(cs:List CK)->List AC->Option (CKs.den cs×List Nat)
 | [],[]=>some ((),[])
 |c::r,a::as=>match eT st c a,Oo st r as with
  |some (x,t1),some (y,t2)=>some ((x,y),t1++t2)
  |_,_=>none
 |_,_=>none
def ld (st:St) (l:Nat):(c:CK)->Option c.den
 | .Dh _=>none
 | .row e te=>match st.at l with
  |some (.arr _ _ e' Li xs)=>if h:e'=e/\Li=te then some (h.1▸xs) else none
  |_=>none
 | .Ds e te=>match st.at l with
  |some (.Dc e' Li xs)=>if h:e'=e/\Li=te then some (h.1▸xs) else none
  |_=>none
 | .part _ _=>none
 | .Aj _ _ _=>none
def Jj (st:St):(k:Nat)->(cs:List (Bool×CK))->Option (IOs.den cs)
 |_,[]=>some ()
 |k,(true, .Dh _)::r=>Jj st (k+1) r
 |k,(true, .Aj _ _ _)::r=>Jj st (k+1) r
 |k,(true, .row e te)::r=>match ld st (Bl true k) (.row e te),Jj st (k+1) r with
  |some x,some y=>some (x,y)
  |_,_=>none
 |k,(true, .Ds e te)::r=>match ld st (Bl true k) (.Ds e te),Jj st (k+1) r with
  |some x,some y=>some (x,y)
  |_,_=>none
 |k,(true, .part e te)::r=>match ld st (Bl true k) (.row e te),Jj st (k+1) r with
  |some x,some y=>some (x,y)
  |_,_=>none
 |k,(false,_)::r=>Jj st (k+1) r
def Ki:(k:Nat)->List (Bool×CK)->List Nat
 |_,[]=> []
 |k,(true, .Dh _)::r=>Ki (k+1) r
 |k,(true, .Aj _ _ _)::r=>Ki (k+1) r
 |k,(true,_)::r=>Bl true k::Ki (k+1) r
 |k,(false,_)::r=>Ki (k+1) r
def Ew:(k:Nat)->List (Bool×CK)->List AC->Option (List AC)
 |_,_,[]=>some []
 |k,(true, .row _ _)::r, .own l _ _::as=>if Nat.beq l (Bl true k) then Ew (k+1) r as else none
 |k,(true, .Ds _ _)::r, .own l _ _::as=>if Nat.beq l (Bl true k) then Ew (k+1) r as else none
 |k,(false,_)::r,a::as=>(Ew (k+1) r as).map λl=>a::l
 |_,_,_=>none
def cZ (st:St):List AC->List (Bool×CK)->Prop
 | .own l off len::as,(true,_)::r=>(off=0/\match st.at l with
  |some (.arr _ _ _ _ xs)=>len=xs.length
  |some (.Dc _ _ xs)=>len=xs.length
  |_=>False)/\cZ st as r
 |_::as,(false,_)::r=>cZ st as r
 |_,_=>True
def CW (s:MSpec) (st:St) (l:List AV):Option (List AC×List Nat):=match s.rp with
 |none=>if s.Dn=Nat.blt 1 l.length then (ungroup s.Ek l).map λas=>(as,[]) else none
 |some tid=>match l with
  | [.at (.Dv m i)]=>match st.at m with
   |some (.var Of vs)=>if Of=tid/\i=0/\Nat.blt m Ak=true then some (vs,[m]) else none
   |_=>none
  |_=>none
def sG (st:St) (n:Nat) (as:List AC):List (Nat×Nat)->Prop
 | []=>True
 |(k,j)::r=>(match as[j]? with
  |some (.own l _ _)=>match st.at l with
   |some (.Aj _ _ _ _ (some p))=>p.1=Bl false k/\n<=p.2/\Nat.blt k 1000=true
   |_=>False
  |_=>False)/\sG st n as r
def eB (s:MSpec) (fn:Func) (x:Ins.den s.ins) (st:St) (cs:List AC) (P:CKs.den s.outs×IOs.den s.ins->Prop):Prop:=
 match Yt T st fn.results.toList with
 |none=>False
 |some l=>match CW s st l with
  |none=>False
  |some (as,ml)=>match Oo st s.outs (cs++as),Jj st 0 s.ins with
   |some (r,ls),some o=>(To (ml++ls++Ki 0 s.ins)&&Nat.blt s.ins.length 1000&&Nat.blt s.outs.length 1000&&s.OA)=true/\sG st (s.Ch x) (cs++as) s.keeps/\P (r,o)
   |_,_=>False
def LN (s:MSpec) (fn:Func) (x:Ins.den s.ins) (st:St) (P:CKs.den s.outs×IOs.den s.ins->Prop):Prop:=
 match s.ptr with
 |none=>eB T s fn x st [] P
 |some p=> ∃vs cs,st.at Js=some (.var p.1 vs)/\vs.length=p.2/\Ew 0 s.ins vs=some cs/\cZ st vs s.ins/\eB T s fn x st cs P
def Tz (s:MSpec) (as:List AC):List AV:=match s.ptr with
 |none=>Mv s.Fk as
 |some p=> .at (.Dv Js 0)::Mv s.Fk (as.drop p.2)
def lz (s:MSpec) (x:Ins.den s.ins):List (Nat×OB):=match s.ptr with
 |none=>Sv 0 s.ins x
 |some p=>Sv 0 s.ins x++ [(Js, .var p.1 ((Wb 0 s.ins x).take p.2))]
def Ta:List (Bool×CK)->Bool
 | []=>true
 |(true, .Aj _ _ _)::_=>false
 |_::r=>Ta r
def uZ (s:MSpec):Bool:=Ta s.ins&&match s.ptr with
 |none=>true
 |some p=>Nat.ble p.2 s.ins.length
def UM (Γ:Env) (s:MSpec) (fn:Func) (x:Ins.den s.ins) (P:CKs.den s.outs×IOs.den s.ins->Prop):Prop:=
 (Nat.blt s.ins.length 1000&&uZ s)=true/\ ∃c,fn.body=some c/\Jd T Γ (uE T.marks fn c) c {tmps:=Tz s (Wb 0 s.ins x)++List.replicate (fn.ntmps-(Tz s (Wb 0 s.ins x)).length) .undef,heap:=lz s x}
  (λe st=>(∀id,e≠ .exit id)/\LN T s fn x st P)
def LO (Γ:Env) (s:Spec) (fn:Func) (x:s.arg.den) (P:s.res.den->Prop):Prop:=
 ∃c,fn.body=some c/\Jd T Γ (uE T.marks fn c) c {tmps:=Ms s.arg x++List.replicate (fn.ntmps-(Ms s.arg x).length) .undef,heap:= []}
  (λe st=>(∀id,e≠ .exit id)/\ ∃fr y,iC T s fn st=some (fr,y)/\(fr||!s.fresh)=true/\P y)
end Go.Proofs.YtfolipnappekaaaGreat
