/-
  Part 3 of the proof that the statement FnPatterns holds.
-/
import Derived.Test.YtkkdpknjohcekaaGreatCFPatterns01
namespace Go.Proofs.YtkkdpknjohcekaaGreat
open Go.RowKit
def Hw:Nat->St->List AC->Option (List AC×St)
 |0,st,cs=>if cs.all (·.settled) then some (cs,st) else none
 |n+1,st,cs=>
  match cs.find? (λc=>!c.settled) with
  |none=>some (cs,st)
  |some (.own l _ _)=>match st.at l with
   |some (.arr fr _ e _ xs)=>Hw n (st.freeze l fr e xs) (cs.map (Cz l fr e xs))
   |some (.Hf e _ xs)=>Hw n (st.freeze l false e xs) (cs.map (Cz l false e xs))
   |_=>none
  |some (.Kq l)=>match st.at l with
   |some (.Vw v m)=>Hw n (st.Jb l v m) (cs.map (Hl l v m))
   |_=>none
  |some _=>none
def settle (st:St):AV->Option (AV×St)
 | .at (.own l off len)=>match st.at l with
  |some (.arr fr _ e _ xs)=>some (.at (.data fr (.slice e) ((xs.drop off).take len)),st.freeze l fr e xs)
  |some (.Hf e _ xs)=>some (.at (.data false (.slice e) ((xs.drop off).take len)),st.freeze l false e xs)
  |_=>none
 | .at (.Kq l)=>match st.at l with
  |some (.Vw v m)=>some (.at (.data false (.smap v) m),st.Jb l v m)
  |_=>none
 | .at a=>if a.settled then some (.at a,st) else none
 | .agg cs=>(Hw cs.length st cs).map λp=>(.agg p.1,p.2)
 | .bw fr τ x=>some (.bw fr τ x,st)
 | .Mt _=>none
def AC.refs:AC->List Nat
 | .own l _ _| .Hr l _| .Ki l _| .Kq l| .sub l _ _| .Kf l _ _=> [l]
 | .clo _ Ef=>Ef.map (·.1)
 |_=> []
def ao:List Nat->Bool
 | []=>true
 |a::r=>!r.contains a&&ao r
def Ty.tree:Ty->Bool
 | .int _| .bool| .str| .unit=>true
 | .slice e=>e.tree
 | .pair a r=>a.tree&&r.tree
 |_=>false
def Sd (st:St):AC->Bool
 | .data _ τ _=>τ.flat
 | .Ma=>true
 | .own l _ _=>match st.at l with
  |some (.arr _ tr e _ _)=>tr||e.flat
  |some (.Hf _ _ _)=>true
  |_=>false
 |_=>false
def Tn (st:St):AV->Bool
 | .at a=>Sd st a
 | .agg cs=>cs.all (Sd st)&&ao (cs.flatMap AC.refs)
 |_=>false
def Bn:Nat:=1000000000
variable (T:Tab)
def QU (t:TypeId) (τ:Ty) (i:Nat):Option TypeId:=
 if τ.Ap then (List.range 24).findSome? λf=>match T.off t f with
  |some (o,u)=>if o=i then some u else none
  |none=>none
 else some t
def Tab.RG (te:TypeId):Option Ty:=if T.ZI.contains te then (match T.ty te with
 |some (.slice e)=>some e
 |_=>none) else none
def dZ (te:TypeId) (e:Ty):OB:=match T.RG te with
 |some e'=> .Bl e' te [] none none
 |none=> .arr (T.sT||e.flat) T.CH e te []
def Uy (b:OB) (key l i:Nat) (st:St):St:=
 match st.at l with
 |some (.var _ vs)=>match vs[i]? with
  |some .Ma=>
   let s1:=st.new key b
   match s1.at l with
   |some (.var tid vs')=>s1.Ke l (.var tid (Sr vs' i (.own key 0 0)))
   |_=>s1
  |_=>st
 |_=>st
def fK (l:Nat) (t:TypeId) (τ:Ty):Nat->Nat->St->St
 |0,_,st=>st
 |n+1,i,st=>
  fK l t τ n (i+1) (match ((QU T t τ i).bind T.elem).bind λte=>(T.ty te).map λe=>(te,e) with
   |some (te,e)=>Uy (dZ T te e) (100000+l*100+i) l i st
   |none=>st)
def eG (l off:Nat) (t:TypeId) (τ:Ty):Nat->Nat->St->St
 |0,_,st=>st
 |n+1,i,st=>
  eG l off t τ n (i+1) (match ((QU T t τ i).bind T.elem).bind λte=>(T.ty te).map λe=>(te,e) with
   |some (te,e)=>Uy (dZ T te e) (100000+l*100+(off+i)) l (off+i) st
   |none=>st)
def zeroCells:(τ:Ty)->List AC
 | .unit=> []
 | .pair a r=>zeroCells a++zeroCells r
 | .slice _=> [.Ma]
 | .oslice _=> [.Ma]
 | .ptr _=> [.Vv]
 | .optr _=> [.Vv]
 | .clo _ _=> [.undef]
 |τ=> [.data true τ τ.zero]
def cellsOf (τ:Ty):AV->Option (List AC)
 | .agg cs=>if τ.Ap&&cs.length==τ.size then some cs else none
 | .at (.data fr Oe x)=>if Oe=τ then some (Sk fr Oe x) else none
 | .at .undef=>none
 | .at .skip=>none
 | .at a=>if τ.Ap then none else some [a]
 |_=>none
def mkVar (st:St) (l:Nat) (t:TypeId) (τ:Ty) (cs:List AC):Option (AV×St):=
 if Bn<=100000+l*100+cs.length then none else
 let s:=fK T l t τ cs.length 0 (st.new l (.var t (cs.map (Cq l))))
 match s.at l with
 |some (.var _ _)=>some (.at (.Hr l 0),s)
 |_=>none
def Qc:(τ:Ty)->List AC
 | .unit=> []
 | .pair a r=>Qc a++Qc r
 | .slice e=> [.data false (.slice e) []]
 | .oslice _=> [.Ma]
 | .ptr _=> [.Vv]
 | .optr _=> [.Vv]
 | .clo _ _=> [.undef]
 |τ=> [.data false τ τ.zero]
def dY:Nat:=1300000000
def fU:Nat:=1400000000
def tV (st:St) (l:Nat) (t:TypeId) (cs:List AC):Option (AV×St):=
 if Bn<=100000+l*100+cs.length then none else some (.at (.Hr l 0),st.new l (.var t (cs.map (Cq l))))
def Dw {α:Type} (xs:List α) (i:Nat) (ys:List α):List α:=xs.take i++ys++xs.drop (i+ys.length)
def ZD (st:St) (τ:Ty) (l:Nat) (v:AV):AV:=match T.marks.contains (dY+l)&&v.settled with
 |true=>match Ga st τ v with
  |some p=> .at (.data false τ p.2)
  |none=>v
 |false=>v
def Vf (st:St) (t:TypeId) (p v:AV):Option St:=
 match T.ty t,p with
 |some τ, .at (.Hr l i)=>match st.at l,cellsOf τ (ZD T st τ l v) with
  |some (.var tid vs),some cs=>if i+cs.length<=vs.length then some (if τ.Ap&&Nat.blt (100000+l*100+(i+cs.length)) Bn then eG T l i t τ cs.length 0 (st.Ke l (.var tid (Dw vs i cs))) else st.Ke l (.var tid (Dw vs i cs))) else none
  |_,_=>none
 |some τ, .at (.Ki l j)=>match settle st v with
  |some (v',st')=>match st'.at l,Ga st' τ v' with
   |some (.arr fr tr e tid xs),some (Wh,x)=>if h:τ=e then (if j<xs.length then some (st'.Ke l (.arr (fr&&Wh) (tr&&(Tn st v&&e.tree)) e tid (xs.set j (h▸x)))) else none) else none
   |_,_=>none
  |none=>none
 |_,_=>none
def Db:Nat:=4294967296
def Ny (st:St) (dst:Nat) (t:TypeId) (x y:Operand):Option (AV×St):=
 match T.elem t with
 |none=>none
 |some te=>match T.ty te,settle st (st.ev y) with
  |some e,some (y',st')=>match Ga st' (.slice e) y' with
   |none=>none
   |some (rO,ys)=>
    let tr2:=e.flat||(Tn st (st.ev y)&&e.tree)
    match st'.ev x with
    | .at .Ma=>if ys.length<=Db/\dst<Bn then some (.at (.own dst 0 (0+ys.length)),(st'.new dst (.arr (T.sT||e.flat) T.CH e te [])).new dst (.arr ((T.sT||e.flat)&&(rO||e.flat)) (T.CH&&tr2) e te (((([]:List e.den).drop 0).take 0)++ys))) else none
    | .at (.own l off len)=>match st'.at l with
     |some (.arr fr tr e' tid xs)=>if h:e'=e/\tid=te then
       (if len+ys.length<=Db/\l<Bn then
        some (.at (.own l 0 (len+ys.length)),st'.new l (.arr (fr&&(rO||e.flat)) (tr&&tr2) e te ((((h.1▸xs:List e.den).drop off).take len)++ys))) else none)
      else none
     |_=>none
    |_=>none
  |_,_=>none
def Qd (st:St) (l i m:Nat) (e:Ty) (te tid:TypeId) (rows:List (List e.den)) (kp:Option (Nat×Nat)):St:=
 (st.Ke l (.Bl e te rows (some i) kp)).new m (.arr false false e tid (rows.getD i []))
def Rq (st:St) (dst:Nat) (t:TypeId) (x y:Operand):Option (AV×St):=
 match x with
 | .tmp tx=>match st.get tx with
  | .at (.sub l i _)=>match st.at l,T.elem t with
   |some (.Bl e te rows none kp),some tid=>if (Nat.blt l Bn&&(Nat.blt dst Bn&&!Nat.beq dst l))=true then Ny T ((Qd st l i dst e te tid rows kp).put (some tx) (.at (.own dst 0 (rows.getD i []).length))) dst t x y else none
   |_,_=>none
  |_=>Ny T st dst t x y
 |_=>Ny T st dst t x y
def mH:Ty->Bool
 | .int _| .bool| .str| .slice _| .oslice _=>true
 |_=>false
def gk:Ty->Bool
 | .unit=>true
 | .pair a r=>gk a&&gk r
 |e=>mH e
def bJ (st:St) (dst:Nat) (t:TypeId) (l c:AV):Option (AV×St):=
 match T.elem t,l,c with
 |some te, .at (.data _ (.int _) n), .at (.data _ (.int _) m)=>match T.ty te with
  |some e=>if inb n (Db+1)=true/\n=m/\gk e=true/\dst<Bn then some (.at (.own dst 0 n.toNat),st.new dst (.arr (T.sT||e.flat) (T.CH&&e.tree) e te (List.replicate n.toNat e.zero))) else none
  |none=>none
 |_,_,_=>none
def Lk (e:Ty):Nat->List (Nat×Operand)->St->Option (Bool×Bool×List e.den×St)
 |_,[],st=>some (true,true,[],st)
 |i,(j,x)::r,st=>
  if i=j then match settle st (st.ev x) with
   |some (v,st')=>match Ga st' e v with
    |some (fr,y)=>match Lk e (i+1) r st' with
     |some (Wh,tr',ys,Aud)=>some (fr&&Wh,Tn st (st.ev x)&&e.tree&&tr',y::ys,Aud)
     |none=>none
    |none=>none
   |none=>none
  else none
def Mo (st:St) (dst:Nat) (t:TypeId) (len:Nat) (parts:Array (Nat×Operand)):Option (AV×St):=
 match T.elem t with
 |none=>none
 |some te=>match T.ty te with
  |none=>none
  |some e=>if parts.size=len/\len<=64/\e.size<=64/\dst<Bn then (match Lk e 0 parts.toList st with
   |some (fr,tr,ys,st')=>some (.at (.own dst 0 len),st'.new dst (.arr ((T.sT||e.flat)&&fr) (T.CH&&tr) e te ys))
   |none=>none) else none
def Ve (st:St) (dst:Nat) (t:TypeId):Option (AV×St):=
 match T.mapOf t with
 |some v=>if dst<Bn then some (.at (.Kq dst),st.new dst (.Vw v λ_=>none)) else none
 |none=>none
def cj {α:Type} (m:ByteArray->Option α) (k:ByteArray) (x:α):ByteArray->Option α:= λs=>if s=k then some x else m s
def Ji (st:St) (t:TypeId) (m k x:AV):Option St:=
 match T.mapOf t,m,k with
 |some v, .at (.Kq l), .at (.data _ .str s)=>match st.at l,Ga st v x with
  |some (.Vw v' f),some (_,y)=>if h:v'=v/\v.flat=true/\v.Ap=false then some (st.Ke l (.Vw v (cj (h.1▸f:ByteArray->Option v.den) s y))) else none
  |_,_=>none
 |_,_,_=>none
def iK (st:St) (t t':TypeId) (x y:AV):Option (AV×St):=
 match x,(T.elem t).bind T.ty with
 | .at (.own l off len),some e=>if T.elem t=T.elem t'/\e.flat=true/\e.size=1 then match st.at l,Ga st (.slice e) y with
  |some (.arr fr _ e' tid xs),some (_,ys)=>if h:e'=e/\T.elem t=some tid then
    some (.at (.data true (.int .i64) (min len ys.length:Nat)),st.Ke l (.arr fr false e tid (Dw (h.1▸xs:List e.den) off (ys.take len))))
   else none
  |_,_=>none
  else none
 |_,_=>none
def evalClear (st:St) (t:TypeId) (x:AV):Option St:=
 match x,(T.elem t).bind T.ty with
 | .at (.own l off len),some e=>if e.flat=true/\mH e=true then match st.at l with
  |some (.arr fr _ e' tid xs)=>if h:e'=e/\T.elem t=some tid then
    some (st.Ke l (.arr fr false e tid (Dw (h.1▸xs:List e.den) off (List.replicate len e.zero))))
   else none
  |_=>none
  else none
 |_,_=>none
def Mn (st:St) (t:TypeId):List (Nat×Operand)->List AC->Option (List AC)
 | [],cs=>some cs
 |(i,x)::r,cs=>
  match T.off t i with
  |some (o,u)=>match T.ty u with
   |some ρ=>match cellsOf ρ (st.ev x) with
    |some c=>if o+c.length<=cs.length then Mn st t r (Dw cs o c) else none
    |none=>none
   |none=>none
  |none=>none
def Yb (st:St) (t:TypeId) (parts:Array (Nat×Operand)):Option AV:=
 match T.ty t with
 |none=>none
 |some τ=>if τ.Ap then (Mn T st t parts.toList (zeroCells τ)).map .agg else none
def Dy (io:Bool) (k:Nat):Nat:=if io then 1000000000+k else 500000+k
def Kj (k:Nat):Nat:=600000+k
def Ab1 (dst:Nat) (k:Nat):Nat:=1000000*(dst+1)+k
def Te:List (Option Nat)->List AC->List AV
 |none::s,a::as=> .at a::Te s as
 |some n::s,as=> .agg (as.take n)::Te s (as.drop n)
 |_,_=> []
def Kx:List (Option Nat)->List Value->List Value
 |none::s,u::us=>u::Kx s us
 |some n::s,us=> .agg (us.take n).toArray::Kx s (us.drop n)
 |_,_=> []
def ungroup:List (Option Nat)->List AV->Option (List AC)
 | [],[]=>some []
 |none::s, .at a::as=>(ungroup s as).map λr=>a::r
 |some n::s, .agg cs::as=>if cs.length=n then (ungroup s as).map λr=>cs++r else none
 |some n::s, .at (.data fr τ x)::as=>if τ.Ap=true/\(Sk fr τ x).length=n then (ungroup s as).map λr=>Sk fr τ x++r else none
 |_,_=>none
def kE (l:Nat):(c:CK)->c.den->Option OB
 | .Fz _,_=>none
 | .row e te,xs=>some (.arr false false e te xs)
 | .Hz e te,xs=>some (.Hf e te xs)
 | .part e te,x=>some (.arr false false e te x.1)
 | .Bl e te kp,xs=>some (.Bl e te xs none (if kp then some (l,List.length xs) else none))
def Ar8 (l:Nat):(c:CK)->c.den->AC
 | .Fz τ,x=> .data τ.flat τ x
 | .row _ _,xs=> .own l 0 (List.length xs)
 | .Hz _ _,xs=> .own l 0 (List.length xs)
 | .part _ _,x=> .own l x.2.1 x.2.2
 | .Bl _ _ _,xs=> .own l 0 (List.length xs)
def iE {α:Type} (l:Nat):Option α->List (Nat×α)->List (Nat×α)
 |none,r=>r
 |some b,r=>(l,b)::r
def Zy:(k:Nat)->(cs:List (Bool×CK))->Ins.den cs->List (Nat×OB)
 |_,[],_=> []
 |k,p::r,x=>iE (Dy p.1 k) (kE (Dy p.1 k) p.2 x.1) (Zy (k+1) r x.2)
def bR:(k:Nat)->(cs:List (Bool×CK))->Ins.den cs->List AC
 |_,[],_=> []
 |k,p::r,x=>Ar8 (Dy p.1 k) p.2 x.1::bR (k+1) r x.2
inductive Loc where
 |row (l:Nat)
 |sub (l i c:Nat)
 |view (l:Nat)
 deriving DecidableEq
def Loc.Xi:Loc->Nat
 | .row l=>l
 | .sub l _ _=>l
 | .view l=>l
def Loc.reads:Loc->Bool
 | .view _=>true
 |_=>false
def ck (st:St) (ls:List Nat):Bool:=ls.all λl=>match st.at l with|some (.var _ vs)=>vs.all (·.settled)|_=>false
def views (k:Nat) (ls:List Nat):List (Nat×Loc):=ls.map λl=>(Dy false k, .view l)
def Mh (st:St) (io:Bool) (k:Nat):(c:CK)->AC->Option (c.den×List (Nat×Loc))
 | .Fz τ, .own l off len=>(Dr st τ (.own l off len)).map λp=>(p.2,[(Dy false k, .view l)])
 | .Fz τ, .clo g Ef=>if ck st (Ef.map (·.1))&&!τ.Ap then (Kb st τ (.clo g Ef)).map λp=>(p.2,views k (Ef.map (·.1))) else none
 | .Fz τ, .Hr l i=>if ck st [l]&&!τ.Ap then (Kb st τ (.Hr l i)).map λp=>(p.2,views k [l]) else none
 | .Fz τ, .sub l i c=>(Dr st τ (.sub l i c)).map λp=>(p.2,[(Dy false k, .view l)])
 | .Fz τ,a=>if τ.flat||a.settled then (Dr st τ a).map λp=>(p.2,[]) else none
 | .row e te, .own l off len=>match st.at l with
  |some (.arr _ _ e' Ri xs)=>if h:e'=e/\Ri=te/\off=0/\len=xs.length then some ((h.1▸xs:List e.den),[(Dy io k, .row l)]) else none
  |_=>none
 | .row e _, .sub l i c=>match st.at l with
  |some (.Hf e' _ xs)=>if h:e'= .slice e/\e.flat=true/\io=true/\c=0 then xs[i]?.map λy=>((h.1▸y:(Ty.slice e).den),[(Dy io k, .sub l i c)]) else none
  |_=>none
 | .row _ _, .Ma=>some ([],[])
 | .Hz e te, .own l off len=>match st.at l with
  |some (.Hf e' Ri xs)=>if h:e'=e/\Ri=te/\off=0/\len=xs.length then some ((h.1▸xs:List e.den),[(Dy io k, .row l)]) else none
  |_=>none
 | .Hz e _, .sub l i c=>match st.at l with
  |some (.Hf e' _ xs)=>if h:e'= .slice e/\io=true/\c=0 then xs[i]?.map λy=>((h.1▸y:(Ty.slice e).den),[(Dy io k, .sub l i c)]) else none
  |_=>none
 | .Hz _ _, .Ma=>some ([],[])
 | .part e te, .own l off len=>match st.at l with
  |some (.arr _ _ e' Ri xs)=>if h:e'=e/\Ri=te/\e.flat=true/\io=true then some (((h.1▸xs:List e.den),off,len),[(Dy io k, .row l)]) else none
  |_=>none
 | .Bl e te _, .own l off len=>match st.at l with
  |some (.Bl e' Ri rows none _)=>if h:e'=e/\Ri=te/\off=0/\len=rows.length/\io=false then some ((h.1▸rows:List (List e.den)),[(Dy io k, .row l)]) else none
  |_=>none
 |_,_=>none
def gf (st:St):(k:Nat)->(cs:List (Bool×CK))->List AC->Option (Ins.den cs×List (Nat×Loc))
 |_,[],[]=>some ((),[])
 |k,p::r,a::as=>match Mh st p.1 k p.2 a,gf st (k+1) r as with
  |some (x,t1),some (y,t2)=>some ((x,y),t1++t2)
  |_,_=>none
 |_,_,_=>none
def cy (st:St):(c:CK)->c.den->AC->Option St
 | .row e _,ys, .own l _ len=>match st.at l with
  |some (.arr fr tr e' te xs)=>if h:e=e'/\List.length ys=len/\xs.length=len then some (st.Ke l (.arr (fr&&e'.flat) (tr&&e'.flat) e' te (h.1▸ys))) else none
  |_=>none
 | .Hz e _,ys, .own l _ len=>match st.at l with
  |some (.Hf e' te xs)=>if h:e=e'/\List.length ys=len/\xs.length=len then some (st.Ke l (.Hf e' te (h.1▸ys))) else none
  |_=>none
 | .row e _,ys, .sub l i _=>match st.at l with
  |some (.Hf e' te xs)=>if h: .slice e=e' then (match xs[i]? with
   |some y=>if List.length ys=List.length (h▸y:(Ty.slice e).den) then some (st.Ke l (.Hf e' te (xs.set i (h▸(ys:(Ty.slice e).den))))) else none
   |none=>none) else none
  |_=>none
 | .Hz e _,ys, .sub l i _=>match st.at l with
  |some (.Hf e' te xs)=>if h: .slice e=e' then (match xs[i]? with
   |some y=>if List.length ys=List.length (h▸y:(Ty.slice e).den) then some (st.Ke l (.Hf e' te (xs.set i (h▸(ys:(Ty.slice e).den))))) else none
   |none=>none) else none
  |_=>none
 |_,_, .Ma=>some st
 |_,_,_=>none
def OD (st:St) (e:Ty) (ys:List e.den):AC->Option St
 | .own l _ _=>match st.at l with
  |some (.arr fr tr e' te xs)=>if h:e=e'/\List.length ys=xs.length then some (st.Ke l (.arr fr tr e' te (h.1▸ys))) else none
  |_=>none
 |_=>none
def Ij:(cs:List (Bool×CK))->IOs.den cs->List AC->St->Option St
 | [],_,_,st=>some st
 |(true, .Fz _)::r,x,_::as,st=>Ij r x as st
 |(true, .row e te)::r,x,a::as,st=>match cy st (.row e te) x.1 a with
  |some st'=>Ij r x.2 as st'
  |none=>none
 |(true, .Hz e te)::r,x,a::as,st=>match cy st (.Hz e te) x.1 a with
  |some st'=>Ij r x.2 as st'
  |none=>none
 |(true, .part e _)::r,x,a::as,st=>match OD st e x.1 a with
  |some st'=>Ij r x.2 as st'
  |none=>none
 |(true, .Bl _ _ _)::r,x,_::as,st=>Ij r x as st
 |(false,_)::r,x,_::as,st=>Ij r x as st
 |_,_,_,_=>none
def Cs (dead part:List Nat) (c:AC):AC:=if c.refs.any (λl=>dead.contains l) then .undef else match c with
 | .sub l i c=>if part.contains l then .undef else .sub l i c
 | .Kf l i c=>if part.contains l then .undef else .Kf l i c
 |c=>c
def Xz:List (Nat×OB)->List Nat->List (Nat×OB)
 | [],_=> []
 |(k,b)::r,dead=>if dead.contains k then Xz r dead else (k,b)::Xz r dead
def St.cI (st:St) (dead part:List Nat):St:=let s:=st.Lb (Cs dead part); {s with heap:=Xz s.heap dead}
def Tv (st:St) (l j m:Nat) (e:Ty) (te:TypeId) (rows:List (List e.den)) (xs:List e.den) (kp:Option (Nat×Nat)):St:=
 (st.cI [m] [l]).Ke l (.Bl e te (rows.set j xs) none kp)
def bV (j:Nat):Option (Nat×Nat)->Option (Nat×Nat)
 |none=>none
 |some p=>some (p.1,min p.2 j)
def bL (st:St) (t:TypeId) (p v:AV):Option St:=
 match T.ty t,p with
 |some τ, .at (.Kf l i j)=>match settle st v with
  |some (v',st')=>match st'.at l,Ga st' τ v' with
   |some (.Bl e te rows none kp),some (_,x)=>if h:τ=e then some (st'.Ke l (.Bl e te (rows.set i ((rows.getD i []).set j (h▸x))) none kp)) else none
   |_,_=>none
  |none=>none
 |some τ, .at (.Ki l j)=>match st.at l,v with
  |some (.Bl e te rows out kp), .at (.own m off len)=>match st.at m with
   |some (.arr _ _ e' _ xs)=>if h:e'=e/\(Nat.blt l Bn&&(!Nat.beq m l&&!τ.Ap))=true/\off=0/\len=xs.length/\(out=none\/out=some j) then some (Tv st l j m e te rows (h.1▸xs) (bV j kp)) else none
   |_=>none
  |_,_=>none
 |_,_=>none
def RH (st:St):AV->Bool
 | .at (.Kf _ _ _)=>true
 | .at (.Ki l _)=>match st.at l with
  |some (.Bl _ _ _ _ _)=>true
  |_=>false
 |_=>false
def Pq (st:St) (t:TypeId) (p v:AV):Option St:=match RH st p with
 |true=>bL T st t p v
 |false=>Vf T st t p v
def Qz (st:St) (k m:Nat) (b:OB):St:=let s:=st.cI [m,k] []; {s with heap:=Og s.heap k b}
def eo (t:TypeId):Option (TypeId×Ty):=(T.elem t).bind λte=>(T.RG te).map λe=>(te,e)
def Ye (st:St) (dst:Nat) (t:TypeId) (l c:AV):Option (AV×St):=
 match eo T t with
 |none=>bJ T st dst t l c
 |some (te,e)=>match l,c with
  | .at (.data _ (.int _) n), .at (.data _ (.int _) m)=>if inb n (Db+1)=true/\n=m/\dst<Bn then some (.at (.own dst 0 n.toNat),Qz st dst dst (.Bl e te (List.replicate n.toNat []) none none)) else none
  |_,_=>none
def Jh (st:St) (dst:Nat) (t:TypeId) (len:Nat) (parts:Array (Nat×Operand)):Option (AV×St):=
 match eo T t with
 |none=>Mo T st dst t len parts
 |some (te,e)=>match parts.toList with
  | [(0,x)]=>match st.ev x with
   | .at (.own m off ln)=>match st.at m with
    |some (.arr _ _ e' _ xs)=>if h:e'=e/\(Nat.beq len 1&&(Nat.blt dst Bn&&Nat.blt m Bn))=true/\off=0/\ln=xs.length then some (.at (.own dst 0 1),Qz st dst m (.Bl e te [h.1▸xs] none none)) else none
    |_=>none
   |_=>none
  |_=>none
def Rr (st:St) (dst:Nat) (t:TypeId) (x y:Operand):Option (AV×St):=
 match eo T t with
 |none=>Rq T st dst t x y
 |some (te,e)=>match st.ev x,st.ev y with
  | .at (.own l off len), .at (.own m Ab3 tH)=>match st.at l,st.at m with
   |some (.Bl e1 te1 A none _),some (.Bl e2 wV B none _)=>
    if h:(e1=e/\e2=e)/\(decide (te1=te)&&decide (wV=te)&&(Nat.blt l Bn&&(Nat.blt m Bn&&!Nat.beq m l)))=true/\(off=0/\len=A.length)/\(Ab3=0/\tH=B.length)/\0<B.length/\A.length+B.length<=Db then
     some (.at (.own l 0 (A.length+B.length)),Qz st l m (.Bl e te ((h.1.1▸A:List (List e.den))++(h.1.2▸B:List (List e.den))) none none))
    else none
   |_,_=>none
  |_,_=>none
def we (fr:Bool):(c:CK)->c.den->Option OB
 | .Fz _,_=>none
 | .row e te,xs=>some (.arr (fr&&e.flat) false e te xs)
 | .Hz e te,xs=>some (.Hf e te xs)
 | .part e te,x=>some (.arr (fr&&e.flat) false e te x.1)
 | .Bl e te _,xs=>some (.Bl e te xs none none)
def FW (H:List (Nat×OB)) (l:Nat):Option OB->List (Nat×OB)
 |some b=>Og H l b
 |none=>H
def Ym (fr:Bool) (key:Nat->Nat):(k:Nat)->(cs:List CK)->CKs.den cs->List (Nat×OB)->List (Nat×OB)
 |_,[],_,H=>H
 |k,c::r,x,H=>Ym fr key (k+1) r x.2 (FW H (key k) (we fr c x.1))
def bY (key:Nat->Nat):(k:Nat)->(cs:List CK)->CKs.den cs->List AC
 |_,[],_=> []
 |k,c::r,x=>(match c,x.1 with
  | .Fz τ,y=> .data τ.flat τ y
  | .row _ _,xs=> .own (key k) 0 (List.length xs)
  | .Hz _ _,xs=> .own (key k) 0 (List.length xs)
  | .Bl _ _ _,xs=> .own (key k) 0 (List.length xs)
  | .part _ _,_=> .undef)::bY key (k+1) r x.2
def aq:List (Option Nat)->List AC->List (Bool×List AC)
 |none::s,a::as=>(false,[a])::aq s as
 |some n::s,as=>(true,as.take n)::aq s (as.drop n)
 |_,_=> []
def Aox (Hk:Bool) (sh:List (Option Nat)) (as:List AC):Option AV:=
 if Hk then some (.Mt (aq sh as)) else match Te sh as with
  | [v]=>some v
  | []=>some .undef
  |_=>none
def mV (tks:List (Nat×Loc)):List Nat:=(tks.filter λt=>Nat.blt t.1 Bn&&!t.2.reads).map λt=>t.2.Xi
def whole (tks:List (Nat×Loc)):List Nat:=tks.flatMap λt=>match t.2 with| .row l=> [l]|_=> []
def CN (tks:List (Nat×Loc)):List Nat:=(tks.filter λt=>t.2.reads).map λt=>t.2.Xi
def GH (ins:List (Bool×CK)) (te:TypeId) (used:List Nat):List (Nat×Loc)->Option Nat
 | []=>none
 |(k, .row l)::r=>if Nat.blt k Bn&&(!used.contains l&&(match ins[k-500000]? with
   |some (false, .row _ Ri)=>decide (Ri=te)
   |some (false, .Hz _ Ri)=>decide (Ri=te)
   |some (false, .Bl _ Ri _)=>decide (Ri=te)
   |_=>false)) then some l else GH ins te used r
 |_::r=>GH ins te used r
def MO (ins:List (Bool×CK)) (tks:List (Nat×Loc)) (d:Nat):(k:Nat)->(used:List Nat)->List CK->List Nat
 |_,_,[]=> []
 |k,used,c::r=>match (match c with
   | .row _ te=>GH ins te used tks
   | .Hz _ te=>GH ins te used tks
   | .Bl _ te _=>GH ins te used tks
   |_=>none) with
  |some l=>l::MO ins tks d (k+1) (l::used) r
  |none=>Ab1 d k::MO ins tks d (k+1) used r
def mR (s:MSpec) (tks:List (Nat×Loc)) (d:Nat):List Nat:=MO s.ins tks d 0 [] s.outs
def Ee (ks:List Nat) (j:Nat):Nat:=match ks[j]? with
 |some l=>l
 |none=>Bn+j
def zK (ks:List Nat) (n:Nat):Bool:=Nat.beq ks.length n&&(ao ks&&ks.all λl=>Nat.blt l Bn)
def RC (st:St) (l:List Nat):Bool:=l.all λk=>match st.at k with|some (.arr fr _ _ _ _)=>fr|_=>false
def SM (st:St) (s:MSpec) (args:List AV):Option (List Nat×List AC×List AV):=
 match s.ptr with
 |none=>some ([],[],args)
 |some p=>match args with
  | .at (.Hr l i)::rest=>match st.at l with
   |some (.var tid vs)=>if tid=p.1/\vs.length=p.2/\i=0 then some ([l],vs,rest) else none
   |_=>none
  |_=>none
def Wl:List (Bool×CK)->List AC->Bool
 |(true, .row _ _)::r, .own _ _ _::as=>Wl r as
 |(true, .Hz _ _)::r, .own _ _ _::as=>Wl r as
 |(true,_)::_,_::_=>false
 |(false,_)::r,_::as=>Wl r as
 |_,as=>as.isEmpty
def gK {α:Type} :List (Bool×CK)->List α->List α->List α
 |(true,_)::r,v::vs,as=>v::gK r vs as
 |(false,_)::r,_::vs,a::as=>a::gK r vs as
 |_,vs,_=>vs
def uu:List (Bool×CK)->Nat->Nat
 |(true,_)::r,n+1=>uu r n
 |(false,_)::r,n+1=>uu r n+1
 |_,_=>0
def MSpec.aF (s:MSpec):Nat:=match s.ptr with|none=>0|some p=>uu s.ins p.2
def rq (ins:List (Bool×CK)) (as:List AC) (pl:List Nat) (st:St):St:=
 match pl with
 | []=>st
 |l::_=>match st.at l with
  |some (.var tid vs)=>st.Ke l (.var tid (gK ins vs as))
  |_=>st
def To (d:Nat):Nat:=Ab1 d 999
def mw (s:MSpec) (d:Nat):List Nat:=match s.rp with|none=> []|some _=> [To d]
def Sj (s:MSpec) (tks:List (Nat×Loc)) (d:Nat):List Nat:=mR s tks d++mw s d
def nE (H:List (Nat×OB)) (l:Nat):Bool:=match At H l with
 |some (.Bl _ _ _ _ _)=>true
 |_=>false
def bU (H:List (Nat×OB)) (ks:List Nat) (tks:List (Nat×Loc)):List (Nat×Nat)->List Nat
 | []=> []
 |(k,j)::r=>match tks.find? (λt=>Nat.beq t.1 (Dy false k)),ks[j]? with
  |some (_, .row l),some l'=>if Nat.beq l' l&&nE H l then l::bU H ks tks r else bU H ks tks r
  |_,_=>bU H ks tks r
def rP (H:List (Nat×OB)) (l:Nat):Nat:=match At H l with
 |some (.Bl _ _ rows _ _)=>rows.length
 |_=>0
def dG (H:List (Nat×OB)) (ls:List Nat) (n:Nat):List AV->Bool
 | []=>true
 | .at (.sub l i _)::r=>(!ls.contains l||(Nat.blt i n&&Nat.blt i (rP H l)))&&dG H ls n r
 |_::r=>dG H ls n r
def Lw (ls:List Nat):List AV->List AV->List AV
 | .at (.sub l i c)::r,v::vs=>(if ls.contains l then .at (.sub l i c) else v)::Lw ls r vs
 |_::r,v::vs=>v::Lw ls r vs
 |_,vs=>vs
def Ajq:Option OB->Option (Nat×Nat)
 |some (.Bl _ _ _ _ kp)=>kp
 |_=>none
def OB.IF (b:OB) (kp:Option (Nat×Nat)):OB:=match b with
 | .Bl e te rows out _=> .Bl e te rows out kp
 |b=>b
def dw (H0:List (Nat×OB)) (ls:List Nat) (n:Nat):List (Nat×OB)->List (Nat×OB)
 | []=> []
 |(l,b)::r=>(l,if ls.contains l then b.IF (bV n (Ajq (At H0 l))) else b)::dw H0 ls n r
def m8 (cp st:St) (ls:List Nat) (n:Nat):St:=match ls with
 | []=>st
 |_=> {tmps:=Lw ls cp.tmps st.tmps,heap:=dw cp.heap ls n st.heap}
def Aff (s:MSpec) (d:Nat) (as:List AC):Option AV:=match s.rp with
 |none=>Aox s.Hk s.Gz as
 |some _=>some (.at (.Hr (To d) 0))
def lK (st st1:St) (d:Nat) (s:MSpec) (pl:List Nat) (tks:List (Nat×Loc)) (r:CKs.den s.outs):St:=
 let ks:=Sj s tks d
 let key:=Ee ks
 let st2:=rq s.ins (bY key 0 s.outs r) pl (st1.cI (mV tks++ks++(if s.flat then [] else CN tks)) (whole tks))
 {st2 with heap:=Ym (RC st (mV tks)) key 0 s.outs r (FW st2.heap (To d) (s.rp.map λtid=> .var tid ((bY key 0 s.outs r).drop s.aF)))}
def Yc (st:St) (dst:Option Nat) (s:MSpec) (args:List AV):Option (AV×St):=
 match SM st s args with
 |none=>none
 |some (pl,vs,rest)=>match ungroup s.Ii rest with
 |none=>none
 |some oB=>match gf st 0 s.ins (vs++oB) with
  |none=>none
  |some (x,tks)=>if ao (tks.map λt=>t.2.Xi)&&zK (Sj s tks (dst.getD 0)) (s.outs.length+(mw s (dst.getD 0)).length)&&Nat.blt s.outs.length 1000&&Nat.blt s.ins.length 1000&&(Wl s.ins vs&&pl.all λl=>!((tks.map λt=>t.2.Xi)++Sj s tks (dst.getD 0)).contains l) then match s.fn x with
   |none=>none
   |some (r,o)=>match Ij s.ins o (vs++oB) st with
    |none=>none
    |some st1=>match Aff s (dst.getD 0) ((bY (Ee (Sj s tks (dst.getD 0))) 0 s.outs r).drop s.aF) with
     |none=>none
     |some v=>if dG (lK st st1 (dst.getD 0) s pl tks r).heap (bU st.heap (Sj s tks (dst.getD 0)) tks s.keeps) (s.Fk x) st.tmps=true then
       some (v,m8 st (lK st st1 (dst.getD 0) s pl tks r) (bU st.heap (Sj s tks (dst.getD 0)) tks s.keeps) (s.Fk x)) else none
   else none
def Nl:List Operand->St->Option St
 | [],st=>some st
 |x::r,st=>match settle st (st.ev x) with
  |some (_,st')=>Nl r st'
  |none=>none
def Ok (st:St) (p x:Operand):St:=match st.ev p with
 | .at (.Hr l _)=>match T.marks.contains (fU+l) with
  |true=>match Nl [x] st with
   |some s0=>s0
   |none=>st
  |false=>st
 |_=>st
def fF (s:Spec) (args:List AV):Bool:=!(s.fresh||s.res.flat||args.all (·.settled))
def evalOp (Γ:Env) (st:St) (o:Oper):Option (AV×St):=
 match o.op with
 | .assign x=>match st.ev x,o.dst,(T.elem o.type).bind λte=>(T.ty te).map λe=>(te,e) with
  | .at .Ma,some d,some (te,e)=>if d<Bn then some (.at (.own d 0 0),st.new d (.arr (T.sT||e.flat) T.CH e te [])) else none
  |v,_,_=>some (v,st)
 | .alloc t=>match o.dst,T.ty t with
  |some d,some τ=>match T.marks.contains (dY+d) with
   |true=>tV st d t (Qc τ)
   |false=>mkVar T st d t τ (zeroCells τ)
  |_,_=>none
 | .box t x=>match o.dst,T.ty t with
  |some d,some τ=>match cellsOf τ (st.ev x) with
   |some cs=>match T.marks.contains (dY+d) with
    |true=>if cs.all (·.settled)=true then (Fg st τ cs).map λp=>(.at (.data false (.optr τ) (some p.2)),st) else none
    |false=>mkVar T st d t τ cs
   |none=>none
  |_,_=>none
 | .store t p x=>(Pq T (Ok T st p x) t ((Ok T st p x).ev p) ((Ok T st p x).ev x)).map λs=>(.undef,s)
 | .makeSlice t l c=>match o.dst with
  |some d=>Ye T st d t (st.ev l) (st.ev c)
  |none=>none
 | .makeMap t none=>match o.dst with
  |some d=>Ve T st d t
  |none=>none
 | .mapUpdate t m k x=>(Ji T st t (st.ev m) (st.ev k) (st.ev x)).map λs=>(.undef,s)
 | .insert t m k x=>(Ji T st t (st.ev m) (st.ev k) (st.ev x)).map λs=>(.undef,s)
 | .buildSlice t len parts=>match o.dst with
  |some d=>Jh T st d t len parts
  |none=>none
 | .build t parts=>(Yb T st t parts).map λv=>(v,st)
 | .call {callee:= .builtin .append,args,argTypes} =>match o.dst,args.toList,argTypes.toList with
  |some d,[x,y],[t,t']=>if t=t' then Rr T st d t x y else none
  |_,_,_=>none
 | .call {callee:= .builtin .copy,args,argTypes} =>match args.toList,argTypes.toList with
  | [x,y],[t,t']=>iK T st t t' (st.ev x) (st.ev y)
  |_,_=>none
 | .call {callee:= .builtin .clear,args,argTypes} =>match args.toList,argTypes.toList with
  | [x],[t]=>(evalClear T st t (st.ev x)).map λs=>(.undef,s)
  |_,_=>none
 | .call {callee:= .value (.func f),args, .. } =>match Γ f with
  |some (.m s)=>Yc st o.dst s (args.toList.map st.ev)
  |some (.q s)=>if fF s (args.toList.map st.ev) then (match Nl args.toList st with
   |some st1=>(Fh T Γ st1 o).map λv=>(v,st1)
   |none=>none) else (Fh T Γ st o).map λv=>(v,st)
  |_=>(Fh T Γ st o).map λv=>(v,st)
 |_=>(Fh T Γ st o).map λv=>(v,st)
def fI (e:Ty):Nat->List (Nat×Operand)->St->Option (Bool×List e.den)
 |_,[],_=>some (true,[])
 |i,(j,x)::r,st=>
  if i=j/\(st.ev x).settled=true then match Ga st e (st.ev x),fI e (i+1) r st with
   |some (fr,y),some (Wh,ys)=>some (fr&&Wh,y::ys)
   |_,_=>none
  else none
def bI (st:St) (t:TypeId) (len:Nat) (parts:Array (Nat×Operand)):Option AV:=
 match T.elem t with
 |none=>none
 |some te=>match T.ty te with
  |none=>none
  |some e=>if parts.size=len/\len<=64/\e.size<=64 then (fI e 0 parts.toList st).map λp=> .at (.data p.1 (.slice e) p.2) else none
def Xn (Γ:Env) (st:St) (o:Oper):Option AV:=
 match o.op with
 | .buildSlice t len parts=>bI T st t len parts
 | .build t parts=>Yb T st t parts
 |_=>Fh T Γ st o
def Aar (q:Bool) (Γ:Env) (o:Oper):Bool:=
 match o.op with
 | .buildSlice _ _ _| .build _ _=>!q
 | .alloc _| .box _ _| .store _ _ _| .makeSlice _ _ _| .makeMap _ _| .mapUpdate _ _ _ _| .insert _ _ _ _=>true
 | .assign (.const _)=>true
 | .call {callee:= .builtin .append, .. } =>true
 | .call {callee:= .builtin .copy, .. } =>true
 | .call {callee:= .builtin .clear, .. } =>true
 | .call {callee:= .value (.func f), .. } =>match Γ f with
  |some (.m _)=>true
  |_=>false
 |_=>false
def Fc (Γ:Env) (ops:Array Oper) (st:St) (o:Oper):Option St:=
 match o.guard with
 |none=>(evalOp T Γ st o).map λr=>r.2.put o.dst r.1
 |some (j,want)=>match Xv st ((ops[j]?).bind (·.dst)) with
  |some (some b)=>if b==want then (evalOp T Γ st o).map λr=>r.2.put o.dst r.1 else some (st.put o.dst (.at .skip))
  |some none=>some (st.put o.dst (.at .skip))
  |none=>none
def aO (Γ:Env) (ops:Array Oper):List Oper->St->Option St
 | [],st=>some st
 |o::r,st=>match Fc T Γ ops st o with
  |some st'=>aO Γ ops r st'
  |none=>none
def Jq (q:Bool) (Γ:Env) (ops:Array Oper):List Nat:=
 (List.range ops.size).foldl (init:= []) λacc i=>match ops[i]? with
  |some o=>if Aar q Γ o||o.after.any (λe=>Region.binds .any e&&acc.contains e.on) then acc++ [i] else acc
  |none=>acc
def cL (q:Bool) (Γ:Env) (ops:Array Oper):List Nat:=(List.range ops.size).filter λi=>!(Jq q Γ ops).contains i
def nD (ops:Array Oper) (hd tl:List Nat) (i:Nat):Bool:=
 match ops[i]? with
 |some o=>(match o.op,o.guard with
  | .move (.tmp _),none=>true
  |_,_=>false)&&!((tl.take 1++hd).any λj=>decide (i<j)&&Region.waitsFor .any ops j i)
 |none=>false
def Wg (q:Bool) (Γ:Env) (ops:Array Oper):List Nat:=(cL q Γ ops).filter λi=>nD ops (cL q Γ ops) (Jq q Γ ops) i
def Wj (q:Bool) (Γ:Env) (ops:Array Oper):List Nat:=(cL q Γ ops).filter λi=>!nD ops (cL q Γ ops) (Jq q Γ ops) i
def jV (q:Bool) (Γ:Env) (ops:Array Oper):List Nat:=Wg q Γ ops++Wj q Γ ops
def Aai (ops:Array Oper) (i:Nat):Bool:=match ops[i]? with
 |some o=>(match o.op,o.guard with
  | .extract _ _,none=>true
  |_,_=>false)
 |none=>false
def o5 (ops:Array Oper):List Nat->Array Bool->Bool
 | [],Ah=>(Region.ready .any ops Ah).isEmpty
 |k::r,Ah=>(decide (Region.ready .any ops Ah= [k])||(Aai ops k&&((Region.ready .any ops Ah).contains k&&Region.free .any ops Ah k)))&&o5 ops r (Ah.setIfInBounds k true)
def p6 (ops:Array Oper) (tl:List Nat):List Nat->Array Bool->Bool
 | [],Ah=>o5 ops tl Ah
 |k::r,Ah=>(Region.ready .any ops Ah).contains k&&Region.free .any ops Ah k&&p6 ops tl r (Ah.setIfInBounds k true)
def uI (ops:Array Oper) (hd:List Nat):List Nat->Bool
 | []=>true
 |f::r=>(hd.all λi=>(f::hd).any λj=>decide (i<j)&&Region.waitsFor .any ops j i)&&r.all λt=>(f::r).any λk=>Region.waitsFor .any ops t k
def np (ops:Array Oper) (tl hd:List Nat):List Nat->Array Bool->Bool
 | [],Ah=>p6 ops tl hd Ah
 |k::r,Ah=>(Region.ready .any ops Ah).contains k&&Region.free .any ops Ah k&&np ops tl hd r (Ah.setIfInBounds k true)
def cU (q:Bool) (Γ:Env) (ops:Array Oper):Bool:=
 Region.noSelect ops&&((Wg q Γ ops).length+((Wj q Γ ops).length+(Jq q Γ ops).length)==ops.size)&&np ops (Jq q Γ ops) (Wj q Γ ops) (Wg q Γ ops) (Array.replicate ops.size false)&&uI ops (Wj q Γ ops) (Jq q Γ ops)
def Xl (Γ:Env) (ops:Array Oper) (st:St) (o:Oper):Option AV:=
 match o.guard with
 |none=>Xn T Γ st o
 |some (j,want)=>match Xv st ((ops[j]?).bind (·.dst)) with
  |some (some b)=>if b==want then Xn T Γ st o else some (.at .skip)
  |some none=>some (.at .skip)
  |none=>none
def Gj (Γ:Env) (ops:Array Oper):List Nat->St->Option St
 | [],st=>some st
 |i::r,st=>match ops[i]? with
  |none=>none
  |some o=>match Xl T Γ ops st o with
   |some v=>Gj Γ ops r (st.put o.dst v)
   |none=>none
def Mx (Γ:Env) (ops:Array Oper):List Nat->St->Option St
 | [],st=>some st
 |i::r,st=>match ops[i]? with
  |none=>none
  |some o=>match Fc T Γ ops st o with
   |some st'=>Mx Γ ops r st'
   |none=>none
def Ru (Γ:Env) (ops:Array Oper) (draw:Bool) (st:St):Option St:=
 if draw then (if cU false Γ ops then (match Gj T Γ ops (jV false Γ ops) st with
  |some st'=>Mx T Γ ops (Jq false Γ ops) st'
  |none=>none) else if cU true Γ ops then (match Gj T Γ ops (jV true Γ ops) st with
  |some st'=>Mx T Γ ops (Jq true Γ ops) st'
  |none=>none) else none)
 else aO T Γ ops ops.toList st
def zD (ops:Array Oper) (i:Nat):Bool:=match ops[i]? with
 |some o=>(match o.op,o.guard with
  | .move (.tmp _),none=>true
  |_,_=>false)
 |none=>false
def ka (ops:Array Oper) (i:Nat):Bool:=match ops[i]? with
 |some o=>(match o.op,o.guard with
  | .move (.tmp _),none=>true
  | .nilCheck _,none=>true
  | .fieldAddr _ _ _,none=>true
  |_,_=>false)
 |none=>false
def Ap4 (q:Bool) (ops:Array Oper) (i:Nat):Bool:=match q with
 |true=>ka ops i
 |false=>zD ops i
def Jo (q:Bool) (ops:Array Oper):List Nat->Array Bool->List Nat
 | [],_=> []
 |i::r,Ah=>if Ap4 q ops i&&((Region.ready .any ops Ah).contains i&&Region.free .any ops Ah i) then i::Jo q ops r (Ah.setIfInBounds i true) else Jo q ops r Ah
def Aaw (q:Bool) (ops:Array Oper):List Nat:=Jo q ops (List.range ops.size) (Array.replicate ops.size false)
def jQ (q:Bool) (ops:Array Oper):Bool:=Nat.ble (ops.size-(Aaw q ops).length) 8
def Kr (ops:Array Oper):List Nat:=Aaw (!jQ false ops) ops
def Em:List Nat->Array Bool->Array Bool
 | [],Ah=>Ah
 |i::r,Ah=>Em r (Ah.setIfInBounds i true)
def anyS (Γ:Env) (ops:Array Oper) (K:St->Prop):Nat->Array Bool->St->Prop
 |0,Ah,st=>Region.ready .any ops Ah= []/\K st
 |f+1,Ah,st=>Region.ready .any ops Ah≠ []/\ ∀i∈Region.ready .any ops Ah,∃o st',ops[i]?=some o/\Fc T Γ ops st o=some st'/\anyS Γ ops K f (Ah.setIfInBounds i true) st'
def kb (ops:Array Oper) (i:Nat):Bool:=match ops[i]? with
 |some o=>(match o.op,o.guard with
  | .move _,none=>true
  | .load _ _,none=>true
  | .indexAddr _ _ _,none=>true
  | .fieldAddr _ _ _,none=>true
  |_,_=>false)
 |none=>false
def ki (ops:Array Oper):List Nat->Array Bool->List Nat
 | [],_=> []
 |i::r,Ah=>if kb ops i&&((Region.ready .any ops Ah).contains i&&Region.free .any ops Ah i) then i::ki ops r (Ah.setIfInBounds i true) else ki ops r Ah
def pU (ops:Array Oper) (i j:Nat) (p:Oper->Oper->Bool):Bool:=match ops[i]?,ops[j]? with
 |some x,some y=>p x y
 |_,_=>false
def ov (ops:Array Oper) (x y:Oper):Bool:=match x.dst with
 |some d=>!(y.looksAt ops).contains d
 |none=>true
def LG (x y:Oper):Bool:=match x.dst with
 |some d=>y.dst !=some d
 |none=>true
def ji (ops:Array Oper):List Nat->Array Bool->Bool
 | [],_=>true
 |r::E,Ah=>(Region.ready .any ops Ah).contains r&&ji ops E (Ah.setIfInBounds r true)
def AL (ops:Array Oper):List Nat->Bool
 | []=>true
 |r::E=>(pU ops r r (ov ops)&&E.all λq=>pU ops r q (λx y=>LG x y&&ov ops y x)&&(Region.waitsFor .any ops q r||pU ops r q (ov ops)))&&AL ops E
def Adw (ops:Array Oper) (E:List Nat) (L0:Array Bool):Bool:=E.all λr=>(List.range ops.size).all λj=>E.contains j||L0.getD j false||Region.waitsFor .any ops j r||pU ops r j (λx y=>x.apart ops y)
def cV (ops:Array Oper) (E:List Nat) (L0:Array Bool):Bool:=(E.all (kb ops)&&ji ops E L0)&&(AL ops E&&Adw ops E L0)
def rZ (ops:Array Oper) (E:List Nat) (Ah:Array Bool) (r:Nat):Bool:=(List.range ops.size).any λj=>!E.contains j&&(Ah.getD j false&&Region.waitsFor .any ops j r)
def Ac1 (Γ:Env) (ops:Array Oper) (E:List Nat) (Ah:Array Bool) (st:St):Prop:=
 ∀r∈E,rZ ops E Ah r=true\/ ∃o v,ops[r]?=some o/\Xl T Γ ops st o=some v/\ ∀d,o.dst=some d->st.get d=v
def r7 (Γ:Env) (ops:Array Oper) (E:List Nat) (K:St->Prop):Nat->Array Bool->St->Prop
 |0,Ah,st=>Ac1 T Γ ops E Ah st/\Region.ready .any ops Ah= []/\K st
 |f+1,Ah,st=>Ac1 T Γ ops E Ah st/\Region.ready .any ops Ah≠ []/\ ∀i∈Region.ready .any ops Ah,∃o st',ops[i]?=some o/\Fc T Γ ops st o=some st'/\r7 Γ ops E K f (Ah.setIfInBounds i true) st'
def Adv (Γ:Env) (ops:Array Oper) (K:St->Prop) (n:Nat) (L0:Array Bool) (cp:St):Prop:=
 ∃E st1,cV ops E L0=true/\E.length<=n/\Gj T Γ ops E cp=some st1/\r7 T Γ ops E K (n-E.length) (Em E L0) st1
def AU (Γ:Env) (draw:Bool):Env:= λf=>match Γ f with
 |some (.b s m)=>some (if draw then .q s else .m m)
 |r=>r
inductive Lp where
 |normal
 |exit (id:Nat)
 |ret
def Iq (live:List Nat):Nat->List AV->List AV
 |_,[]=> []
 |i,v::r=>(if live.contains i then v else .undef)::Iq live (i+1) r
def AV.refs:AV->List Nat
 | .at a=>a.refs
 | .agg cs=>cs.flatMap AC.refs
 | .bw _ _ _=> []
 | .Mt l=>l.flatMap λp=>p.2.flatMap AC.refs
def OB.refs:OB->List Nat
 | .var _ vs=>vs.flatMap AC.refs
 |_=> []
def bf:List Nat->St->St
 | [],st=>st
 |l::r,st=>bf r (st.forget l)
def pA (l k m:Nat):Nat:=if m=l then k else m
def Vn (l k:Nat):AC->AC
 | .own m off len=> .own (pA l k m) off len
 | .Hr m i=> .Hr (pA l k m) i
 | .Ki m i=> .Ki (pA l k m) i
 | .clo f Ef=> .clo f (Ef.map λp=>(pA l k p.1,p.2))
 | .Kq m=> .Kq (pA l k m)
 | .sub m i c=> .sub (pA l k m) i c
 | .Kf m i c=> .Kf (pA l k m) i c
 |a=>a
def St.rename (l k:Nat) (st:St):St:=
 match At st.heap k,At st.heap l with
 |none,some b=>if (Nat.blt l Bn&&Nat.blt k Bn)=true then
   (let s:=st.Lb (Vn l k); {s with heap:=Og (aA s.heap l) k (b.map (Vn l k))}) else st
 |_,_=>st
def Mr:Nat->Nat->St->St
 |0,_,st=>st
 |n+1,t,st=>Mr n (t+1) (match st.get t with
  | .at (.own l _ _)=>match At st.heap l with
   |some (.arr _ _ _ _ _)=>if (st.tmps.take t).any (λv=>v.refs.contains l) then st else st.rename l (700000+t)
   |_=>st
  |_=>st)
def cY:Nat:=1000000007
def AC.Ahs (flat:Bool):AC->AC
 | .data fr τ x=> .data (fr&&!(flat&&τ.flat)) τ x
 |c=>c
def OB.It (flat all one:Bool):OB->OB
 | .arr fr tr e tid xs=> .arr (fr&&!(all||(one||(flat&&e.flat)))) (tr&&!all) e tid xs
 | .var tid vs=> .var tid (vs.map (AC.Ahs flat))
 |b=>b
def Ue:Nat:=1000000009
def jM:Nat:=1100000000
def vD:Nat:=1200000000
def St.It (live:List Nat) (st:St):St:= {st with heap:=st.heap.map λp=>(p.1,p.2.It (live.contains Ue) (live.contains (jM+p.1)) (live.contains (vD+p.1)))}
def Sa:Nat:=900000000
def c5 (t:Nat) (st:St):St:=match st.get t with
 | .at (.own l off len)=>match At st.heap l with
  |some (.arr fr tr e tid xs)=>if Nat.blt l Bn=true then (st.new l (.arr fr tr e tid ((xs.drop off).take len))).put (some t) (.at (.own l 0 ((xs.drop off).take len).length)) else st
  |_=>st
 |_=>st
def Ox:Nat:=1900000000
def YY:Nat:=950000000
def Pz (c:Nat) (st:St):St:=match At st.heap Ox with
 |some (.var _ vs)=>match vs[c]? with
  |some (.own l off len)=>match At st.heap l with
   |some (.arr fr tr e te xs)=>if Nat.blt l Bn=true then match At (st.new l (.arr fr tr e te ((xs.drop off).take len))).heap Ox with
     |some (.var tid vs')=>(st.new l (.arr fr tr e te ((xs.drop off).take len))).Ke Ox (.var tid (vs'.set c (.own l 0 ((xs.drop off).take len).length)))
     |_=>st
    else st
   |_=>st
  |_=>st
 |_=>st
def Pn (live:List Nat):Nat->Nat->St->St
 |0,_,st=>st
 |n+1,c,st=>Pn live n (c+1) (if live.contains (YY+c) then Pz c st else st)
def Ov (live:List Nat):Nat->Nat->St->St
 |0,_,st=>Pn live 16 0 st
 |n+1,t,st=>Ov live n (t+1) (if live.contains (Sa+t) then c5 t st else st)
def St.clean (live:List Nat) (st:St):St:=
 let s:St:= {st with tmps:=Iq live 0 st.tmps}
 let r1:=s.tmps.flatMap AV.refs
 let r2:=r1++(s.heap.filter λp=>r1.contains p.1).flatMap λp=>p.2.refs
 let s2:=bf ((s.heap.map (·.1)).filter λl=>!r2.contains l&&Nat.blt l Bn) s
 let s2:=if live.any (λt=>Nat.ble Sa t&&Nat.blt t cY) then Ov live s2.tmps.length 0 s2 else s2
 let s3:=if live.contains cY then Mr s2.tmps.length 0 s2 else s2
 if live.any (λt=>Nat.ble Ue t) then s3.It live else s3
def Fe:Code->Nat
 | .region id _ _=>id
 | .seq a _=>Fe a
 | .cond _ a _=>Fe a
 | .block _ c=>Fe c
 | .loop c=>1000+Fe c
 |_=>0
def Ahz (a b:List Nat):List Nat:=a++b.filter λt=>!a.contains t
def zP:List Oper->List Nat->List Nat
 | [],out=>out
 |o::r,out=>Ahz (o.op.operands.toList.filterMap λ | .tmp t=>some t|_=>none) (match o.dst with|some d=>(zP r out).filter (·!=d)|none=>zP r out)
def LH:List (Nat×List Nat)->Nat->List Nat
 | [],_=> []
 |(k,l)::r,id=>if k=id then l else LH r id
def qy:Code->List (Nat×List Nat)->List Nat->List Nat->List Nat×List (Nat×List Nat)
 | .region _ ops _,_,_,out=>(zP ops.toList out,[])
 | .seq a b,env,ret,out=>let rb:=qy b env ret out;let ra:=qy a env ret rb.1;(ra.1,ra.2++rb.2)
 | .cond c a b,env,ret,out=>let ra:=qy a env ret out;let rb:=qy b env ret out
  (Ahz (match c with| .tmp t=> [t]|_=> []) (Ahz ra.1 rb.1),ra.2++rb.2)
 | .block id c,env,ret,out=>qy c ((id,out)::env) ret out
 | .exit id,env,_,_=>(LH env id,[])
 | .ret,_,ret,_=>(ret,[])
 | .loop c,env,ret,_=>let l:=(qy c env ret []).1;let r:=qy c env ret l;(l,(Fe c,l)::r.2)
 |_,_,_,out=>(out,[])
def zQ:List ResultVar->List Nat
 | []=> []
 | .tmp t::r=>t::zQ r
 | .cell p _::r=>p::zQ r
def zO (marks:List Nat) (fn:Func) (c:Code):Nat->List Nat:=let ret:=zQ fn.results.toList;let g:=LH (qy c [] ret ret).2;match marks with
 | []=>g
 |m=> λid=>g id++m
def St.Qk (dead:List Nat) (st:St):St:=
 let s:St:= {st with tmps:=Iq ((List.range st.tmps.length).filter λt=>!dead.contains t) 0 st.tmps}
 let r1:=s.tmps.flatMap AV.refs
 let r2:=r1++(s.heap.filter λp=>r1.contains p.1).flatMap λp=>p.2.refs
 bf ((s.heap.map (·.1)).filter λl=>!r2.contains l&&Nat.blt l Bn) s
def Zd (ops:Array Oper) (t:Nat):Bool:=ops.toList.any λo=>o.dst==some t
def kK (Γ:Env) (ops:Array Oper) (draw:Bool) (st:St) (K:St->Prop):Prop:=
 (∃st',Ru T Γ ops draw st=some st'/\K st')\/
 (draw=true/\Region.noSelect ops=true/\ ∃cp,Gj T Γ ops (Kr ops) st=some cp/\
  (anyS T Γ ops K (ops.size-(Kr ops).length) (Em (Kr ops) (Array.replicate ops.size false)) cp\/Adv T Γ ops K (ops.size-(Kr ops).length) (Em (Kr ops) (Array.replicate ops.size false)) cp))
def yN (Γ:Env) (ops:Array Oper) (draw:Bool) (st:St) (K:St->Prop):Prop:=
 kK T Γ ops draw st K\/ ∃dead:List Nat,(dead.all (Zd ops))=true/\kK T Γ ops draw st λs=>K (s.Qk dead)
def ND (K:St->Prop) (Q:Lp->St->Prop):Lp->St->Prop
 | .normal,s=>K s
 |e,s=>Q e s
def xF (id:Nat) (Q:Lp->St->Prop):Lp->St->Prop
 | .exit UG,s=>if UG=id then Q .normal s else Q (.exit UG) s
 |e,s=>Q e s
def Abq (ops:Array Oper) (t:Nat):Bool:=ops.toList.any λo=>match o.op with
 | .extract (.tmp s) _=>Nat.beq s t
 | .move (.tmp s)=>Nat.beq s t
 | .assign (.tmp s)=>Nat.beq s t
 |_=>false
def On (ops:Array Oper):Nat->List AV->List AV
 |_,[]=> []
 |i, .Mt l::r=>(if Abq ops i=true then .Mt l else .undef)::On ops (i+1) r
 |i,v::r=>v::On ops (i+1) r
def St.mU (ops:Array Oper) (st:St):St:= {st with tmps:=On ops 0 st.tmps}
inductive Of (Γ:Env) (live:Nat->List Nat):Code->St->(Lp->St->Prop)->Prop where
 |skip {st:St} {Q:Lp->St->Prop} :Q .normal st->Of Γ live .skip st Q
 |label {l:Nat} {st:St} {Q:Lp->St->Prop} :Q .normal st->Of Γ live (.label l) st Q
 |exit {id:Nat} {st:St} {Q:Lp->St->Prop} :Q (.exit id) st->Of Γ live (.exit id) st Q
 |ret {st:St} {Q:Lp->St->Prop} :Q .ret st->Of Γ live .ret st Q
 |region {id:Nat} {ops:Array Oper} {draw:Bool} {st:St} {Q:Lp->St->Prop} :yN T (AU Γ draw) ops draw (st.mU ops) (Q .normal)->Of Γ live (.region id ops draw) st Q
 |seq {x y:Code} {st:St} {Q:Lp->St->Prop} (Q1:Lp->St->Prop):Of Γ live x st Q1->(∀s,Q1 .normal s->Of Γ live y s Q)->(∀e s,e≠ .normal->Q1 e s->Q e s)->Of Γ live (.seq x y) st Q
 |cond {c:Operand} {x y:Code} {st:St} {fr t:Bool} {Q:Lp->St->Prop} :st.ev c= .at (.data fr .bool t)->(t=true->Of Γ live x st Q)->(t=false->Of Γ live y st Q)->Of Γ live (.cond c x y) st Q
 |block {id:Nat} {c:Code} {st:St} {Q:Lp->St->Prop} (Q1:Lp->St->Prop):Of Γ live c st Q1->(∀e s,Q1 e s->xF id Q e s)->Of Γ live (.block id c) st Q
 |loop {c:Code} {st:St} {Q:Lp->St->Prop} (Q1:Lp->St->Prop):Of Γ live c (st.clean (live (Fe c))) Q1->(∀s,Q1 .normal s->Of Γ live (.loop c) s Q)->(∀e s,e≠ .normal->Q1 e s->Q e s)->Of Γ live (.loop c) st Q
def dB (st:St):List ResultVar->Option (List AV)
 | []=>some []
 | .tmp t::r=>(dB st r).map λl=>st.get t::l
 | .cell p t::r=>match Qe T st t (st.get p),dB st r with
  |some v,some l=>some (v::l)
  |_,_=>none
def ni (s:Spec) (fn:Func) (st:St):Option (Bool×s.res.den):=
 match dB T st fn.results.toList with
 |some [v]=>if s.Hk then none else Ga st s.res v
 |some [v,u]=>if s.Hk then Dx st s.res [v,u] else none
 |some [v,u,t]=>if s.Hk then Dx st s.res [v,u,t] else none
 |_=>none
def Tb:(τ:Ty)->τ.den->List AV
 | .pair a r,x=> .at (.data a.flat a x.1)::Tb r x.2
 |_,_=> []
def kI (st:St):(c:CK)->AC->Option (c.den×List Nat)
 | .Fz τ,a=>if τ.flat||a.settled then (Dr st τ a).map λp=>(p.2,[]) else none
 | .row e te, .own l off len=>match st.at l with
  |some (.arr _ _ e' Ri xs)=>if h:e'=e/\Ri=te then some ((((h.1▸xs:List e.den).drop off).take len),[l]) else none
  |_=>none
 | .row _ _, .Ma=>some ([],[])
 | .Hz e te, .own l off len=>match st.at l with
  |some (.arr _ tr e' Ri xs)=>if h:e'=e/\Ri=te/\(tr||e.flat)=true then some ((((h.1▸xs:List e.den).drop off).take len),[l]) else none
  |some (.Hf e' Ri xs)=>if h:e'=e/\Ri=te then some ((((h.1▸xs:List e.den).drop off).take len),[l]) else none
  |_=>none
 | .Hz _ _, .Ma=>some ([],[])
 | .Bl e te _, .own l off len=>match st.at l with
  |some (.Bl e' Ri rows none _)=>if h:e'=e/\Ri=te/\off=0/\len=rows.length then some ((h.1▸rows:List (List e.den)),[l]) else none
  |_=>none
 |_,_=>none
def Vl (st:St):(cs:List CK)->List AC->Option (CKs.den cs×List Nat)
 | [],[]=>some ((),[])
 |c::r,a::as=>match kI st c a,Vl st r as with
  |some (x,t1),some (y,t2)=>some ((x,y),t1++t2)
  |_,_=>none
 |_,_=>none
def pZ (st:St) (l:Nat):(c:CK)->Option c.den
 | .Fz _=>none
 | .row e te=>match st.at l with
  |some (.arr _ _ e' Ri xs)=>if h:e'=e/\Ri=te then some (h.1▸xs) else none
  |_=>none
 | .Hz e te=>match st.at l with
  |some (.Hf e' Ri xs)=>if h:e'=e/\Ri=te then some (h.1▸xs) else none
  |_=>none
 | .part _ _=>none
 | .Bl _ _ _=>none
def Om (st:St):(k:Nat)->(cs:List (Bool×CK))->Option (IOs.den cs)
 |_,[]=>some ()
 |k,(true, .Fz _)::r=>Om st (k+1) r
 |k,(true, .Bl _ _ _)::r=>Om st (k+1) r
 |k,(true, .row e te)::r=>match pZ st (Dy true k) (.row e te),Om st (k+1) r with
  |some x,some y=>some (x,y)
  |_,_=>none
 |k,(true, .Hz e te)::r=>match pZ st (Dy true k) (.Hz e te),Om st (k+1) r with
  |some x,some y=>some (x,y)
  |_,_=>none
 |k,(true, .part e te)::r=>match pZ st (Dy true k) (.row e te),Om st (k+1) r with
  |some x,some y=>some (x,y)
  |_,_=>none
 |k,(false,_)::r=>Om st (k+1) r
def Pu:(k:Nat)->List (Bool×CK)->List Nat
 |_,[]=> []
 |k,(true, .Fz _)::r=>Pu (k+1) r
 |k,(true, .Bl _ _ _)::r=>Pu (k+1) r
 |k,(true,_)::r=>Dy true k::Pu (k+1) r
 |k,(false,_)::r=>Pu (k+1) r
def Jm:(k:Nat)->List (Bool×CK)->List AC->Option (List AC)
 |_,_,[]=>some []
 |k,(true, .row _ _)::r, .own l _ _::as=>if Nat.beq l (Dy true k) then Jm (k+1) r as else none
 |k,(true, .Hz _ _)::r, .own l _ _::as=>if Nat.beq l (Dy true k) then Jm (k+1) r as else none
 |k,(false,_)::r,a::as=>(Jm (k+1) r as).map λl=>a::l
 |_,_,_=>none
def j0 (st:St):List AC->List (Bool×CK)->Prop
 | .own l off len::as,(true,_)::r=>(off=0/\match st.at l with
  |some (.arr _ _ _ _ xs)=>len=xs.length
  |some (.Hf _ _ xs)=>len=xs.length
  |_=>False)/\j0 st as r
 |_::as,(false,_)::r=>j0 st as r
 |_,_=>True
def OI (s:MSpec) (st:St) (l:List AV):Option (List AC×List Nat):=match s.rp with
 |none=>if s.Hk=Nat.blt 1 l.length then (ungroup s.Gz l).map λas=>(as,[]) else none
 |some tid=>match l with
  | [.at (.Hr m i)]=>match st.at m with
   |some (.var Vc vs)=>if Vc=tid/\i=0/\Nat.blt m Bn=true then some (vs,[m]) else none
   |_=>none
  |_=>none
def xL (st:St) (n:Nat) (as:List AC):List (Nat×Nat)->Prop
 | []=>True
 |(k,j)::r=>(match as[j]? with
  |some (.own l _ _)=>match st.at l with
   |some (.Bl _ _ _ _ (some p))=>p.1=Dy false k/\n<=p.2/\Nat.blt k 1000=true
   |_=>False
  |_=>False)/\xL st n as r
def km (s:MSpec) (fn:Func) (x:Ins.den s.ins) (st:St) (cs:List AC) (P:CKs.den s.outs×IOs.den s.ins->Prop):Prop:=
 match dB T st fn.results.toList with
 |none=>False
 |some l=>match OI s st l with
  |none=>False
  |some (as,ml)=>match Vl st s.outs (cs++as),Om st 0 s.ins with
   |some (r,ls),some o=>(ao (ml++ls++Pu 0 s.ins)&&Nat.blt s.ins.length 1000&&Nat.blt s.outs.length 1000&&s.Aav)=true/\xL st (s.Fk x) (cs++as) s.keeps/\P (r,o)
   |_,_=>False
def YL (s:MSpec) (fn:Func) (x:Ins.den s.ins) (st:St) (P:CKs.den s.outs×IOs.den s.ins->Prop):Prop:=
 match s.ptr with
 |none=>km T s fn x st [] P
 |some p=> ∃vs cs,st.at Ox=some (.var p.1 vs)/\vs.length=p.2/\Jm 0 s.ins vs=some cs/\j0 st vs s.ins/\km T s fn x st cs P
def aC (s:MSpec) (as:List AC):List AV:=match s.ptr with
 |none=>Te s.Ii as
 |some p=> .at (.Hr Ox 0)::Te s.Ii (as.drop p.2)
def qp (s:MSpec) (x:Ins.den s.ins):List (Nat×OB):=match s.ptr with
 |none=>Zy 0 s.ins x
 |some p=>Zy 0 s.ins x++ [(Ox, .var p.1 ((bR 0 s.ins x).take p.2))]
def a6:List (Bool×CK)->Bool
 | []=>true
 |(true, .Bl _ _ _)::_=>false
 |_::r=>a6 r
def AP (s:MSpec):Bool:=a6 s.ins&&match s.ptr with
 |none=>true
 |some p=>Nat.ble p.2 s.ins.length
def Ag5 (Γ:Env) (s:MSpec) (fn:Func) (x:Ins.den s.ins) (P:CKs.den s.outs×IOs.den s.ins->Prop):Prop:=
 (Nat.blt s.ins.length 1000&&AP s)=true/\ ∃c,fn.body=some c/\Of T Γ (zO T.marks fn c) c {tmps:=aC s (bR 0 s.ins x)++List.replicate (fn.ntmps-(aC s (bR 0 s.ins x)).length) .undef,heap:=qp s x}
  (λe st=>(∀id,e≠ .exit id)/\YL T s fn x st P)
def YM (Γ:Env) (s:Spec) (fn:Func) (x:s.arg.den) (P:s.res.den->Prop):Prop:=
 ∃c,fn.body=some c/\Of T Γ (zO T.marks fn c) c {tmps:=Tb s.arg x++List.replicate (fn.ntmps-(Tb s.arg x).length) .undef,heap:= []}
  (λe st=>(∀id,e≠ .exit id)/\ ∃fr y,ni T s fn st=some (fr,y)/\(fr||!s.fresh)=true/\P y)
end Go.Proofs.YtkkdpknjohcekaaGreat
