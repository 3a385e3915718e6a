/-
  Part 3 of the proof that the statement FnIterativeDeepening holds.
-/
import Derived.Test.YtkkdpknjohcekaaGreatCFIterativeDeepening01
namespace Go.Proofs.YtkkdpknjohcekaaGreat
open Go.RowKit
def Ic:Nat->St->List AC->Option (List AC×St)
 |0,st,cs=>if cs.all (·.settled) then some (cs,st) else none
 |n+1,st,cs=>
  match cs.find? (λc=>!c.settled) with
  |none=>some (cs,st)
  |some (.own l _ _)=>match st.at l with
   |some (.arr fr _ e _ xs)=>Ic n (st.freeze l fr e xs) (cs.map (Cv l fr e xs))
   |some (.Hf e _ xs)=>Ic n (st.freeze l false e xs) (cs.map (Cv l false e xs))
   |_=>none
  |some (.Lb l)=>match st.at l with
   |some (.Vx v m)=>Ic n (st.Jn l v m) (cs.map (Hp l v m))
   |_=>none
  |some _=>none
def settle (st:St):AV->Option (AV×St)
 | .at (.own l off len)=>match st.at l with
  |some (.arr fr _ e _ xs)=>some (.at (.data fr (.slice e) ((xs.drop off).take len)),st.freeze l fr e xs)
  |some (.Hf e _ xs)=>some (.at (.data false (.slice e) ((xs.drop off).take len)),st.freeze l false e xs)
  |_=>none
 | .at (.Lb l)=>match st.at l with
  |some (.Vx v m)=>some (.at (.data false (.smap v) m),st.Jn l v m)
  |_=>none
 | .at a=>if a.settled then some (.at a,st) else none
 | .agg cs=>(Ic cs.length st cs).map λp=>(.agg p.1,p.2)
 | .bw fr τ x=>some (.bw fr τ x,st)
 | .Nd _=>none
def AC.refs:AC->List Nat
 | .own l _ _| .Hs l _| .Ku l _| .Lb l| .sub l _ _| .Kr l _ _=> [l]
 | .clo _ Ec=>Ec.map (·.1)
 |_=> []
def ar:List Nat->Bool
 | []=>true
 |a::r=>!r.contains a&&ar r
def Ty.tree:Ty->Bool
 | .int _| .bool| .str| .unit=>true
 | .slice e=>e.tree
 | .pair a r=>a.tree&&r.tree
 |_=>false
def Su (st:St):AC->Bool
 | .data _ τ _=>τ.flat
 | .Mo=>true
 | .own l _ _=>match st.at l with
  |some (.arr _ tr e _ _)=>tr||e.flat
  |some (.Hf _ _ _)=>true
  |_=>false
 |_=>false
def Tw (st:St):AV->Bool
 | .at a=>Su st a
 | .agg cs=>cs.all (Su st)&&ar (cs.flatMap AC.refs)
 |_=>false
def Bl:Nat:=1000000000
variable (T:Tab)
def OJ (t:TypeId) (τ:Ty) (i:Nat):Option TypeId:=
 if τ.Aq then (List.range 24).findSome? λf=>match T.off t f with
  |some (o,u)=>if o=i then some u else none
  |none=>none
 else some t
def Tab.OT (te:TypeId):Option Ty:=if T.Af3.contains te then (match T.ty te with
 |some (.slice e)=>some e
 |_=>none) else none
def dQ (te:TypeId) (e:Ty):OB:=match T.OT te with
 |some e'=> .Bn e' te [] none none
 |none=> .arr (T.vn||e.flat) T.BK e te []
def Vb (b:OB) (key l i:Nat) (st:St):St:=
 match st.at l with
 |some (.var _ vs)=>match vs[i]? with
  |some .Mo=>
   let s1:=st.new key b
   match s1.at l with
   |some (.var tid vs')=>s1.Kq l (.var tid (Tg vs' i (.own key 0 0)))
   |_=>s1
  |_=>st
 |_=>st
def fG (l:Nat) (t:TypeId) (τ:Ty):Nat->Nat->St->St
 |0,_,st=>st
 |n+1,i,st=>
  fG l t τ n (i+1) (match ((OJ T t τ i).bind T.elem).bind λte=>(T.ty te).map λe=>(te,e) with
   |some (te,e)=>Vb (dQ T te e) (100000+l*100+i) l i st
   |none=>st)
def ew (l off:Nat) (t:TypeId) (τ:Ty):Nat->Nat->St->St
 |0,_,st=>st
 |n+1,i,st=>
  ew l off t τ n (i+1) (match ((OJ T t τ i).bind T.elem).bind λte=>(T.ty te).map λe=>(te,e) with
   |some (te,e)=>Vb (dQ T te e) (100000+l*100+(off+i)) l (off+i) st
   |none=>st)
def zeroCells:(τ:Ty)->List AC
 | .unit=> []
 | .pair a r=>zeroCells a++zeroCells r
 | .slice _=> [.Mo]
 | .oslice _=> [.Mo]
 | .ptr _=> [.Vw]
 | .optr _=> [.Vw]
 | .clo _ _=> [.undef]
 |τ=> [.data true τ τ.zero]
def cellsOf (τ:Ty):AV->Option (List AC)
 | .agg cs=>if τ.Aq&&cs.length==τ.size then some cs else none
 | .at (.data fr Ov x)=>if Ov=τ then some (Ta fr Ov x) else none
 | .at .undef=>none
 | .at .skip=>none
 | .at a=>if τ.Aq then none else some [a]
 |_=>none
def mkVar (st:St) (l:Nat) (t:TypeId) (τ:Ty) (cs:List AC):Option (AV×St):=
 if Bl<=100000+l*100+cs.length then none else
 let s:=fG T l t τ cs.length 0 (st.new l (.var t (cs.map (Ck l))))
 match s.at l with
 |some (.var _ _)=>some (.at (.Hs l 0),s)
 |_=>none
def Qn:(τ:Ty)->List AC
 | .unit=> []
 | .pair a r=>Qn a++Qn r
 | .slice e=> [.data false (.slice e) []]
 | .oslice _=> [.Mo]
 | .ptr _=> [.Vw]
 | .optr _=> [.Vw]
 | .clo _ _=> [.undef]
 |τ=> [.data false τ τ.zero]
def Qp:Nat:=1300000000
def fS:Nat:=1400000000
def tM (st:St) (l:Nat) (t:TypeId) (cs:List AC):Option (AV×St):=
 if Bl<=100000+l*100+cs.length then none else some (.at (.Hs l 0),st.new l (.var t (cs.map (Ck l))))
def Dt {α:Type} (xs:List α) (i:Nat) (ys:List α):List α:=xs.take i++ys++xs.drop (i+ys.length)
def XD (st:St) (τ:Ty) (l:Nat) (v:AV):AV:=match T.marks.contains (Qp+l)&&v.settled with
 |true=>match Fw st τ v with
  |some p=> .at (.data false τ p.2)
  |none=>v
 |false=>v
def Vg (st:St) (t:TypeId) (p v:AV):Option St:=
 match T.ty t,p with
 |some τ, .at (.Hs l i)=>match st.at l,cellsOf τ (XD T st τ l v) with
  |some (.var tid vs),some cs=>if i+cs.length<=vs.length then some (if τ.Aq&&Nat.blt (100000+l*100+(i+cs.length)) Bl then ew T l i t τ cs.length 0 (st.Kq l (.var tid (Dt vs i cs))) else st.Kq l (.var tid (Dt vs i cs))) else none
  |_,_=>none
 |some τ, .at (.Ku l j)=>match settle st v with
  |some (v',st')=>match st'.at l,Fw st' τ v' with
   |some (.arr fr tr e tid xs),some (Wh,x)=>if h:τ=e then (if j<xs.length then some (st'.Kq l (.arr (fr&&Wh) (tr&&(Tw st v&&e.tree)) e tid (xs.set j (h▸x)))) else none) else none
   |_,_=>none
  |none=>none
 |_,_=>none
def Dj:Nat:=4294967296
def Oi (st:St) (dst:Nat) (t:TypeId) (x y:Operand):Option (AV×St):=
 match T.elem t with
 |none=>none
 |some te=>match T.ty te,settle st (st.ev y) with
  |some e,some (y',st')=>match Fw st' (.slice e) y' with
   |none=>none
   |some (rR,ys)=>
    let tr2:=e.flat||(Tw st (st.ev y)&&e.tree)
    match st'.ev x with
    | .at .Mo=>if ys.length<=Dj/\dst<Bl then some (.at (.own dst 0 (0+ys.length)),(st'.new dst (.arr (T.vn||e.flat) T.BK e te [])).new dst (.arr ((T.vn||e.flat)&&(rR||e.flat)) (T.BK&&tr2) e te (((([]:List e.den).drop 0).take 0)++ys))) else none
    | .at (.own l off len)=>match st'.at l with
     |some (.arr fr tr e' tid xs)=>if h:e'=e/\tid=te then
       (if len+ys.length<=Dj/\l<Bl then
        some (.at (.own l 0 (len+ys.length)),st'.new l (.arr (fr&&(rR||e.flat)) (tr&&tr2) e te ((((h.1▸xs:List e.den).drop off).take len)++ys))) else none)
      else none
     |_=>none
    |_=>none
  |_,_=>none
def Qq (st:St) (l i m:Nat) (e:Ty) (te tid:TypeId) (rows:List (List e.den)) (kp:Option (Nat×Nat)):St:=
 (st.Kq l (.Bn e te rows (some i) kp)).new m (.arr false false e tid (rows.getD i []))
def Se (st:St) (dst:Nat) (t:TypeId) (x y:Operand):Option (AV×St):=
 match x with
 | .tmp tx=>match st.get tx with
  | .at (.sub l i _)=>match st.at l,T.elem t with
   |some (.Bn e te rows none kp),some tid=>if (Nat.blt l Bl&&(Nat.blt dst Bl&&!Nat.beq dst l))=true then Oi T ((Qq st l i dst e te tid rows kp).put (some tx) (.at (.own dst 0 (rows.getD i []).length))) dst t x y else none
   |_,_=>none
  |_=>Oi T st dst t x y
 |_=>Oi T st dst t x y
def mF:Ty->Bool
 | .int _| .bool| .str| .slice _| .oslice _=>true
 |_=>false
def gh:Ty->Bool
 | .unit=>true
 | .pair a r=>gh a&&gh r
 |e=>mF e
def bH (st:St) (dst:Nat) (t:TypeId) (l c:AV):Option (AV×St):=
 match T.elem t,l,c with
 |some te, .at (.data _ (.int _) n), .at (.data _ (.int _) m)=>match T.ty te with
  |some e=>if inb n (Dj+1)=true/\n=m/\gh e=true/\dst<Bl then some (.at (.own dst 0 n.toNat),st.new dst (.arr (T.vn||e.flat) (T.BK&&e.tree) e te (List.replicate n.toNat e.zero))) else none
  |none=>none
 |_,_,_=>none
def Lw (e:Ty):Nat->List (Nat×Operand)->St->Option (Bool×Bool×List e.den×St)
 |_,[],st=>some (true,true,[],st)
 |i,(j,x)::r,st=>
  if i=j then match settle st (st.ev x) with
   |some (v,st')=>match Fw st' e v with
    |some (fr,y)=>match Lw e (i+1) r st' with
     |some (Wh,tr',ys,Atc)=>some (fr&&Wh,Tw st (st.ev x)&&e.tree&&tr',y::ys,Atc)
     |none=>none
    |none=>none
   |none=>none
  else none
def Mx (st:St) (dst:Nat) (t:TypeId) (len:Nat) (parts:Array (Nat×Operand)):Option (AV×St):=
 match T.elem t with
 |none=>none
 |some te=>match T.ty te with
  |none=>none
  |some e=>if parts.size=len/\len<=64/\e.size<=64/\dst<Bl then (match Lw e 0 parts.toList st with
   |some (fr,tr,ys,st')=>some (.at (.own dst 0 len),st'.new dst (.arr ((T.vn||e.flat)&&fr) (T.BK&&tr) e te ys))
   |none=>none) else none
def Vf (st:St) (dst:Nat) (t:TypeId):Option (AV×St):=
 match T.mapOf t with
 |some v=>if dst<Bl then some (.at (.Lb dst),st.new dst (.Vx v λ_=>none)) else none
 |none=>none
def jA {α:Type} (m:ByteArray->Option α) (k:ByteArray) (x:α):ByteArray->Option α:= λs=>if s=k then some x else m s
def Jx (st:St) (t:TypeId) (m k x:AV):Option St:=
 match T.mapOf t,m,k with
 |some v, .at (.Lb l), .at (.data _ .str s)=>match st.at l,Fw st v x with
  |some (.Vx v' f),some (_,y)=>if h:v'=v/\v.flat=true/\v.Aq=false then some (st.Kq l (.Vx v (jA (h.1▸f:ByteArray->Option v.den) s y))) else none
  |_,_=>none
 |_,_,_=>none
def iE (st:St) (t t':TypeId) (x y:AV):Option (AV×St):=
 match x,(T.elem t).bind T.ty with
 | .at (.own l off len),some e=>if T.elem t=T.elem t'/\e.flat=true/\e.size=1 then match st.at l,Fw st (.slice e) y with
  |some (.arr fr _ e' tid xs),some (_,ys)=>if h:e'=e/\T.elem t=some tid then
    some (.at (.data true (.int .i64) (min len ys.length:Nat)),st.Kq l (.arr fr false e tid (Dt (h.1▸xs:List e.den) off (ys.take len))))
   else none
  |_,_=>none
  else none
 |_,_=>none
def evalClear (st:St) (t:TypeId) (x:AV):Option St:=
 match x,(T.elem t).bind T.ty with
 | .at (.own l off len),some e=>if e.flat=true/\mF e=true then match st.at l with
  |some (.arr fr _ e' tid xs)=>if h:e'=e/\T.elem t=some tid then
    some (st.Kq l (.arr fr false e tid (Dt (h.1▸xs:List e.den) off (List.replicate len e.zero))))
   else none
  |_=>none
  else none
 |_,_=>none
def Mw (st:St) (t:TypeId):List (Nat×Operand)->List AC->Option (List AC)
 | [],cs=>some cs
 |(i,x)::r,cs=>
  match T.off t i with
  |some (o,u)=>match T.ty u with
   |some ρ=>match cellsOf ρ (st.ev x) with
    |some c=>if o+c.length<=cs.length then Mw st t r (Dt cs o c) else none
    |none=>none
   |none=>none
  |none=>none
def Xy (st:St) (t:TypeId) (parts:Array (Nat×Operand)):Option AV:=
 match T.ty t with
 |none=>none
 |some τ=>if τ.Aq then (Mw T st t parts.toList (zeroCells τ)).map .agg else none
def Dv (io:Bool) (k:Nat):Nat:=if io then 1000000000+k else 500000+k
def Kv (k:Nat):Nat:=600000+k
def ZU (dst:Nat) (k:Nat):Nat:=1000000*(dst+1)+k
def Tp:List (Option Nat)->List AC->List AV
 |none::s,a::as=> .at a::Tp s as
 |some n::s,as=> .agg (as.take n)::Tp s (as.drop n)
 |_,_=> []
def Ll:List (Option Nat)->List Value->List Value
 |none::s,u::us=>u::Ll s us
 |some n::s,us=> .agg (us.take n).toArray::Ll s (us.drop n)
 |_,_=> []
def ungroup:List (Option Nat)->List AV->Option (List AC)
 | [],[]=>some []
 |none::s, .at a::as=>(ungroup s as).map λr=>a::r
 |some n::s, .agg cs::as=>if cs.length=n then (ungroup s as).map λr=>cs++r else none
 |some n::s, .at (.data fr τ x)::as=>if τ.Aq=true/\(Ta fr τ x).length=n then (ungroup s as).map λr=>Ta fr τ x++r else none
 |_,_=>none
def ko (l:Nat):(c:CK)->c.den->Option OB
 | .Eh _,_=>none
 | .row e te,xs=>some (.arr false false e te xs)
 | .Ij e te,xs=>some (.Hf e te xs)
 | .part e te,x=>some (.arr false false e te x.1)
 | .Bn e te kp,xs=>some (.Bn e te xs none (if kp then some (l,List.length xs) else none))
def Aq3 (l:Nat):(c:CK)->c.den->AC
 | .Eh τ,x=> .data τ.flat τ x
 | .row _ _,xs=> .own l 0 (List.length xs)
 | .Ij _ _,xs=> .own l 0 (List.length xs)
 | .part _ _,x=> .own l x.2.1 x.2.2
 | .Bn _ _ _,xs=> .own l 0 (List.length xs)
def iy {α:Type} (l:Nat):Option α->List (Nat×α)->List (Nat×α)
 |none,r=>r
 |some b,r=>(l,b)::r
def Zv:(k:Nat)->(cs:List (Bool×CK))->Ins.den cs->List (Nat×OB)
 |_,[],_=> []
 |k,p::r,x=>iy (Dv p.1 k) (ko (Dv p.1 k) p.2 x.1) (Zv (k+1) r x.2)
def bP:(k:Nat)->(cs:List (Bool×CK))->Ins.den cs->List AC
 |_,[],_=> []
 |k,p::r,x=>Aq3 (Dv p.1 k) p.2 x.1::bP (k+1) r x.2
inductive Loc where
 |row (l:Nat)
 |sub (l i c:Nat)
 |view (l:Nat)
 deriving DecidableEq
def Loc.Xg:Loc->Nat
 | .row l=>l
 | .sub l _ _=>l
 | .view l=>l
def Loc.reads:Loc->Bool
 | .view _=>true
 |_=>false
def ck (st:St) (ls:List Nat):Bool:=ls.all λl=>match st.at l with|some (.var _ vs)=>vs.all (·.settled)|_=>false
def views (k:Nat) (ls:List Nat):List (Nat×Loc):=ls.map λl=>(Dv false k, .view l)
def Mr (st:St) (io:Bool) (k:Nat):(c:CK)->AC->Option (c.den×List (Nat×Loc))
 | .Eh τ, .own l off len=>(Dn st τ (.own l off len)).map λp=>(p.2,[(Dv false k, .view l)])
 | .Eh τ, .clo g Ec=>if ck st (Ec.map (·.1))&&!τ.Aq then (Ko st τ (.clo g Ec)).map λp=>(p.2,views k (Ec.map (·.1))) else none
 | .Eh τ, .Hs l i=>if ck st [l]&&!τ.Aq then (Ko st τ (.Hs l i)).map λp=>(p.2,views k [l]) else none
 | .Eh τ, .sub l i c=>(Dn st τ (.sub l i c)).map λp=>(p.2,[(Dv false k, .view l)])
 | .Eh τ,a=>if τ.flat||a.settled then (Dn st τ a).map λp=>(p.2,[]) else none
 | .row e te, .own l off len=>match st.at l with
  |some (.arr _ _ e' Ru xs)=>if h:e'=e/\Ru=te/\off=0/\len=xs.length then some ((h.1▸xs:List e.den),[(Dv io k, .row l)]) else none
  |_=>none
 | .row e _, .sub l i c=>match st.at l with
  |some (.Hf e' _ xs)=>if h:e'= .slice e/\e.flat=true/\io=true/\c=0 then xs[i]?.map λy=>((h.1▸y:(Ty.slice e).den),[(Dv io k, .sub l i c)]) else none
  |_=>none
 | .row _ _, .Mo=>some ([],[])
 | .Ij e te, .own l off len=>match st.at l with
  |some (.Hf e' Ru xs)=>if h:e'=e/\Ru=te/\off=0/\len=xs.length then some ((h.1▸xs:List e.den),[(Dv io k, .row l)]) else none
  |_=>none
 | .Ij e _, .sub l i c=>match st.at l with
  |some (.Hf e' _ xs)=>if h:e'= .slice e/\io=true/\c=0 then xs[i]?.map λy=>((h.1▸y:(Ty.slice e).den),[(Dv io k, .sub l i c)]) else none
  |_=>none
 | .Ij _ _, .Mo=>some ([],[])
 | .part e te, .own l off len=>match st.at l with
  |some (.arr _ _ e' Ru xs)=>if h:e'=e/\Ru=te/\e.flat=true/\io=true then some (((h.1▸xs:List e.den),off,len),[(Dv io k, .row l)]) else none
  |_=>none
 | .Bn e te _, .own l off len=>match st.at l with
  |some (.Bn e' Ru rows none _)=>if h:e'=e/\Ru=te/\off=0/\len=rows.length/\io=false then some ((h.1▸rows:List (List e.den)),[(Dv io k, .row l)]) else none
  |_=>none
 |_,_=>none
def fZ (st:St):(k:Nat)->(cs:List (Bool×CK))->List AC->Option (Ins.den cs×List (Nat×Loc))
 |_,[],[]=>some ((),[])
 |k,p::r,a::as=>match Mr st p.1 k p.2 a,fZ st (k+1) r as with
  |some (x,t1),some (y,t2)=>some ((x,y),t1++t2)
  |_,_=>none
 |_,_,_=>none
def cy (st:St):(c:CK)->c.den->AC->Option St
 | .row e _,ys, .own l _ len=>match st.at l with
  |some (.arr fr tr e' te xs)=>if h:e=e'/\List.length ys=len/\xs.length=len then some (st.Kq l (.arr (fr&&e'.flat) (tr&&e'.flat) e' te (h.1▸ys))) else none
  |_=>none
 | .Ij e _,ys, .own l _ len=>match st.at l with
  |some (.Hf e' te xs)=>if h:e=e'/\List.length ys=len/\xs.length=len then some (st.Kq l (.Hf e' te (h.1▸ys))) else none
  |_=>none
 | .row e _,ys, .sub l i _=>match st.at l with
  |some (.Hf e' te xs)=>if h: .slice e=e' then (match xs[i]? with
   |some y=>if List.length ys=List.length (h▸y:(Ty.slice e).den) then some (st.Kq l (.Hf e' te (xs.set i (h▸(ys:(Ty.slice e).den))))) else none
   |none=>none) else none
  |_=>none
 | .Ij e _,ys, .sub l i _=>match st.at l with
  |some (.Hf e' te xs)=>if h: .slice e=e' then (match xs[i]? with
   |some y=>if List.length ys=List.length (h▸y:(Ty.slice e).den) then some (st.Kq l (.Hf e' te (xs.set i (h▸(ys:(Ty.slice e).den))))) else none
   |none=>none) else none
  |_=>none
 |_,_, .Mo=>some st
 |_,_,_=>none
def LV (st:St) (e:Ty) (ys:List e.den):AC->Option St
 | .own l _ _=>match st.at l with
  |some (.arr fr tr e' te xs)=>if h:e=e'/\List.length ys=xs.length then some (st.Kq l (.arr fr tr e' te (h.1▸ys))) else none
  |_=>none
 |_=>none
def Iv:(cs:List (Bool×CK))->IOs.den cs->List AC->St->Option St
 | [],_,_,st=>some st
 |(true, .Eh _)::r,x,_::as,st=>Iv r x as st
 |(true, .row e te)::r,x,a::as,st=>match cy st (.row e te) x.1 a with
  |some st'=>Iv r x.2 as st'
  |none=>none
 |(true, .Ij e te)::r,x,a::as,st=>match cy st (.Ij e te) x.1 a with
  |some st'=>Iv r x.2 as st'
  |none=>none
 |(true, .part e _)::r,x,a::as,st=>match LV st e x.1 a with
  |some st'=>Iv r x.2 as st'
  |none=>none
 |(true, .Bn _ _ _)::r,x,_::as,st=>Iv r x as st
 |(false,_)::r,x,_::as,st=>Iv r x as st
 |_,_,_,_=>none
def Cm (dead part:List Nat) (c:AC):AC:=if c.refs.any (λl=>dead.contains l) then .undef else match c with
 | .sub l i c=>if part.contains l then .undef else .sub l i c
 | .Kr l i c=>if part.contains l then .undef else .Kr l i c
 |c=>c
def Xw:List (Nat×OB)->List Nat->List (Nat×OB)
 | [],_=> []
 |(k,b)::r,dead=>if dead.contains k then Xw r dead else (k,b)::Xw r dead
def St.cI (st:St) (dead part:List Nat):St:=let s:=st.Ln (Cm dead part); {s with heap:=Xw s.heap dead}
def Ue (st:St) (l j m:Nat) (e:Ty) (te:TypeId) (rows:List (List e.den)) (xs:List e.den) (kp:Option (Nat×Nat)):St:=
 (st.cI [m] [l]).Kq l (.Bn e te (rows.set j xs) none kp)
def bS (j:Nat):Option (Nat×Nat)->Option (Nat×Nat)
 |none=>none
 |some p=>some (p.1,min p.2 j)
def bJ (st:St) (t:TypeId) (p v:AV):Option St:=
 match T.ty t,p with
 |some τ, .at (.Kr l i j)=>match settle st v with
  |some (v',st')=>match st'.at l,Fw st' τ v' with
   |some (.Bn e te rows none kp),some (_,x)=>if h:τ=e then some (st'.Kq l (.Bn e te (rows.set i ((rows.getD i []).set j (h▸x))) none kp)) else none
   |_,_=>none
  |none=>none
 |some τ, .at (.Ku l j)=>match st.at l,v with
  |some (.Bn e te rows out kp), .at (.own m off len)=>match st.at m with
   |some (.arr _ _ e' _ xs)=>if h:e'=e/\(Nat.blt l Bl&&(!Nat.beq m l&&!τ.Aq))=true/\off=0/\len=xs.length/\(out=none\/out=some j) then some (Ue st l j m e te rows (h.1▸xs) (bS j kp)) else none
   |_=>none
  |_,_=>none
 |_,_=>none
def OU (st:St):AV->Bool
 | .at (.Kr _ _ _)=>true
 | .at (.Ku l _)=>match st.at l with
  |some (.Bn _ _ _ _ _)=>true
  |_=>false
 |_=>false
def Qe (st:St) (t:TypeId) (p v:AV):Option St:=match OU st p with
 |true=>bJ T st t p v
 |false=>Vg T st t p v
def Rn (st:St) (k m:Nat) (b:OB):St:=let s:=st.cI [m,k] []; {s with heap:=Ox s.heap k b}
def eb (t:TypeId):Option (TypeId×Ty):=(T.elem t).bind λte=>(T.OT te).map λe=>(te,e)
def Yb (st:St) (dst:Nat) (t:TypeId) (l c:AV):Option (AV×St):=
 match eb T t with
 |none=>bH T st dst t l c
 |some (te,e)=>match l,c with
  | .at (.data _ (.int _) n), .at (.data _ (.int _) m)=>if inb n (Dj+1)=true/\n=m/\dst<Bl then some (.at (.own dst 0 n.toNat),Rn st dst dst (.Bn e te (List.replicate n.toNat []) none none)) else none
  |_,_=>none
def Jt (st:St) (dst:Nat) (t:TypeId) (len:Nat) (parts:Array (Nat×Operand)):Option (AV×St):=
 match eb T t with
 |none=>Mx T st dst t len parts
 |some (te,e)=>match parts.toList with
  | [(0,x)]=>match st.ev x with
   | .at (.own m off ln)=>match st.at m with
    |some (.arr _ _ e' _ xs)=>if h:e'=e/\(Nat.beq len 1&&(Nat.blt dst Bl&&Nat.blt m Bl))=true/\off=0/\ln=xs.length then some (.at (.own dst 0 1),Rn st dst m (.Bn e te [h.1▸xs] none none)) else none
    |_=>none
   |_=>none
  |_=>none
def Sf (st:St) (dst:Nat) (t:TypeId) (x y:Operand):Option (AV×St):=
 match eb T t with
 |none=>Se T st dst t x y
 |some (te,e)=>match st.ev x,st.ev y with
  | .at (.own l off len), .at (.own m ZW tD)=>match st.at l,st.at m with
   |some (.Bn e1 te1 A none _),some (.Bn e2 wA B none _)=>
    if h:(e1=e/\e2=e)/\(decide (te1=te)&&decide (wA=te)&&(Nat.blt l Bl&&(Nat.blt m Bl&&!Nat.beq m l)))=true/\(off=0/\len=A.length)/\(ZW=0/\tD=B.length)/\0<B.length/\A.length+B.length<=Dj then
     some (.at (.own l 0 (A.length+B.length)),Rn st l m (.Bn e te ((h.1.1▸A:List (List e.den))++(h.1.2▸B:List (List e.den))) none none))
    else none
   |_,_=>none
  |_,_=>none
def vQ (fr:Bool):(c:CK)->c.den->Option OB
 | .Eh _,_=>none
 | .row e te,xs=>some (.arr (fr&&e.flat) false e te xs)
 | .Ij e te,xs=>some (.Hf e te xs)
 | .part e te,x=>some (.arr (fr&&e.flat) false e te x.1)
 | .Bn e te _,xs=>some (.Bn e te xs none none)
def DY (H:List (Nat×OB)) (l:Nat):Option OB->List (Nat×OB)
 |some b=>Ox H l b
 |none=>H
def Yl (fr:Bool) (key:Nat->Nat):(k:Nat)->(cs:List CK)->CKs.den cs->List (Nat×OB)->List (Nat×OB)
 |_,[],_,H=>H
 |k,c::r,x,H=>Yl fr key (k+1) r x.2 (DY H (key k) (vQ fr c x.1))
def bX (key:Nat->Nat):(k:Nat)->(cs:List CK)->CKs.den cs->List AC
 |_,[],_=> []
 |k,c::r,x=>(match c,x.1 with
  | .Eh τ,y=> .data τ.flat τ y
  | .row _ _,xs=> .own (key k) 0 (List.length xs)
  | .Ij _ _,xs=> .own (key k) 0 (List.length xs)
  | .Bn _ _ _,xs=> .own (key k) 0 (List.length xs)
  | .part _ _,_=> .undef)::bX key (k+1) r x.2
def au:List (Option Nat)->List AC->List (Bool×List AC)
 |none::s,a::as=>(false,[a])::au s as
 |some n::s,as=>(true,as.take n)::au s (as.drop n)
 |_,_=> []
def Anq (Ib:Bool) (sh:List (Option Nat)) (as:List AC):Option AV:=
 if Ib then some (.Nd (au sh as)) else match Tp sh as with
  | [v]=>some v
  | []=>some .undef
  |_=>none
def mV (tks:List (Nat×Loc)):List Nat:=(tks.filter λt=>Nat.blt t.1 Bl&&!t.2.reads).map λt=>t.2.Xg
def whole (tks:List (Nat×Loc)):List Nat:=tks.flatMap λt=>match t.2 with| .row l=> [l]|_=> []
def AX (tks:List (Nat×Loc)):List Nat:=(tks.filter λt=>t.2.reads).map λt=>t.2.Xg
def EI (ins:List (Bool×CK)) (te:TypeId) (used:List Nat):List (Nat×Loc)->Option Nat
 | []=>none
 |(k, .row l)::r=>if Nat.blt k Bl&&(!used.contains l&&(match ins[k-500000]? with
   |some (false, .row _ Ru)=>decide (Ru=te)
   |some (false, .Ij _ Ru)=>decide (Ru=te)
   |some (false, .Bn _ Ru _)=>decide (Ru=te)
   |_=>false)) then some l else EI ins te used r
 |_::r=>EI ins te used r
def KI (ins:List (Bool×CK)) (tks:List (Nat×Loc)) (d:Nat):(k:Nat)->(used:List Nat)->List CK->List Nat
 |_,_,[]=> []
 |k,used,c::r=>match (match c with
   | .row _ te=>EI ins te used tks
   | .Ij _ te=>EI ins te used tks
   | .Bn _ te _=>EI ins te used tks
   |_=>none) with
  |some l=>l::KI ins tks d (k+1) (l::used) r
  |none=>ZU d k::KI ins tks d (k+1) used r
def mR (s:MSpec) (tks:List (Nat×Loc)) (d:Nat):List Nat:=KI s.ins tks d 0 [] s.outs
def Ea (ks:List Nat) (j:Nat):Nat:=match ks[j]? with
 |some l=>l
 |none=>Bl+j
def zb (ks:List Nat) (n:Nat):Bool:=Nat.beq ks.length n&&(ar ks&&ks.all λl=>Nat.blt l Bl)
def OP (st:St) (l:List Nat):Bool:=l.all λk=>match st.at k with|some (.arr fr _ _ _ _)=>fr|_=>false
def QF (st:St) (s:MSpec) (args:List AV):Option (List Nat×List AC×List AV):=
 match s.ptr with
 |none=>some ([],[],args)
 |some p=>match args with
  | .at (.Hs l i)::rest=>match st.at l with
   |some (.var tid vs)=>if tid=p.1/\vs.length=p.2/\i=0 then some ([l],vs,rest) else none
   |_=>none
  |_=>none
def Wm:List (Bool×CK)->List AC->Bool
 |(true, .row _ _)::r, .own _ _ _::as=>Wm r as
 |(true, .Ij _ _)::r, .own _ _ _::as=>Wm r as
 |(true,_)::_,_::_=>false
 |(false,_)::r,_::as=>Wm r as
 |_,as=>as.isEmpty
def gG {α:Type} :List (Bool×CK)->List α->List α->List α
 |(true,_)::r,v::vs,as=>v::gG r vs as
 |(false,_)::r,_::vs,a::as=>a::gG r vs as
 |_,vs,_=>vs
def uj:List (Bool×CK)->Nat->Nat
 |(true,_)::r,n+1=>uj r n
 |(false,_)::r,n+1=>uj r n+1
 |_,_=>0
def MSpec.aI (s:MSpec):Nat:=match s.ptr with|none=>0|some p=>uj s.ins p.2
def rq (ins:List (Bool×CK)) (as:List AC) (pl:List Nat) (st:St):St:=
 match pl with
 | []=>st
 |l::_=>match st.at l with
  |some (.var tid vs)=>st.Kq l (.var tid (gG ins vs as))
  |_=>st
def Tx (d:Nat):Nat:=ZU d 999
def mn (s:MSpec) (d:Nat):List Nat:=match s.rp with|none=> []|some _=> [Tx d]
def Sz (s:MSpec) (tks:List (Nat×Loc)) (d:Nat):List Nat:=mR s tks d++mn s d
def nB (H:List (Nat×OB)) (l:Nat):Bool:=match Av H l with
 |some (.Bn _ _ _ _ _)=>true
 |_=>false
def bR (H:List (Nat×OB)) (ks:List Nat) (tks:List (Nat×Loc)):List (Nat×Nat)->List Nat
 | []=> []
 |(k,j)::r=>match tks.find? (λt=>Nat.beq t.1 (Dv false k)),ks[j]? with
  |some (_, .row l),some l'=>if Nat.beq l' l&&nB H l then l::bR H ks tks r else bR H ks tks r
  |_,_=>bR H ks tks r
def rT (H:List (Nat×OB)) (l:Nat):Nat:=match Av H l with
 |some (.Bn _ _ rows _ _)=>rows.length
 |_=>0
def dC (H:List (Nat×OB)) (ls:List Nat) (n:Nat):List AV->Bool
 | []=>true
 | .at (.sub l i _)::r=>(!ls.contains l||(Nat.blt i n&&Nat.blt i (rT H l)))&&dC H ls n r
 |_::r=>dC H ls n r
def Mg (ls:List Nat):List AV->List AV->List AV
 | .at (.sub l i c)::r,v::vs=>(if ls.contains l then .at (.sub l i c) else v)::Mg ls r vs
 |_::r,v::vs=>v::Mg ls r vs
 |_,vs=>vs
def Aif:Option OB->Option (Nat×Nat)
 |some (.Bn _ _ _ _ kp)=>kp
 |_=>none
def OB.GM (b:OB) (kp:Option (Nat×Nat)):OB:=match b with
 | .Bn e te rows out _=> .Bn e te rows out kp
 |b=>b
def dt (H0:List (Nat×OB)) (ls:List Nat) (n:Nat):List (Nat×OB)->List (Nat×OB)
 | []=> []
 |(l,b)::r=>(l,if ls.contains l then b.GM (bS n (Aif (Av H0 l))) else b)::dt H0 ls n r
def m6 (cp st:St) (ls:List Nat) (n:Nat):St:=match ls with
 | []=>st
 |_=> {tmps:=Mg ls cp.tmps st.tmps,heap:=dt cp.heap ls n st.heap}
def Ae9 (s:MSpec) (d:Nat) (as:List AC):Option AV:=match s.rp with
 |none=>Anq s.Ib s.Hv as
 |some _=>some (.at (.Hs (Tx d) 0))
def lG (st st1:St) (d:Nat) (s:MSpec) (pl:List Nat) (tks:List (Nat×Loc)) (r:CKs.den s.outs):St:=
 let ks:=Sz s tks d
 let key:=Ea ks
 let st2:=rq s.ins (bX key 0 s.outs r) pl (st1.cI (mV tks++ks++(if s.flat then [] else AX tks)) (whole tks))
 {st2 with heap:=Yl (OP st (mV tks)) key 0 s.outs r (DY st2.heap (Tx d) (s.rp.map λtid=> .var tid ((bX key 0 s.outs r).drop s.aI)))}
def Xz (st:St) (dst:Option Nat) (s:MSpec) (args:List AV):Option (AV×St):=
 match QF st s args with
 |none=>none
 |some (pl,vs,rest)=>match ungroup s.Jj rest with
 |none=>none
 |some oC=>match fZ st 0 s.ins (vs++oC) with
  |none=>none
  |some (x,tks)=>if ar (tks.map λt=>t.2.Xg)&&zb (Sz s tks (dst.getD 0)) (s.outs.length+(mn s (dst.getD 0)).length)&&Nat.blt s.outs.length 1000&&Nat.blt s.ins.length 1000&&(Wm s.ins vs&&pl.all λl=>!((tks.map λt=>t.2.Xg)++Sz s tks (dst.getD 0)).contains l) then match s.fn x with
   |none=>none
   |some (r,o)=>match Iv s.ins o (vs++oC) st with
    |none=>none
    |some st1=>match Ae9 s (dst.getD 0) ((bX (Ea (Sz s tks (dst.getD 0))) 0 s.outs r).drop s.aI) with
     |none=>none
     |some v=>if dC (lG st st1 (dst.getD 0) s pl tks r).heap (bR st.heap (Sz s tks (dst.getD 0)) tks s.keeps) (s.Ft x) st.tmps=true then
       some (v,m6 st (lG st st1 (dst.getD 0) s pl tks r) (bR st.heap (Sz s tks (dst.getD 0)) tks s.keeps) (s.Ft x)) else none
   else none
def Nu:List Operand->St->Option St
 | [],st=>some st
 |x::r,st=>match settle st (st.ev x) with
  |some (_,st')=>Nu r st'
  |none=>none
def Pa (st:St) (p x:Operand):St:=match st.ev p with
 | .at (.Hs l _)=>match T.marks.contains (fS+l) with
  |true=>match Nu [x] st with
   |some s0=>s0
   |none=>st
  |false=>st
 |_=>st
def fz (s:Spec) (args:List AV):Bool:=!(s.fresh||s.res.flat||args.all (·.settled))
def evalOp (Γ:Env) (st:St) (o:Oper):Option (AV×St):=
 match o.op with
 | .assign x=>match st.ev x,o.dst,(T.elem o.type).bind λte=>(T.ty te).map λe=>(te,e) with
  | .at .Mo,some d,some (te,e)=>if d<Bl then some (.at (.own d 0 0),st.new d (.arr (T.vn||e.flat) T.BK e te [])) else none
  |v,_,_=>some (v,st)
 | .alloc t=>match o.dst,T.ty t with
  |some d,some τ=>match T.marks.contains (Qp+d) with
   |true=>tM st d t (Qn τ)
   |false=>mkVar T st d t τ (zeroCells τ)
  |_,_=>none
 | .box t x=>match o.dst,T.ty t with
  |some d,some τ=>match cellsOf τ (st.ev x) with
   |some cs=>match T.marks.contains (Qp+d) with
    |true=>if cs.all (·.settled)=true then (Ff st τ cs).map λp=>(.at (.data false (.optr τ) (some p.2)),st) else none
    |false=>mkVar T st d t τ cs
   |none=>none
  |_,_=>none
 | .store t p x=>(Qe T (Pa T st p x) t ((Pa T st p x).ev p) ((Pa T st p x).ev x)).map λs=>(.undef,s)
 | .makeSlice t l c=>match o.dst with
  |some d=>Yb T st d t (st.ev l) (st.ev c)
  |none=>none
 | .makeMap t none=>match o.dst with
  |some d=>Vf T st d t
  |none=>none
 | .mapUpdate t m k x=>(Jx T st t (st.ev m) (st.ev k) (st.ev x)).map λs=>(.undef,s)
 | .insert t m k x=>(Jx T st t (st.ev m) (st.ev k) (st.ev x)).map λs=>(.undef,s)
 | .buildSlice t len parts=>match o.dst with
  |some d=>Jt T st d t len parts
  |none=>none
 | .build t parts=>(Xy T st t parts).map λv=>(v,st)
 | .call {callee:= .builtin .append,args,argTypes} =>match o.dst,args.toList,argTypes.toList with
  |some d,[x,y],[t,t']=>if t=t' then Sf T st d t x y else none
  |_,_,_=>none
 | .call {callee:= .builtin .copy,args,argTypes} =>match args.toList,argTypes.toList with
  | [x,y],[t,t']=>iE T st t t' (st.ev x) (st.ev y)
  |_,_=>none
 | .call {callee:= .builtin .clear,args,argTypes} =>match args.toList,argTypes.toList with
  | [x],[t]=>(evalClear T st t (st.ev x)).map λs=>(.undef,s)
  |_,_=>none
 | .call {callee:= .value (.func f),args, .. } =>match Γ f with
  |some (.m s)=>Xz st o.dst s (args.toList.map st.ev)
  |some (.q s)=>if fz s (args.toList.map st.ev) then (match Nu args.toList st with
   |some st1=>(Fh T Γ st1 o).map λv=>(v,st1)
   |none=>none) else (Fh T Γ st o).map λv=>(v,st)
  |_=>(Fh T Γ st o).map λv=>(v,st)
 |_=>(Fh T Γ st o).map λv=>(v,st)
def fE (e:Ty):Nat->List (Nat×Operand)->St->Option (Bool×List e.den)
 |_,[],_=>some (true,[])
 |i,(j,x)::r,st=>
  if i=j/\(st.ev x).settled=true then match Fw st e (st.ev x),fE e (i+1) r st with
   |some (fr,y),some (Wh,ys)=>some (fr&&Wh,y::ys)
   |_,_=>none
  else none
def bG (st:St) (t:TypeId) (len:Nat) (parts:Array (Nat×Operand)):Option AV:=
 match T.elem t with
 |none=>none
 |some te=>match T.ty te with
  |none=>none
  |some e=>if parts.size=len/\len<=64/\e.size<=64 then (fE e 0 parts.toList st).map λp=> .at (.data p.1 (.slice e) p.2) else none
def Xk (Γ:Env) (st:St) (o:Oper):Option AV:=
 match o.op with
 | .buildSlice t len parts=>bG T st t len parts
 | .build t parts=>Xy T st t parts
 |_=>Fh T Γ st o
def ZN (q:Bool) (Γ:Env) (o:Oper):Bool:=
 match o.op with
 | .buildSlice _ _ _| .build _ _=>!q
 | .alloc _| .box _ _| .store _ _ _| .makeSlice _ _ _| .makeMap _ _| .mapUpdate _ _ _ _| .insert _ _ _ _=>true
 | .assign (.const _)=>true
 | .call {callee:= .builtin .append, .. } =>true
 | .call {callee:= .builtin .copy, .. } =>true
 | .call {callee:= .builtin .clear, .. } =>true
 | .call {callee:= .value (.func f), .. } =>match Γ f with
  |some (.m _)=>true
  |_=>false
 |_=>false
def Fa (Γ:Env) (ops:Array Oper) (st:St) (o:Oper):Option St:=
 match o.guard with
 |none=>(evalOp T Γ st o).map λr=>r.2.put o.dst r.1
 |some (j,want)=>match Xt st ((ops[j]?).bind (·.dst)) with
  |some (some b)=>if b==want then (evalOp T Γ st o).map λr=>r.2.put o.dst r.1 else some (st.put o.dst (.at .skip))
  |some none=>some (st.put o.dst (.at .skip))
  |none=>none
def aQ (Γ:Env) (ops:Array Oper):List Oper->St->Option St
 | [],st=>some st
 |o::r,st=>match Fa T Γ ops st o with
  |some st'=>aQ Γ ops r st'
  |none=>none
def Kd (q:Bool) (Γ:Env) (ops:Array Oper):List Nat:=
 (List.range ops.size).foldl (init:= []) λacc i=>match ops[i]? with
  |some o=>if ZN q Γ o||o.after.any (λe=>Region.binds .any e&&acc.contains e.on) then acc++ [i] else acc
  |none=>acc
def cK (q:Bool) (Γ:Env) (ops:Array Oper):List Nat:=(List.range ops.size).filter λi=>!(Kd q Γ ops).contains i
def nA (ops:Array Oper) (hd tl:List Nat) (i:Nat):Bool:=
 match ops[i]? with
 |some o=>(match o.op,o.guard with
  | .move (.tmp _),none=>true
  |_,_=>false)&&!((tl.take 1++hd).any λj=>decide (i<j)&&Region.waitsFor .any ops j i)
 |none=>false
def Wg (q:Bool) (Γ:Env) (ops:Array Oper):List Nat:=(cK q Γ ops).filter λi=>nA ops (cK q Γ ops) (Kd q Γ ops) i
def Wk (q:Bool) (Γ:Env) (ops:Array Oper):List Nat:=(cK q Γ ops).filter λi=>!nA ops (cK q Γ ops) (Kd q Γ ops) i
def jQ (q:Bool) (Γ:Env) (ops:Array Oper):List Nat:=Wg q Γ ops++Wk q Γ ops
def ZF (ops:Array Oper) (i:Nat):Bool:=match ops[i]? with
 |some o=>(match o.op,o.guard with
  | .extract _ _,none=>true
  |_,_=>false)
 |none=>false
def o0 (ops:Array Oper):List Nat->Array Bool->Bool
 | [],Ah=>(Region.ready .any ops Ah).isEmpty
 |k::r,Ah=>(decide (Region.ready .any ops Ah= [k])||(ZF ops k&&((Region.ready .any ops Ah).contains k&&Region.free .any ops Ah k)))&&o0 ops r (Ah.setIfInBounds k true)
def p8 (ops:Array Oper) (tl:List Nat):List Nat->Array Bool->Bool
 | [],Ah=>o0 ops tl Ah
 |k::r,Ah=>(Region.ready .any ops Ah).contains k&&Region.free .any ops Ah k&&p8 ops tl r (Ah.setIfInBounds k true)
def uw (ops:Array Oper) (hd:List Nat):List Nat->Bool
 | []=>true
 |f::r=>(hd.all λi=>(f::hd).any λj=>decide (i<j)&&Region.waitsFor .any ops j i)&&r.all λt=>(f::r).any λk=>Region.waitsFor .any ops t k
def nk (ops:Array Oper) (tl hd:List Nat):List Nat->Array Bool->Bool
 | [],Ah=>p8 ops tl hd Ah
 |k::r,Ah=>(Region.ready .any ops Ah).contains k&&Region.free .any ops Ah k&&nk ops tl hd r (Ah.setIfInBounds k true)
def cP (q:Bool) (Γ:Env) (ops:Array Oper):Bool:=
 Region.noSelect ops&&((Wg q Γ ops).length+((Wk q Γ ops).length+(Kd q Γ ops).length)==ops.size)&&nk ops (Kd q Γ ops) (Wk q Γ ops) (Wg q Γ ops) (Array.replicate ops.size false)&&uw ops (Wk q Γ ops) (Kd q Γ ops)
def Xh (Γ:Env) (ops:Array Oper) (st:St) (o:Oper):Option AV:=
 match o.guard with
 |none=>Xk T Γ st o
 |some (j,want)=>match Xt st ((ops[j]?).bind (·.dst)) with
  |some (some b)=>if b==want then Xk T Γ st o else some (.at .skip)
  |some none=>some (.at .skip)
  |none=>none
def Gg (Γ:Env) (ops:Array Oper):List Nat->St->Option St
 | [],st=>some st
 |i::r,st=>match ops[i]? with
  |none=>none
  |some o=>match Xh T Γ ops st o with
   |some v=>Gg Γ ops r (st.put o.dst v)
   |none=>none
def Nh (Γ:Env) (ops:Array Oper):List Nat->St->Option St
 | [],st=>some st
 |i::r,st=>match ops[i]? with
  |none=>none
  |some o=>match Fa T Γ ops st o with
   |some st'=>Nh Γ ops r st'
   |none=>none
def Si (Γ:Env) (ops:Array Oper) (draw:Bool) (st:St):Option St:=
 if draw then (if cP false Γ ops then (match Gg T Γ ops (jQ false Γ ops) st with
  |some st'=>Nh T Γ ops (Kd false Γ ops) st'
  |none=>none) else if cP true Γ ops then (match Gg T Γ ops (jQ true Γ ops) st with
  |some st'=>Nh T Γ ops (Kd true Γ ops) st'
  |none=>none) else none)
 else aQ T Γ ops ops.toList st
def z0 (ops:Array Oper) (i:Nat):Bool:=match ops[i]? with
 |some o=>(match o.op,o.guard with
  | .move (.tmp _),none=>true
  |_,_=>false)
 |none=>false
def jU (ops:Array Oper) (i:Nat):Bool:=match ops[i]? with
 |some o=>(match o.op,o.guard with
  | .move (.tmp _),none=>true
  | .nilCheck _,none=>true
  | .fieldAddr _ _ _,none=>true
  |_,_=>false)
 |none=>false
def Anz (q:Bool) (ops:Array Oper) (i:Nat):Bool:=match q with
 |true=>jU ops i
 |false=>z0 ops i
def Kc (q:Bool) (ops:Array Oper):List Nat->Array Bool->List Nat
 | [],_=> []
 |i::r,Ah=>if Anz q ops i&&((Region.ready .any ops Ah).contains i&&Region.free .any ops Ah i) then i::Kc q ops r (Ah.setIfInBounds i true) else Kc q ops r Ah
def ZS (q:Bool) (ops:Array Oper):List Nat:=Kc q ops (List.range ops.size) (Array.replicate ops.size false)
def jN (q:Bool) (ops:Array Oper):Bool:=Nat.ble (ops.size-(ZS q ops).length) 8
def Lc (ops:Array Oper):List Nat:=ZS (!jN false ops) ops
def Ek:List Nat->Array Bool->Array Bool
 | [],Ah=>Ah
 |i::r,Ah=>Ek r (Ah.setIfInBounds i true)
def anyS (Γ:Env) (ops:Array Oper) (K:St->Prop):Nat->Array Bool->St->Prop
 |0,Ah,st=>Region.ready .any ops Ah= []/\K st
 |f+1,Ah,st=>Region.ready .any ops Ah≠ []/\ ∀i∈Region.ready .any ops Ah,∃o st',ops[i]?=some o/\Fa T Γ ops st o=some st'/\anyS Γ ops K f (Ah.setIfInBounds i true) st'
def jV (ops:Array Oper) (i:Nat):Bool:=match ops[i]? with
 |some o=>(match o.op,o.guard with
  | .move _,none=>true
  | .load _ _,none=>true
  | .indexAddr _ _ _,none=>true
  | .fieldAddr _ _ _,none=>true
  |_,_=>false)
 |none=>false
def kc (ops:Array Oper):List Nat->Array Bool->List Nat
 | [],_=> []
 |i::r,Ah=>if jV ops i&&((Region.ready .any ops Ah).contains i&&Region.free .any ops Ah i) then i::kc ops r (Ah.setIfInBounds i true) else kc ops r Ah
def pN (ops:Array Oper) (i j:Nat) (p:Oper->Oper->Bool):Bool:=match ops[i]?,ops[j]? with
 |some x,some y=>p x y
 |_,_=>false
def oz (ops:Array Oper) (x y:Oper):Bool:=match x.dst with
 |some d=>!(y.looksAt ops).contains d
 |none=>true
def JF (x y:Oper):Bool:=match x.dst with
 |some d=>y.dst !=some d
 |none=>true
def je (ops:Array Oper):List Nat->Array Bool->Bool
 | [],_=>true
 |r::E,Ah=>(Region.ready .any ops Ah).contains r&&je ops E (Ah.setIfInBounds r true)
def zz (ops:Array Oper):List Nat->Bool
 | []=>true
 |r::E=>(pN ops r r (oz ops)&&E.all λq=>pN ops r q (λx y=>JF x y&&oz ops y x)&&(Region.waitsFor .any ops q r||pN ops r q (oz ops)))&&zz ops E
def Acp (ops:Array Oper) (E:List Nat) (L0:Array Bool):Bool:=E.all λr=>(List.range ops.size).all λj=>E.contains j||L0.getD j false||Region.waitsFor .any ops j r||pN ops r j (λx y=>x.apart ops y)
def cQ (ops:Array Oper) (E:List Nat) (L0:Array Bool):Bool:=(E.all (jV ops)&&je ops E L0)&&(zz ops E&&Acp ops E L0)
def sd (ops:Array Oper) (E:List Nat) (Ah:Array Bool) (r:Nat):Bool:=(List.range ops.size).any λj=>!E.contains j&&(Ah.getD j false&&Region.waitsFor .any ops j r)
def Aas (Γ:Env) (ops:Array Oper) (E:List Nat) (Ah:Array Bool) (st:St):Prop:=
 ∀r∈E,sd ops E Ah r=true\/ ∃o v,ops[r]?=some o/\Xh T Γ ops st o=some v/\ ∀d,o.dst=some d->st.get d=v
def qX (Γ:Env) (ops:Array Oper) (E:List Nat) (K:St->Prop):Nat->Array Bool->St->Prop
 |0,Ah,st=>Aas T Γ ops E Ah st/\Region.ready .any ops Ah= []/\K st
 |f+1,Ah,st=>Aas T Γ ops E Ah st/\Region.ready .any ops Ah≠ []/\ ∀i∈Region.ready .any ops Ah,∃o st',ops[i]?=some o/\Fa T Γ ops st o=some st'/\qX Γ ops E K f (Ah.setIfInBounds i true) st'
def Aco (Γ:Env) (ops:Array Oper) (K:St->Prop) (n:Nat) (L0:Array Bool) (cp:St):Prop:=
 ∃E st1,cQ ops E L0=true/\E.length<=n/\Gg T Γ ops E cp=some st1/\qX T Γ ops E K (n-E.length) (Ek E L0) st1
def zH (Γ:Env) (draw:Bool):Env:= λf=>match Γ f with
 |some (.b s m)=>some (if draw then .q s else .m m)
 |r=>r
inductive Lz where
 |normal
 |exit (id:Nat)
 |ret
def Jb (live:List Nat):Nat->List AV->List AV
 |_,[]=> []
 |i,v::r=>(if live.contains i then v else .undef)::Jb live (i+1) r
def AV.refs:AV->List Nat
 | .at a=>a.refs
 | .agg cs=>cs.flatMap AC.refs
 | .bw _ _ _=> []
 | .Nd l=>l.flatMap λp=>p.2.flatMap AC.refs
def OB.refs:OB->List Nat
 | .var _ vs=>vs.flatMap AC.refs
 |_=> []
def bj:List Nat->St->St
 | [],st=>st
 |l::r,st=>bj r (st.forget l)
def pz (l k m:Nat):Nat:=if m=l then k else m
def Vp (l k:Nat):AC->AC
 | .own m off len=> .own (pz l k m) off len
 | .Hs m i=> .Hs (pz l k m) i
 | .Ku m i=> .Ku (pz l k m) i
 | .clo f Ec=> .clo f (Ec.map λp=>(pz l k p.1,p.2))
 | .Lb m=> .Lb (pz l k m)
 | .sub m i c=> .sub (pz l k m) i c
 | .Kr m i c=> .Kr (pz l k m) i c
 |a=>a
def St.rename (l k:Nat) (st:St):St:=
 match Av st.heap k,Av st.heap l with
 |none,some b=>if (Nat.blt l Bl&&Nat.blt k Bl)=true then
   (let s:=st.Ln (Vp l k); {s with heap:=Ox (aD s.heap l) k (b.map (Vp l k))}) else st
 |_,_=>st
def Nc:Nat->Nat->St->St
 |0,_,st=>st
 |n+1,t,st=>Nc n (t+1) (match st.get t with
  | .at (.own l _ _)=>match Av st.heap l with
   |some (.arr _ _ _ _ _)=>if (st.tmps.take t).any (λv=>v.refs.contains l) then st else st.rename l (700000+t)
   |_=>st
  |_=>st)
def cT:Nat:=1000000007
def AC.Agj (flat:Bool):AC->AC
 | .data fr τ x=> .data (fr&&!(flat&&τ.flat)) τ x
 |c=>c
def OB.Jr (flat all one:Bool):OB->OB
 | .arr fr tr e tid xs=> .arr (fr&&!(all||(one||(flat&&e.flat)))) (tr&&!all) e tid xs
 | .var tid vs=> .var tid (vs.map (AC.Agj flat))
 |b=>b
def Ps:Nat:=1000000009
def Og:Nat:=1100000000
def Ac2:Nat:=1200000000
def St.Jr (live:List Nat) (st:St):St:= {st with heap:=st.heap.map λp=>(p.1,p.2.Jr (live.contains Ps) (live.contains (Og+p.1)) (live.contains (Ac2+p.1)))}
def Sp:Nat:=900000000
def bY (t:Nat) (st:St):St:=match st.get t with
 | .at (.own l off len)=>match Av st.heap l with
  |some (.arr fr tr e tid xs)=>if Nat.blt l Bl=true then (st.new l (.arr fr tr e tid ((xs.drop off).take len))).put (some t) (.at (.own l 0 ((xs.drop off).take len).length)) else st
  |_=>st
 |_=>st
def Pr:Nat:=1900000000
def mS:Nat:=950000000
def Qj (c:Nat) (st:St):St:=match Av st.heap Pr with
 |some (.var _ vs)=>match vs[c]? with
  |some (.own l off len)=>match Av st.heap l with
   |some (.arr fr tr e te xs)=>if Nat.blt l Bl=true then match Av (st.new l (.arr fr tr e te ((xs.drop off).take len))).heap Pr with
     |some (.var tid vs')=>(st.new l (.arr fr tr e te ((xs.drop off).take len))).Kq Pr (.var tid (vs'.set c (.own l 0 ((xs.drop off).take len).length)))
     |_=>st
    else st
   |_=>st
  |_=>st
 |_=>st
def Qd (live:List Nat):Nat->Nat->St->St
 |0,_,st=>st
 |n+1,c,st=>Qd live n (c+1) (if live.contains (mS+c) then Qj c st else st)
def Po (live:List Nat):Nat->Nat->St->St
 |0,_,st=>Qd live 16 0 st
 |n+1,t,st=>Po live n (t+1) (if live.contains (Sp+t) then bY t st else st)
def St.clean (live:List Nat) (st:St):St:=
 let s:St:= {st with tmps:=Jb live 0 st.tmps}
 let r1:=s.tmps.flatMap AV.refs
 let r2:=r1++(s.heap.filter λp=>r1.contains p.1).flatMap λp=>p.2.refs
 let s2:=bj ((s.heap.map (·.1)).filter λl=>!r2.contains l&&Nat.blt l Bl) s
 let s2:=if live.any (λt=>Nat.ble Sp t&&Nat.blt t cT) then Po live s2.tmps.length 0 s2 else s2
 let s3:=if live.contains cT then Nc s2.tmps.length 0 s2 else s2
 if live.any (λt=>Nat.ble Ps t) then s3.Jr live else s3
def Fb:Code->Nat
 | .region id _ _=>id
 | .seq a _=>Fb a
 | .cond _ a _=>Fb a
 | .block _ c=>Fb c
 | .loop c=>1000+Fb c
 |_=>0
def Agn (a b:List Nat):List Nat:=a++b.filter λt=>!a.contains t
def zg:List Oper->List Nat->List Nat
 | [],out=>out
 |o::r,out=>Agn (o.op.operands.toList.filterMap λ | .tmp t=>some t|_=>none) (match o.dst with|some d=>(zg r out).filter (·!=d)|none=>zg r out)
def JG:List (Nat×List Nat)->Nat->List Nat
 | [],_=> []
 |(k,l)::r,id=>if k=id then l else JG r id
def qn:Code->List (Nat×List Nat)->List Nat->List Nat->List Nat×List (Nat×List Nat)
 | .region _ ops _,_,_,out=>(zg ops.toList out,[])
 | .seq a b,env,ret,out=>let rb:=qn b env ret out;let ra:=qn a env ret rb.1;(ra.1,ra.2++rb.2)
 | .cond c a b,env,ret,out=>let ra:=qn a env ret out;let rb:=qn b env ret out
  (Agn (match c with| .tmp t=> [t]|_=> []) (Agn ra.1 rb.1),ra.2++rb.2)
 | .block id c,env,ret,out=>qn c ((id,out)::env) ret out
 | .exit id,env,_,_=>(JG env id,[])
 | .ret,_,ret,_=>(ret,[])
 | .loop c,env,ret,_=>let l:=(qn c env ret []).1;let r:=qn c env ret l;(l,(Fb c,l)::r.2)
 |_,_,_,out=>(out,[])
def zh:List ResultVar->List Nat
 | []=> []
 | .tmp t::r=>t::zh r
 | .cell p _::r=>p::zh r
def zf (marks:List Nat) (fn:Func) (c:Code):Nat->List Nat:=let ret:=zh fn.results.toList;let g:=JG (qn c [] ret ret).2;match marks with
 | []=>g
 |m=> λid=>g id++m
def St.Qw (dead:List Nat) (st:St):St:=
 let s:St:= {st with tmps:=Jb ((List.range st.tmps.length).filter λt=>!dead.contains t) 0 st.tmps}
 let r1:=s.tmps.flatMap AV.refs
 let r2:=r1++(s.heap.filter λp=>r1.contains p.1).flatMap λp=>p.2.refs
 bj ((s.heap.map (·.1)).filter λl=>!r2.contains l&&Nat.blt l Bl) s
def Zf (ops:Array Oper) (t:Nat):Bool:=ops.toList.any λo=>o.dst==some t
def kC (Γ:Env) (ops:Array Oper) (draw:Bool) (st:St) (K:St->Prop):Prop:=
 (∃st',Si T Γ ops draw st=some st'/\K st')\/
 (draw=true/\Region.noSelect ops=true/\ ∃cp,Gg T Γ ops (Lc ops) st=some cp/\
  (anyS T Γ ops K (ops.size-(Lc ops).length) (Ek (Lc ops) (Array.replicate ops.size false)) cp\/Aco T Γ ops K (ops.size-(Lc ops).length) (Ek (Lc ops) (Array.replicate ops.size false)) cp))
def yg (Γ:Env) (ops:Array Oper) (draw:Bool) (st:St) (K:St->Prop):Prop:=
 kC T Γ ops draw st K\/ ∃dead:List Nat,(dead.all (Zf ops))=true/\kC T Γ ops draw st λs=>K (s.Qw dead)
def KW (K:St->Prop) (Q:Lz->St->Prop):Lz->St->Prop
 | .normal,s=>K s
 |e,s=>Q e s
def xh (id:Nat) (Q:Lz->St->Prop):Lz->St->Prop
 | .exit SJ,s=>if SJ=id then Q .normal s else Q (.exit SJ) s
 |e,s=>Q e s
def Aai (ops:Array Oper) (t:Nat):Bool:=ops.toList.any λo=>match o.op with
 | .extract (.tmp s) _=>Nat.beq s t
 | .move (.tmp s)=>Nat.beq s t
 | .assign (.tmp s)=>Nat.beq s t
 |_=>false
def Pe (ops:Array Oper):Nat->List AV->List AV
 |_,[]=> []
 |i, .Nd l::r=>(if Aai ops i=true then .Nd l else .undef)::Pe ops (i+1) r
 |i,v::r=>v::Pe ops (i+1) r
def St.mU (ops:Array Oper) (st:St):St:= {st with tmps:=Pe ops 0 st.tmps}
inductive Ow (Γ:Env) (live:Nat->List Nat):Code->St->(Lz->St->Prop)->Prop where
 |skip {st:St} {Q:Lz->St->Prop} :Q .normal st->Ow Γ live .skip st Q
 |label {l:Nat} {st:St} {Q:Lz->St->Prop} :Q .normal st->Ow Γ live (.label l) st Q
 |exit {id:Nat} {st:St} {Q:Lz->St->Prop} :Q (.exit id) st->Ow Γ live (.exit id) st Q
 |ret {st:St} {Q:Lz->St->Prop} :Q .ret st->Ow Γ live .ret st Q
 |region {id:Nat} {ops:Array Oper} {draw:Bool} {st:St} {Q:Lz->St->Prop} :yg T (zH Γ draw) ops draw (st.mU ops) (Q .normal)->Ow Γ live (.region id ops draw) st Q
 |seq {x y:Code} {st:St} {Q:Lz->St->Prop} (Q1:Lz->St->Prop):Ow Γ live x st Q1->(∀s,Q1 .normal s->Ow Γ live y s Q)->(∀e s,e≠ .normal->Q1 e s->Q e s)->Ow Γ live (.seq x y) st Q
 |cond {c:Operand} {x y:Code} {st:St} {fr t:Bool} {Q:Lz->St->Prop} :st.ev c= .at (.data fr .bool t)->(t=true->Ow Γ live x st Q)->(t=false->Ow Γ live y st Q)->Ow Γ live (.cond c x y) st Q
 |block {id:Nat} {c:Code} {st:St} {Q:Lz->St->Prop} (Q1:Lz->St->Prop):Ow Γ live c st Q1->(∀e s,Q1 e s->xh id Q e s)->Ow Γ live (.block id c) st Q
 |loop {c:Code} {st:St} {Q:Lz->St->Prop} (Q1:Lz->St->Prop):Ow Γ live c (st.clean (live (Fb c))) Q1->(∀s,Q1 .normal s->Ow Γ live (.loop c) s Q)->(∀e s,e≠ .normal->Q1 e s->Q e s)->Ow Γ live (.loop c) st Q
def dz (st:St):List ResultVar->Option (List AV)
 | []=>some []
 | .tmp t::r=>(dz st r).map λl=>st.get t::l
 | .cell p t::r=>match Qr T st t (st.get p),dz st r with
  |some v,some l=>some (v::l)
  |_,_=>none
def nh (s:Spec) (fn:Func) (st:St):Option (Bool×s.res.den):=
 match dz T st fn.results.toList with
 |some [v]=>if s.Ib then none else Fw st s.res v
 |some [v,u]=>if s.Ib then Du st s.res [v,u] else none
 |some [v,u,t]=>if s.Ib then Du st s.res [v,u,t] else none
 |_=>none
def Tm:(τ:Ty)->τ.den->List AV
 | .pair a r,x=> .at (.data a.flat a x.1)::Tm r x.2
 |_,_=> []
def ky (st:St):(c:CK)->AC->Option (c.den×List Nat)
 | .Eh τ,a=>if τ.flat||a.settled then (Dn st τ a).map λp=>(p.2,[]) else none
 | .row e te, .own l off len=>match st.at l with
  |some (.arr _ _ e' Ru xs)=>if h:e'=e/\Ru=te then some ((((h.1▸xs:List e.den).drop off).take len),[l]) else none
  |_=>none
 | .row _ _, .Mo=>some ([],[])
 | .Ij e te, .own l off len=>match st.at l with
  |some (.arr _ tr e' Ru xs)=>if h:e'=e/\Ru=te/\(tr||e.flat)=true then some ((((h.1▸xs:List e.den).drop off).take len),[l]) else none
  |some (.Hf e' Ru xs)=>if h:e'=e/\Ru=te then some ((((h.1▸xs:List e.den).drop off).take len),[l]) else none
  |_=>none
 | .Ij _ _, .Mo=>some ([],[])
 | .Bn e te _, .own l off len=>match st.at l with
  |some (.Bn e' Ru rows none _)=>if h:e'=e/\Ru=te/\off=0/\len=rows.length then some ((h.1▸rows:List (List e.den)),[l]) else none
  |_=>none
 |_,_=>none
def Vn (st:St):(cs:List CK)->List AC->Option (CKs.den cs×List Nat)
 | [],[]=>some ((),[])
 |c::r,a::as=>match ky st c a,Vn st r as with
  |some (x,t1),some (y,t2)=>some ((x,y),t1++t2)
  |_,_=>none
 |_,_=>none
def pT (st:St) (l:Nat):(c:CK)->Option c.den
 | .Eh _=>none
 | .row e te=>match st.at l with
  |some (.arr _ _ e' Ru xs)=>if h:e'=e/\Ru=te then some (h.1▸xs) else none
  |_=>none
 | .Ij e te=>match st.at l with
  |some (.Hf e' Ru xs)=>if h:e'=e/\Ru=te then some (h.1▸xs) else none
  |_=>none
 | .part _ _=>none
 | .Bn _ _ _=>none
def Pc (st:St):(k:Nat)->(cs:List (Bool×CK))->Option (IOs.den cs)
 |_,[]=>some ()
 |k,(true, .Eh _)::r=>Pc st (k+1) r
 |k,(true, .Bn _ _ _)::r=>Pc st (k+1) r
 |k,(true, .row e te)::r=>match pT st (Dv true k) (.row e te),Pc st (k+1) r with
  |some x,some y=>some (x,y)
  |_,_=>none
 |k,(true, .Ij e te)::r=>match pT st (Dv true k) (.Ij e te),Pc st (k+1) r with
  |some x,some y=>some (x,y)
  |_,_=>none
 |k,(true, .part e te)::r=>match pT st (Dv true k) (.row e te),Pc st (k+1) r with
  |some x,some y=>some (x,y)
  |_,_=>none
 |k,(false,_)::r=>Pc st (k+1) r
def Qg:(k:Nat)->List (Bool×CK)->List Nat
 |_,[]=> []
 |k,(true, .Eh _)::r=>Qg (k+1) r
 |k,(true, .Bn _ _ _)::r=>Qg (k+1) r
 |k,(true,_)::r=>Dv true k::Qg (k+1) r
 |k,(false,_)::r=>Qg (k+1) r
def Kb:(k:Nat)->List (Bool×CK)->List AC->Option (List AC)
 |_,_,[]=>some []
 |k,(true, .row _ _)::r, .own l _ _::as=>if Nat.beq l (Dv true k) then Kb (k+1) r as else none
 |k,(true, .Ij _ _)::r, .own l _ _::as=>if Nat.beq l (Dv true k) then Kb (k+1) r as else none
 |k,(false,_)::r,a::as=>(Kb (k+1) r as).map λl=>a::l
 |_,_,_=>none
def iX (st:St):List AC->List (Bool×CK)->Prop
 | .own l off len::as,(true,_)::r=>(off=0/\match st.at l with
  |some (.arr _ _ _ _ xs)=>len=xs.length
  |some (.Hf _ _ xs)=>len=xs.length
  |_=>False)/\iX st as r
 |_::as,(false,_)::r=>iX st as r
 |_,_=>True
def MB (s:MSpec) (st:St) (l:List AV):Option (List AC×List Nat):=match s.rp with
 |none=>if s.Ib=Nat.blt 1 l.length then (ungroup s.Hv l).map λas=>(as,[]) else none
 |some tid=>match l with
  | [.at (.Hs m i)]=>match st.at m with
   |some (.var Vd vs)=>if Vd=tid/\i=0/\Nat.blt m Bl=true then some (vs,[m]) else none
   |_=>none
  |_=>none
def xo (st:St) (n:Nat) (as:List AC):List (Nat×Nat)->Prop
 | []=>True
 |(k,j)::r=>(match as[j]? with
  |some (.own l _ _)=>match st.at l with
   |some (.Bn _ _ _ _ (some p))=>p.1=Dv false k/\n<=p.2/\Nat.blt k 1000=true
   |_=>False
  |_=>False)/\xo st n as r
def ke (s:MSpec) (fn:Func) (x:Ins.den s.ins) (st:St) (cs:List AC) (P:CKs.den s.outs×IOs.den s.ins->Prop):Prop:=
 match dz T st fn.results.toList with
 |none=>False
 |some l=>match MB s st l with
  |none=>False
  |some (as,ml)=>match Vn st s.outs (cs++as),Pc st 0 s.ins with
   |some (r,ls),some o=>(ar (ml++ls++Qg 0 s.ins)&&Nat.blt s.ins.length 1000&&Nat.blt s.outs.length 1000&&s.ZR)=true/\xo st (s.Ft x) (cs++as) s.keeps/\P (r,o)
   |_,_=>False
def WM (s:MSpec) (fn:Func) (x:Ins.den s.ins) (st:St) (P:CKs.den s.outs×IOs.den s.ins->Prop):Prop:=
 match s.ptr with
 |none=>ke T s fn x st [] P
 |some p=> ∃vs cs,st.at Pr=some (.var p.1 vs)/\vs.length=p.2/\Kb 0 s.ins vs=some cs/\iX st vs s.ins/\ke T s fn x st cs P
def aF (s:MSpec) (as:List AC):List AV:=match s.ptr with
 |none=>Tp s.Jj as
 |some p=> .at (.Hs Pr 0)::Tp s.Jj (as.drop p.2)
def qh (s:MSpec) (x:Ins.den s.ins):List (Nat×OB):=match s.ptr with
 |none=>Zv 0 s.ins x
 |some p=>Zv 0 s.ins x++ [(Pr, .var p.1 ((bP 0 s.ins x).take p.2))]
def Zz:List (Bool×CK)->Bool
 | []=>true
 |(true, .Bn _ _ _)::_=>false
 |_::r=>Zz r
def zC (s:MSpec):Bool:=Zz s.ins&&match s.ptr with
 |none=>true
 |some p=>Nat.ble p.2 s.ins.length
def Aeu (Γ:Env) (s:MSpec) (fn:Func) (x:Ins.den s.ins) (P:CKs.den s.outs×IOs.den s.ins->Prop):Prop:=
 (Nat.blt s.ins.length 1000&&zC s)=true/\ ∃c,fn.body=some c/\Ow T Γ (zf T.marks fn c) c {tmps:=aF s (bP 0 s.ins x)++List.replicate (fn.ntmps-(aF s (bP 0 s.ins x)).length) .undef,heap:=qh s x}
  (λe st=>(∀id,e≠ .exit id)/\WM T s fn x st P)
def WN (Γ:Env) (s:Spec) (fn:Func) (x:s.arg.den) (P:s.res.den->Prop):Prop:=
 ∃c,fn.body=some c/\Ow T Γ (zf T.marks fn c) c {tmps:=Tm s.arg x++List.replicate (fn.ntmps-(Tm s.arg x).length) .undef,heap:= []}
  (λe st=>(∀id,e≠ .exit id)/\ ∃fr y,nh T s fn st=some (fr,y)/\(fr||!s.fresh)=true/\P y)
end Go.Proofs.YtkkdpknjohcekaaGreat
