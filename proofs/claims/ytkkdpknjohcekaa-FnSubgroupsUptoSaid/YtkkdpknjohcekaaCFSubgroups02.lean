/-
  Part 3 of the proof that the statement FnSubgroups holds.
-/
import Derived.Test.YtkkdpknjohcekaaCFSubgroups01
namespace Go.Proofs.Ytkkdpknjohcekaa
open Go.RowKit
def Hk:Nat->St->List AC->Option (List AC×St)
 |0,st,cs=>if cs.all (·.settled) then some (cs,st) else none
 |n+1,st,cs=>
  match cs.find? (λc=>!c.settled) with
  |none=>some (cs,st)
  |some (.own l _ _)=>match st.at l with
   |some (.arr fr _ e _ xs)=>Hk n (st.freeze l fr e xs) (cs.map (Dd l fr e xs))
   |some (.Gx e _ xs)=>Hk n (st.freeze l false e xs) (cs.map (Dd l false e xs))
   |_=>none
  |some (.Kh l)=>match st.at l with
   |some (.Vq v m)=>Hk n (st.Ik l v m) (cs.map (Ha l v m))
   |_=>none
  |some _=>none
def settle (st:St):AV->Option (AV×St)
 | .at (.own l off len)=>match st.at l with
  |some (.arr fr _ e _ xs)=>some (.at (.data fr (.slice e) ((xs.drop off).take len)),st.freeze l fr e xs)
  |some (.Gx e _ xs)=>some (.at (.data false (.slice e) ((xs.drop off).take len)),st.freeze l false e xs)
  |_=>none
 | .at (.Kh l)=>match st.at l with
  |some (.Vq v m)=>some (.at (.data false (.smap v) m),st.Ik l v m)
  |_=>none
 | .at a=>if a.settled then some (.at a,st) else none
 | .agg cs=>(Hk cs.length st cs).map λp=>(.agg p.1,p.2)
 | .bp fr τ x=>some (.bp fr τ x,st)
 | .Mn _=>none
def AC.refs:AC->List Nat
 | .own l _ _| .He l _| .Jv l _| .Kh l| .sub l _ _| .Js l _ _=> [l]
 | .clo _ Ek=>Ek.map (·.1)
 |_=> []
def au:List Nat->Bool
 | []=>true
 |a::r=>!r.contains a&&au r
def Ty.tree:Ty->Bool
 | .int _| .bool| .str| .unit=>true
 | .slice e=>e.tree
 | .pair a r=>a.tree&&r.tree
 |_=>false
def Ru (st:St):AC->Bool
 | .data _ τ _=>τ.flat
 | .Lp=>true
 | .own l _ _=>match st.at l with
  |some (.arr _ tr e _ _)=>tr||e.flat
  |some (.Gx _ _ _)=>true
  |_=>false
 |_=>false
def Th (st:St):AV->Bool
 | .at a=>Ru st a
 | .agg cs=>cs.all (Ru st)&&au (cs.flatMap AC.refs)
 |_=>false
def Bp:Nat:=1000000000
variable (T:Tab)
def QG (t:TypeId) (τ:Ty) (i:Nat):Option TypeId:=
 if τ.Ap then (List.range 24).findSome? λf=>match T.off t f with
  |some (o,u)=>if o=i then some u else none
  |none=>none
 else some t
def Tab.QU (te:TypeId):Option Ty:=if T.ZG.contains te then (match T.ty te with
 |some (.slice e)=>some e
 |_=>none) else none
def eb (te:TypeId) (e:Ty):OB:=match T.QU te with
 |some e'=> .Bo e' te [] none none
 |none=> .arr (T.sl||e.flat) T.yC e te []
def Uv (b:OB) (key l i:Nat) (st:St):St:=
 match st.at l with
 |some (.var _ vs)=>match vs[i]? with
  |some .Lp=>
   let s1:=st.new key b
   match s1.at l with
   |some (.var tid vs')=>s1.Jr l (.var tid (Sn vs' i (.own key 0 0)))
   |_=>s1
  |_=>st
 |_=>st
def fN (l:Nat) (t:TypeId) (τ:Ty):Nat->Nat->St->St
 |0,_,st=>st
 |n+1,i,st=>
  fN l t τ n (i+1) (match ((QG T t τ i).bind T.elem).bind λte=>(T.ty te).map λe=>(te,e) with
   |some (te,e)=>Uv (eb T te e) (100000+l*100+i) l i st
   |none=>st)
def eG (l off:Nat) (t:TypeId) (τ:Ty):Nat->Nat->St->St
 |0,_,st=>st
 |n+1,i,st=>
  eG l off t τ n (i+1) (match ((QG T t τ i).bind T.elem).bind λte=>(T.ty te).map λe=>(te,e) with
   |some (te,e)=>Uv (eb T te e) (100000+l*100+(off+i)) l (off+i) st
   |none=>st)
def zeroCells:(τ:Ty)->List AC
 | .unit=> []
 | .pair a r=>zeroCells a++zeroCells r
 | .slice _=> [.Lp]
 | .oslice _=> [.Lp]
 | .ptr _=> [.Vp]
 | .optr _=> [.Vp]
 | .clo _ _=> [.undef]
 |τ=> [.data true τ τ.zero]
def cellsOf (τ:Ty):AV->Option (List AC)
 | .agg cs=>if τ.Ap&&cs.length==τ.size then some cs else none
 | .at (.data fr Nv x)=>if Nv=τ then some (Sa fr Nv x) else none
 | .at .undef=>none
 | .at .skip=>none
 | .at a=>if τ.Ap then none else some [a]
 |_=>none
def mkVar (st:St) (l:Nat) (t:TypeId) (τ:Ty) (cs:List AC):Option (AV×St):=
 if Bp<=100000+l*100+cs.length then none else
 let s:=fN T l t τ cs.length 0 (st.new l (.var t (cs.map (Cu l))))
 match s.at l with
 |some (.var _ _)=>some (.at (.He l 0),s)
 |_=>none
def Ps:(τ:Ty)->List AC
 | .unit=> []
 | .pair a r=>Ps a++Ps r
 | .slice e=> [.data false (.slice e) []]
 | .oslice _=> [.Lp]
 | .ptr _=> [.Vp]
 | .optr _=> [.Vp]
 | .clo _ _=> [.undef]
 |τ=> [.data false τ τ.zero]
def dZ:Nat:=1300000000
def fY:Nat:=1400000000
def ub (st:St) (l:Nat) (t:TypeId) (cs:List AC):Option (AV×St):=
 if Bp<=100000+l*100+cs.length then none else some (.at (.He l 0),st.new l (.var t (cs.map (Cu l))))
def Dw {α:Type} (xs:List α) (i:Nat) (ys:List α):List α:=xs.take i++ys++xs.drop (i+ys.length)
def YV (st:St) (τ:Ty) (l:Nat) (v:AV):AV:=match T.marks.contains (dZ+l)&&v.settled with
 |true=>match Fv st τ v with
  |some p=> .at (.data false τ p.2)
  |none=>v
 |false=>v
def Vb (st:St) (t:TypeId) (p v:AV):Option St:=
 match T.ty t,p with
 |some τ, .at (.He l i)=>match st.at l,cellsOf τ (YV T st τ l v) with
  |some (.var tid vs),some cs=>if i+cs.length<=vs.length then some (if τ.Ap&&Nat.blt (100000+l*100+(i+cs.length)) Bp then eG T l i t τ cs.length 0 (st.Jr l (.var tid (Dw vs i cs))) else st.Jr l (.var tid (Dw vs i cs))) else none
  |_,_=>none
 |some τ, .at (.Jv l j)=>match settle st v with
  |some (v',st')=>match st'.at l,Fv st' τ v' with
   |some (.arr fr tr e tid xs),some (Wd,x)=>if h:τ=e then (if j<xs.length then some (st'.Jr l (.arr (fr&&Wd) (tr&&(Th st v&&e.tree)) e tid (xs.set j (h▸x)))) else none) else none
   |_,_=>none
  |none=>none
 |_,_=>none
def Dn:Nat:=4294967296
def Np (st:St) (dst:Nat) (t:TypeId) (x y:Operand):Option (AV×St):=
 match T.elem t with
 |none=>none
 |some te=>match T.ty te,settle st (st.ev y) with
  |some e,some (y',st')=>match Fv st' (.slice e) y' with
   |none=>none
   |some (sm,ys)=>
    let tr2:=e.flat||(Th st (st.ev y)&&e.tree)
    match st'.ev x with
    | .at .Lp=>if ys.length<=Dn/\dst<Bp then some (.at (.own dst 0 (0+ys.length)),(st'.new dst (.arr (T.sl||e.flat) T.yC e te [])).new dst (.arr ((T.sl||e.flat)&&(sm||e.flat)) (T.yC&&tr2) e te (((([]:List e.den).drop 0).take 0)++ys))) else none
    | .at (.own l off len)=>match st'.at l with
     |some (.arr fr tr e' tid xs)=>if h:e'=e/\tid=te then
       (if len+ys.length<=Dn/\l<Bp then
        some (.at (.own l 0 (len+ys.length)),st'.new l (.arr (fr&&(sm||e.flat)) (tr&&tr2) e te ((((h.1▸xs:List e.den).drop off).take len)++ys))) else none)
      else none
     |_=>none
    |_=>none
  |_,_=>none
def Pw (st:St) (l i m:Nat) (e:Ty) (te tid:TypeId) (rows:List (List e.den)) (kp:Option (Nat×Nat)):St:=
 (st.Jr l (.Bo e te rows (some i) kp)).new m (.arr false false e tid (rows.getD i []))
def Re (st:St) (dst:Nat) (t:TypeId) (x y:Operand):Option (AV×St):=
 match x with
 | .tmp tx=>match st.get tx with
  | .at (.sub l i _)=>match st.at l,T.elem t with
   |some (.Bo e te rows none kp),some tid=>if (Nat.blt l Bp&&(Nat.blt dst Bp&&!Nat.beq dst l))=true then Np T ((Pw st l i dst e te tid rows kp).put (some tx) (.at (.own dst 0 (rows.getD i []).length))) dst t x y else none
   |_,_=>none
  |_=>Np T st dst t x y
 |_=>Np T st dst t x y
def nd:Ty->Bool
 | .int _| .bool| .str| .slice _| .oslice _=>true
 |_=>false
def gx:Ty->Bool
 | .unit=>true
 | .pair a r=>gx a&&gx r
 |e=>nd e
def bF (st:St) (dst:Nat) (t:TypeId) (l c:AV):Option (AV×St):=
 match T.elem t,l,c with
 |some te, .at (.data _ (.int _) n), .at (.data _ (.int _) m)=>match T.ty te with
  |some e=>if inb n (Dn+1)=true/\n=m/\gx e=true/\dst<Bp then some (.at (.own dst 0 n.toNat),st.new dst (.arr (T.sl||e.flat) (T.yC&&e.tree) e te (List.replicate n.toNat e.zero))) else none
  |none=>none
 |_,_,_=>none
def Ld (e:Ty):Nat->List (Nat×Operand)->St->Option (Bool×Bool×List e.den×St)
 |_,[],st=>some (true,true,[],st)
 |i,(j,x)::r,st=>
  if i=j then match settle st (st.ev x) with
   |some (v,st')=>match Fv st' e v with
    |some (fr,y)=>match Ld e (i+1) r st' with
     |some (Wd,tr',ys,Ave)=>some (fr&&Wd,Th st (st.ev x)&&e.tree&&tr',y::ys,Ave)
     |none=>none
    |none=>none
   |none=>none
  else none
def Mf (st:St) (dst:Nat) (t:TypeId) (len:Nat) (parts:Array (Nat×Operand)):Option (AV×St):=
 match T.elem t with
 |none=>none
 |some te=>match T.ty te with
  |none=>none
  |some e=>if parts.size=len/\len<=64/\e.size<=64/\dst<Bp then (match Ld e 0 parts.toList st with
   |some (fr,tr,ys,st')=>some (.at (.own dst 0 len),st'.new dst (.arr ((T.sl||e.flat)&&fr) (T.yC&&tr) e te ys))
   |none=>none) else none
def Va (st:St) (dst:Nat) (t:TypeId):Option (AV×St):=
 match T.mapOf t with
 |some v=>if dst<Bp then some (.at (.Kh dst),st.new dst (.Vq v λ_=>none)) else none
 |none=>none
def gr {α:Type} (m:ByteArray->Option α) (k:ByteArray) (x:α):ByteArray->Option α:= λs=>if s=k then some x else m s
def Is (st:St) (t:TypeId) (m k x:AV):Option St:=
 match T.mapOf t,m,k with
 |some v, .at (.Kh l), .at (.data _ .str s)=>match st.at l,Fv st v x with
  |some (.Vq v' f),some (_,y)=>if h:v'=v/\v.flat=true/\v.Ap=false then some (st.Jr l (.Vq v (gr (h.1▸f:ByteArray->Option v.den) s y))) else none
  |_,_=>none
 |_,_,_=>none
def iS (st:St) (t t':TypeId) (x y:AV):Option (AV×St):=
 match x,(T.elem t).bind T.ty with
 | .at (.own l off len),some e=>if T.elem t=T.elem t'/\e.flat=true/\e.size=1 then match st.at l,Fv st (.slice e) y with
  |some (.arr fr _ e' tid xs),some (_,ys)=>if h:e'=e/\T.elem t=some tid then
    some (.at (.data true (.int .i64) (min len ys.length:Nat)),st.Jr l (.arr fr false e tid (Dw (h.1▸xs:List e.den) off (ys.take len))))
   else none
  |_,_=>none
  else none
 |_,_=>none
def evalClear (st:St) (t:TypeId) (x:AV):Option St:=
 match x,(T.elem t).bind T.ty with
 | .at (.own l off len),some e=>if e.flat=true/\nd e=true then match st.at l with
  |some (.arr fr _ e' tid xs)=>if h:e'=e/\T.elem t=some tid then
    some (st.Jr l (.arr fr false e tid (Dw (h.1▸xs:List e.den) off (List.replicate len e.zero))))
   else none
  |_=>none
  else none
 |_,_=>none
def Me (st:St) (t:TypeId):List (Nat×Operand)->List AC->Option (List AC)
 | [],cs=>some cs
 |(i,x)::r,cs=>
  match T.off t i with
  |some (o,u)=>match T.ty u with
   |some ρ=>match cellsOf ρ (st.ev x) with
    |some c=>if o+c.length<=cs.length then Me st t r (Dw cs o c) else none
    |none=>none
   |none=>none
  |none=>none
def Xq (st:St) (t:TypeId) (parts:Array (Nat×Operand)):Option AV:=
 match T.ty t with
 |none=>none
 |some τ=>if τ.Ap then (Me T st t parts.toList (zeroCells τ)).map .agg else none
def Ed (io:Bool) (k:Nat):Nat:=if io then 1000000000+k else 500000+k
def Jw (k:Nat):Nat:=600000+k
def Aaw (dst:Nat) (k:Nat):Nat:=1000000*(dst+1)+k
def Sz:List (Option Nat)->List AC->List AV
 |none::s,a::as=> .at a::Sz s as
 |some n::s,as=> .agg (as.take n)::Sz s (as.drop n)
 |_,_=> []
def Ks:List (Option Nat)->List Value->List Value
 |none::s,u::us=>u::Ks s us
 |some n::s,us=> .agg (us.take n).toArray::Ks s (us.drop n)
 |_,_=> []
def ungroup:List (Option Nat)->List AV->Option (List AC)
 | [],[]=>some []
 |none::s, .at a::as=>(ungroup s as).map λr=>a::r
 |some n::s, .agg cs::as=>if cs.length=n then (ungroup s as).map λr=>cs++r else none
 |some n::s, .at (.data fr τ x)::as=>if τ.Ap=true/\(Sa fr τ x).length=n then (ungroup s as).map λr=>Sa fr τ x++r else none
 |_,_=>none
def kQ (l:Nat):(c:CK)->c.den->Option OB
 | .Fe _,_=>none
 | .row e te,xs=>some (.arr false false e te xs)
 | .Ho e te,xs=>some (.Gx e te xs)
 | .part e te,x=>some (.arr false false e te x.1)
 | .Bo e te kp,xs=>some (.Bo e te xs none (if kp then some (l,List.length xs) else none))
def Asb (l:Nat):(c:CK)->c.den->AC
 | .Fe τ,x=> .data τ.flat τ x
 | .row _ _,xs=> .own l 0 (List.length xs)
 | .Ho _ _,xs=> .own l 0 (List.length xs)
 | .part _ _,x=> .own l x.2.1 x.2.2
 | .Bo _ _ _,xs=> .own l 0 (List.length xs)
def iM {α:Type} (l:Nat):Option α->List (Nat×α)->List (Nat×α)
 |none,r=>r
 |some b,r=>(l,b)::r
def Zv:(k:Nat)->(cs:List (Bool×CK))->Ins.den cs->List (Nat×OB)
 |_,[],_=> []
 |k,p::r,x=>iM (Ed p.1 k) (kQ (Ed p.1 k) p.2 x.1) (Zv (k+1) r x.2)
def bP:(k:Nat)->(cs:List (Bool×CK))->Ins.den cs->List AC
 |_,[],_=> []
 |k,p::r,x=>Asb (Ed p.1 k) p.2 x.1::bP (k+1) r x.2
inductive Loc where
 |row (l:Nat)
 |sub (l i c:Nat)
 |view (l:Nat)
 deriving DecidableEq
def Loc.Xb:Loc->Nat
 | .row l=>l
 | .sub l _ _=>l
 | .view l=>l
def Loc.reads:Loc->Bool
 | .view _=>true
 |_=>false
def cj (st:St) (ls:List Nat):Bool:=ls.all λl=>match st.at l with|some (.var _ vs)=>vs.all (·.settled)|_=>false
def views (k:Nat) (ls:List Nat):List (Nat×Loc):=ls.map λl=>(Ed false k, .view l)
def Lx (st:St) (io:Bool) (k:Nat):(c:CK)->AC->Option (c.den×List (Nat×Loc))
 | .Fe τ, .own l off len=>(Dx st τ (.own l off len)).map λp=>(p.2,[(Ed false k, .view l)])
 | .Fe τ, .clo g Ek=>if cj st (Ek.map (·.1))&&!τ.Ap then (Jp st τ (.clo g Ek)).map λp=>(p.2,views k (Ek.map (·.1))) else none
 | .Fe τ, .He l i=>if cj st [l]&&!τ.Ap then (Jp st τ (.He l i)).map λp=>(p.2,views k [l]) else none
 | .Fe τ, .sub l i c=>(Dx st τ (.sub l i c)).map λp=>(p.2,[(Ed false k, .view l)])
 | .Fe τ,a=>if τ.flat||a.settled then (Dx st τ a).map λp=>(p.2,[]) else none
 | .row e te, .own l off len=>match st.at l with
  |some (.arr _ _ e' Qx xs)=>if h:e'=e/\Qx=te/\off=0/\len=xs.length then some ((h.1▸xs:List e.den),[(Ed io k, .row l)]) else none
  |_=>none
 | .row e _, .sub l i c=>match st.at l with
  |some (.Gx e' _ xs)=>if h:e'= .slice e/\e.flat=true/\io=true/\c=0 then xs[i]?.map λy=>((h.1▸y:(Ty.slice e).den),[(Ed io k, .sub l i c)]) else none
  |_=>none
 | .row _ _, .Lp=>some ([],[])
 | .Ho e te, .own l off len=>match st.at l with
  |some (.Gx e' Qx xs)=>if h:e'=e/\Qx=te/\off=0/\len=xs.length then some ((h.1▸xs:List e.den),[(Ed io k, .row l)]) else none
  |_=>none
 | .Ho e _, .sub l i c=>match st.at l with
  |some (.Gx e' _ xs)=>if h:e'= .slice e/\io=true/\c=0 then xs[i]?.map λy=>((h.1▸y:(Ty.slice e).den),[(Ed io k, .sub l i c)]) else none
  |_=>none
 | .Ho _ _, .Lp=>some ([],[])
 | .part e te, .own l off len=>match st.at l with
  |some (.arr _ _ e' Qx xs)=>if h:e'=e/\Qx=te/\e.flat=true/\io=true then some (((h.1▸xs:List e.den),off,len),[(Ed io k, .row l)]) else none
  |_=>none
 | .Bo e te _, .own l off len=>match st.at l with
  |some (.Bo e' Qx rows none _)=>if h:e'=e/\Qx=te/\off=0/\len=rows.length/\io=false then some ((h.1▸rows:List (List e.den)),[(Ed io k, .row l)]) else none
  |_=>none
 |_,_=>none
def gp (st:St):(k:Nat)->(cs:List (Bool×CK))->List AC->Option (Ins.den cs×List (Nat×Loc))
 |_,[],[]=>some ((),[])
 |k,p::r,a::as=>match Lx st p.1 k p.2 a,gp st (k+1) r as with
  |some (x,t1),some (y,t2)=>some ((x,y),t1++t2)
  |_,_=>none
 |_,_,_=>none
def cw (st:St):(c:CK)->c.den->AC->Option St
 | .row e _,ys, .own l _ len=>match st.at l with
  |some (.arr fr tr e' te xs)=>if h:e=e'/\List.length ys=len/\xs.length=len then some (st.Jr l (.arr (fr&&e'.flat) (tr&&e'.flat) e' te (h.1▸ys))) else none
  |_=>none
 | .Ho e _,ys, .own l _ len=>match st.at l with
  |some (.Gx e' te xs)=>if h:e=e'/\List.length ys=len/\xs.length=len then some (st.Jr l (.Gx e' te (h.1▸ys))) else none
  |_=>none
 | .row e _,ys, .sub l i _=>match st.at l with
  |some (.Gx e' te xs)=>if h: .slice e=e' then (match xs[i]? with
   |some y=>if List.length ys=List.length (h▸y:(Ty.slice e).den) then some (st.Jr l (.Gx e' te (xs.set i (h▸(ys:(Ty.slice e).den))))) else none
   |none=>none) else none
  |_=>none
 | .Ho e _,ys, .sub l i _=>match st.at l with
  |some (.Gx e' te xs)=>if h: .slice e=e' then (match xs[i]? with
   |some y=>if List.length ys=List.length (h▸y:(Ty.slice e).den) then some (st.Jr l (.Gx e' te (xs.set i (h▸(ys:(Ty.slice e).den))))) else none
   |none=>none) else none
  |_=>none
 |_,_, .Lp=>some st
 |_,_,_=>none
def NR (st:St) (e:Ty) (ys:List e.den):AC->Option St
 | .own l _ _=>match st.at l with
  |some (.arr fr tr e' te xs)=>if h:e=e'/\List.length ys=xs.length then some (st.Jr l (.arr fr tr e' te (h.1▸ys))) else none
  |_=>none
 |_=>none
def Hv:(cs:List (Bool×CK))->IOs.den cs->List AC->St->Option St
 | [],_,_,st=>some st
 |(true, .Fe _)::r,x,_::as,st=>Hv r x as st
 |(true, .row e te)::r,x,a::as,st=>match cw st (.row e te) x.1 a with
  |some st'=>Hv r x.2 as st'
  |none=>none
 |(true, .Ho e te)::r,x,a::as,st=>match cw st (.Ho e te) x.1 a with
  |some st'=>Hv r x.2 as st'
  |none=>none
 |(true, .part e _)::r,x,a::as,st=>match NR st e x.1 a with
  |some st'=>Hv r x.2 as st'
  |none=>none
 |(true, .Bo _ _ _)::r,x,_::as,st=>Hv r x as st
 |(false,_)::r,x,_::as,st=>Hv r x as st
 |_,_,_,_=>none
def Cv (dead part:List Nat) (c:AC):AC:=if c.refs.any (λl=>dead.contains l) then .undef else match c with
 | .sub l i c=>if part.contains l then .undef else .sub l i c
 | .Js l i c=>if part.contains l then .undef else .Js l i c
 |c=>c
def Xo:List (Nat×OB)->List Nat->List (Nat×OB)
 | [],_=> []
 |(k,b)::r,dead=>if dead.contains k then Xo r dead else (k,b)::Xo r dead
def St.cJ (st:St) (dead part:List Nat):St:=let s:=st.Kv (Cv dead part); {s with heap:=Xo s.heap dead}
def Tp (st:St) (l j m:Nat) (e:Ty) (te:TypeId) (rows:List (List e.den)) (xs:List e.den) (kp:Option (Nat×Nat)):St:=
 (st.cJ [m] [l]).Jr l (.Bo e te (rows.set j xs) none kp)
def bS (j:Nat):Option (Nat×Nat)->Option (Nat×Nat)
 |none=>none
 |some p=>some (p.1,min p.2 j)
def bH (st:St) (t:TypeId) (p v:AV):Option St:=
 match T.ty t,p with
 |some τ, .at (.Js l i j)=>match settle st v with
  |some (v',st')=>match st'.at l,Fv st' τ v' with
   |some (.Bo e te rows none kp),some (_,x)=>if h:τ=e then some (st'.Jr l (.Bo e te (rows.set i ((rows.getD i []).set j (h▸x))) none kp)) else none
   |_,_=>none
  |none=>none
 |some τ, .at (.Jv l j)=>match st.at l,v with
  |some (.Bo e te rows out kp), .at (.own m off len)=>match st.at m with
   |some (.arr _ _ e' _ xs)=>if h:e'=e/\(Nat.blt l Bp&&(!Nat.beq m l&&!τ.Ap))=true/\off=0/\len=xs.length/\(out=none\/out=some j) then some (Tp st l j m e te rows (h.1▸xs) (bS j kp)) else none
   |_=>none
  |_,_=>none
 |_,_=>none
def QV (st:St):AV->Bool
 | .at (.Js _ _ _)=>true
 | .at (.Jv l _)=>match st.at l with
  |some (.Bo _ _ _ _ _)=>true
  |_=>false
 |_=>false
def Ph (st:St) (t:TypeId) (p v:AV):Option St:=match QV st p with
 |true=>bH T st t p v
 |false=>Vb T st t p v
def Qs (st:St) (k m:Nat) (b:OB):St:=let s:=st.cJ [m,k] []; {s with heap:=Nz s.heap k b}
def eo (t:TypeId):Option (TypeId×Ty):=(T.elem t).bind λte=>(T.QU te).map λe=>(te,e)
def Xt (st:St) (dst:Nat) (t:TypeId) (l c:AV):Option (AV×St):=
 match eo T t with
 |none=>bF T st dst t l c
 |some (te,e)=>match l,c with
  | .at (.data _ (.int _) n), .at (.data _ (.int _) m)=>if inb n (Dn+1)=true/\n=m/\dst<Bp then some (.at (.own dst 0 n.toNat),Qs st dst dst (.Bo e te (List.replicate n.toNat []) none none)) else none
  |_,_=>none
def Iq (st:St) (dst:Nat) (t:TypeId) (len:Nat) (parts:Array (Nat×Operand)):Option (AV×St):=
 match eo T t with
 |none=>Mf T st dst t len parts
 |some (te,e)=>match parts.toList with
  | [(0,x)]=>match st.ev x with
   | .at (.own m off ln)=>match st.at m with
    |some (.arr _ _ e' _ xs)=>if h:e'=e/\(Nat.beq len 1&&(Nat.blt dst Bp&&Nat.blt m Bp))=true/\off=0/\ln=xs.length then some (.at (.own dst 0 1),Qs st dst m (.Bo e te [h.1▸xs] none none)) else none
    |_=>none
   |_=>none
  |_=>none
def Rf (st:St) (dst:Nat) (t:TypeId) (x y:Operand):Option (AV×St):=
 match eo T t with
 |none=>Re T st dst t x y
 |some (te,e)=>match st.ev x,st.ev y with
  | .at (.own l off len), .at (.own m Aay GC)=>match st.at l,st.at m with
   |some (.Bo e1 te1 A none _),some (.Bo e2 wR B none _)=>
    if h:(e1=e/\e2=e)/\(decide (te1=te)&&decide (wR=te)&&(Nat.blt l Bp&&(Nat.blt m Bp&&!Nat.beq m l)))=true/\(off=0/\len=A.length)/\(Aay=0/\GC=B.length)/\0<B.length/\A.length+B.length<=Dn then
     some (.at (.own l 0 (A.length+B.length)),Qs st l m (.Bo e te ((h.1.1▸A:List (List e.den))++(h.1.2▸B:List (List e.den))) none none))
    else none
   |_,_=>none
  |_,_=>none
def wi (fr:Bool):(c:CK)->c.den->Option OB
 | .Fe _,_=>none
 | .row e te,xs=>some (.arr (fr&&e.flat) false e te xs)
 | .Ho e te,xs=>some (.Gx e te xs)
 | .part e te,x=>some (.arr (fr&&e.flat) false e te x.1)
 | .Bo e te _,xs=>some (.Bo e te xs none none)
def FW (H:List (Nat×OB)) (l:Nat):Option OB->List (Nat×OB)
 |some b=>Nz H l b
 |none=>H
def Yb (fr:Bool) (key:Nat->Nat):(k:Nat)->(cs:List CK)->CKs.den cs->List (Nat×OB)->List (Nat×OB)
 |_,[],_,H=>H
 |k,c::r,x,H=>Yb fr key (k+1) r x.2 (FW H (key k) (wi fr c x.1))
def bV (key:Nat->Nat):(k:Nat)->(cs:List CK)->CKs.den cs->List AC
 |_,[],_=> []
 |k,c::r,x=>(match c,x.1 with
  | .Fe τ,y=> .data τ.flat τ y
  | .row _ _,xs=> .own (key k) 0 (List.length xs)
  | .Ho _ _,xs=> .own (key k) 0 (List.length xs)
  | .Bo _ _ _,xs=> .own (key k) 0 (List.length xs)
  | .part _ _,_=> .undef)::bV key (k+1) r x.2
def aw:List (Option Nat)->List AC->List (Bool×List AC)
 |none::s,a::as=>(false,[a])::aw s as
 |some n::s,as=>(true,as.take n)::aw s (as.drop n)
 |_,_=> []
def Aq2 (Gl:Bool) (sh:List (Option Nat)) (as:List AC):Option AV:=
 if Gl then some (.Mn (aw sh as)) else match Sz sh as with
  | [v]=>some v
  | []=>some .undef
  |_=>none
def nB (tks:List (Nat×Loc)):List Nat:=(tks.filter λt=>Nat.blt t.1 Bp&&!t.2.reads).map λt=>t.2.Xb
def whole (tks:List (Nat×Loc)):List Nat:=tks.flatMap λt=>match t.2 with| .row l=> [l]|_=> []
def CO (tks:List (Nat×Loc)):List Nat:=(tks.filter λt=>t.2.reads).map λt=>t.2.Xb
def GI (ins:List (Bool×CK)) (te:TypeId) (used:List Nat):List (Nat×Loc)->Option Nat
 | []=>none
 |(k, .row l)::r=>if Nat.blt k Bp&&(!used.contains l&&(match ins[k-500000]? with
   |some (false, .row _ Qx)=>decide (Qx=te)
   |some (false, .Ho _ Qx)=>decide (Qx=te)
   |some (false, .Bo _ Qx _)=>decide (Qx=te)
   |_=>false)) then some l else GI ins te used r
 |_::r=>GI ins te used r
def MJ (ins:List (Bool×CK)) (tks:List (Nat×Loc)) (d:Nat):(k:Nat)->(used:List Nat)->List CK->List Nat
 |_,_,[]=> []
 |k,used,c::r=>match (match c with
   | .row _ te=>GI ins te used tks
   | .Ho _ te=>GI ins te used tks
   | .Bo _ te _=>GI ins te used tks
   |_=>none) with
  |some l=>l::MJ ins tks d (k+1) (l::used) r
  |none=>Aaw d k::MJ ins tks d (k+1) used r
def ny (s:MSpec) (tks:List (Nat×Loc)) (d:Nat):List Nat:=MJ s.ins tks d 0 [] s.outs
def Ei (ks:List Nat) (j:Nat):Nat:=match ks[j]? with
 |some l=>l
 |none=>Bp+j
def zF (ks:List Nat) (n:Nat):Bool:=Nat.beq ks.length n&&(au ks&&ks.all λl=>Nat.blt l Bp)
def QQ (st:St) (l:List Nat):Bool:=l.all λk=>match st.at k with|some (.arr fr _ _ _ _)=>fr|_=>false
def SI (st:St) (s:MSpec) (args:List AV):Option (List Nat×List AC×List AV):=
 match s.ptr with
 |none=>some ([],[],args)
 |some p=>match args with
  | .at (.He l i)::rest=>match st.at l with
   |some (.var tid vs)=>if tid=p.1/\vs.length=p.2/\i=0 then some ([l],vs,rest) else none
   |_=>none
  |_=>none
def Wh:List (Bool×CK)->List AC->Bool
 |(true, .row _ _)::r, .own _ _ _::as=>Wh r as
 |(true, .Ho _ _)::r, .own _ _ _::as=>Wh r as
 |(true,_)::_,_::_=>false
 |(false,_)::r,_::as=>Wh r as
 |_,as=>as.isEmpty
def gR {α:Type} :List (Bool×CK)->List α->List α->List α
 |(true,_)::r,v::vs,as=>v::gR r vs as
 |(false,_)::r,_::vs,a::as=>a::gR r vs as
 |_,vs,_=>vs
def uD:List (Bool×CK)->Nat->Nat
 |(true,_)::r,n+1=>uD r n
 |(false,_)::r,n+1=>uD r n+1
 |_,_=>0
def MSpec.aJ (s:MSpec):Nat:=match s.ptr with|none=>0|some p=>uD s.ins p.2
def rX (ins:List (Bool×CK)) (as:List AC) (pl:List Nat) (st:St):St:=
 match pl with
 | []=>st
 |l::_=>match st.at l with
  |some (.var tid vs)=>st.Jr l (.var tid (gR ins vs as))
  |_=>st
def Ti (d:Nat):Nat:=Aaw d 999
def mQ (s:MSpec) (d:Nat):List Nat:=match s.rp with|none=> []|some _=> [Ti d]
def Rz (s:MSpec) (tks:List (Nat×Loc)) (d:Nat):List Nat:=ny s tks d++mQ s d
def o0 (H:List (Nat×OB)) (l:Nat):Bool:=match Aw H l with
 |some (.Bo _ _ _ _ _)=>true
 |_=>false
def bR (H:List (Nat×OB)) (ks:List Nat) (tks:List (Nat×Loc)):List (Nat×Nat)->List Nat
 | []=> []
 |(k,j)::r=>match tks.find? (λt=>Nat.beq t.1 (Ed false k)),ks[j]? with
  |some (_, .row l),some l'=>if Nat.beq l' l&&o0 H l then l::bR H ks tks r else bR H ks tks r
  |_,_=>bR H ks tks r
def sn (H:List (Nat×OB)) (l:Nat):Nat:=match Aw H l with
 |some (.Bo _ _ rows _ _)=>rows.length
 |_=>0
def dF (H:List (Nat×OB)) (ls:List Nat) (n:Nat):List AV->Bool
 | []=>true
 | .at (.sub l i _)::r=>(!ls.contains l||(Nat.blt i n&&Nat.blt i (sn H l)))&&dF H ls n r
 |_::r=>dF H ls n r
def Ll (ls:List Nat):List AV->List AV->List AV
 | .at (.sub l i c)::r,v::vs=>(if ls.contains l then .at (.sub l i c) else v)::Ll ls r vs
 |_::r,v::vs=>v::Ll ls r vs
 |_,vs=>vs
def Akd:Option OB->Option (Nat×Nat)
 |some (.Bo _ _ _ _ kp)=>kp
 |_=>none
def OB.II (b:OB) (kp:Option (Nat×Nat)):OB:=match b with
 | .Bo e te rows out _=> .Bo e te rows out kp
 |b=>b
def dw (H0:List (Nat×OB)) (ls:List Nat) (n:Nat):List (Nat×OB)->List (Nat×OB)
 | []=> []
 |(l,b)::r=>(l,if ls.contains l then b.II (bS n (Akd (Aw H0 l))) else b)::dw H0 ls n r
def mB (cp st:St) (ls:List Nat) (n:Nat):St:=match ls with
 | []=>st
 |_=> {tmps:=Ll ls cp.tmps st.tmps,heap:=dw cp.heap ls n st.heap}
def Afx (s:MSpec) (d:Nat) (as:List AC):Option AV:=match s.rp with
 |none=>Aq2 s.Gl s.Gz as
 |some _=>some (.at (.He (Ti d) 0))
def m6 (st st1:St) (d:Nat) (s:MSpec) (pl:List Nat) (tks:List (Nat×Loc)) (r:CKs.den s.outs):St:=
 let ks:=Rz s tks d
 let key:=Ei ks
 let st2:=rX s.ins (bV key 0 s.outs r) pl (st1.cJ (nB tks++ks++(if s.flat then [] else CO tks)) (whole tks))
 {st2 with heap:=Yb (QQ st (nB tks)) key 0 s.outs r (FW st2.heap (Ti d) (s.rp.map λtid=> .var tid ((bV key 0 s.outs r).drop s.aJ)))}
def Xr (st:St) (dst:Option Nat) (s:MSpec) (args:List AV):Option (AV×St):=
 match SI st s args with
 |none=>none
 |some (pl,vs,rest)=>match ungroup s.Hw rest with
 |none=>none
 |some oV=>match gp st 0 s.ins (vs++oV) with
  |none=>none
  |some (x,tks)=>if au (tks.map λt=>t.2.Xb)&&zF (Rz s tks (dst.getD 0)) (s.outs.length+(mQ s (dst.getD 0)).length)&&Nat.blt s.outs.length 1000&&Nat.blt s.ins.length 1000&&(Wh s.ins vs&&pl.all λl=>!((tks.map λt=>t.2.Xb)++Rz s tks (dst.getD 0)).contains l) then match s.fn x with
   |none=>none
   |some (r,o)=>match Hv s.ins o (vs++oV) st with
    |none=>none
    |some st1=>match Afx s (dst.getD 0) ((bV (Ei (Rz s tks (dst.getD 0))) 0 s.outs r).drop s.aJ) with
     |none=>none
     |some v=>if dF (m6 st st1 (dst.getD 0) s pl tks r).heap (bR st.heap (Rz s tks (dst.getD 0)) tks s.keeps) (s.Fm x) st.tmps=true then
       some (v,mB st (m6 st st1 (dst.getD 0) s pl tks r) (bR st.heap (Rz s tks (dst.getD 0)) tks s.keeps) (s.Fm x)) else none
   else none
def Mz:List Operand->St->Option St
 | [],st=>some st
 |x::r,st=>match settle st (st.ev x) with
  |some (_,st')=>Mz r st'
  |none=>none
def Oe (st:St) (p x:Operand):St:=match st.ev p with
 | .at (.He l _)=>match T.marks.contains (fY+l) with
  |true=>match Mz [x] st with
   |some s0=>s0
   |none=>st
  |false=>st
 |_=>st
def fI (s:Spec) (args:List AV):Bool:=!(s.fresh||s.res.flat||args.all (·.settled))
def evalOp (Γ:Env) (st:St) (o:Oper):Option (AV×St):=
 match o.op with
 | .assign x=>match st.ev x,o.dst,(T.elem o.type).bind λte=>(T.ty te).map λe=>(te,e) with
  | .at .Lp,some d,some (te,e)=>if d<Bp then some (.at (.own d 0 0),st.new d (.arr (T.sl||e.flat) T.yC e te [])) else none
  |v,_,_=>some (v,st)
 | .alloc t=>match o.dst,T.ty t with
  |some d,some τ=>match T.marks.contains (dZ+d) with
   |true=>ub st d t (Ps τ)
   |false=>mkVar T st d t τ (zeroCells τ)
  |_,_=>none
 | .box t x=>match o.dst,T.ty t with
  |some d,some τ=>match cellsOf τ (st.ev x) with
   |some cs=>match T.marks.contains (dZ+d) with
    |true=>if cs.all (·.settled)=true then (Fh st τ cs).map λp=>(.at (.data false (.optr τ) (some p.2)),st) else none
    |false=>mkVar T st d t τ cs
   |none=>none
  |_,_=>none
 | .store t p x=>(Ph T (Oe T st p x) t ((Oe T st p x).ev p) ((Oe T st p x).ev x)).map λs=>(.undef,s)
 | .makeSlice t l c=>match o.dst with
  |some d=>Xt T st d t (st.ev l) (st.ev c)
  |none=>none
 | .makeMap t none=>match o.dst with
  |some d=>Va T st d t
  |none=>none
 | .mapUpdate t m k x=>(Is T st t (st.ev m) (st.ev k) (st.ev x)).map λs=>(.undef,s)
 | .insert t m k x=>(Is T st t (st.ev m) (st.ev k) (st.ev x)).map λs=>(.undef,s)
 | .buildSlice t len parts=>match o.dst with
  |some d=>Iq T st d t len parts
  |none=>none
 | .build t parts=>(Xq T st t parts).map λv=>(v,st)
 | .call {callee:= .builtin .append,args,argTypes} =>match o.dst,args.toList,argTypes.toList with
  |some d,[x,y],[t,t']=>if t=t' then Rf T st d t x y else none
  |_,_,_=>none
 | .call {callee:= .builtin .copy,args,argTypes} =>match args.toList,argTypes.toList with
  | [x,y],[t,t']=>iS T st t t' (st.ev x) (st.ev y)
  |_,_=>none
 | .call {callee:= .builtin .clear,args,argTypes} =>match args.toList,argTypes.toList with
  | [x],[t]=>(evalClear T st t (st.ev x)).map λs=>(.undef,s)
  |_,_=>none
 | .call {callee:= .value (.func f),args, .. } =>match Γ f with
  |some (.m s)=>Xr st o.dst s (args.toList.map st.ev)
  |some (.q s)=>if fI s (args.toList.map st.ev) then (match Mz args.toList st with
   |some st1=>(Fl T Γ st1 o).map λv=>(v,st1)
   |none=>none) else (Fl T Γ st o).map λv=>(v,st)
  |_=>(Fl T Γ st o).map λv=>(v,st)
 |_=>(Fl T Γ st o).map λv=>(v,st)
def fM (e:Ty):Nat->List (Nat×Operand)->St->Option (Bool×List e.den)
 |_,[],_=>some (true,[])
 |i,(j,x)::r,st=>
  if i=j/\(st.ev x).settled=true then match Fv st e (st.ev x),fM e (i+1) r st with
   |some (fr,y),some (Wd,ys)=>some (fr&&Wd,y::ys)
   |_,_=>none
  else none
def bE (st:St) (t:TypeId) (len:Nat) (parts:Array (Nat×Operand)):Option AV:=
 match T.elem t with
 |none=>none
 |some te=>match T.ty te with
  |none=>none
  |some e=>if parts.size=len/\len<=64/\e.size<=64 then (fM e 0 parts.toList st).map λp=> .at (.data p.1 (.slice e) p.2) else none
def Xf (Γ:Env) (st:St) (o:Oper):Option AV:=
 match o.op with
 | .buildSlice t len parts=>bE T st t len parts
 | .build t parts=>Xq T st t parts
 |_=>Fl T Γ st o
def Aam (q:Bool) (Γ:Env) (o:Oper):Bool:=
 match o.op with
 | .buildSlice _ _ _| .build _ _=>!q
 | .alloc _| .box _ _| .store _ _ _| .makeSlice _ _ _| .makeMap _ _| .mapUpdate _ _ _ _| .insert _ _ _ _=>true
 | .assign (.const _)=>true
 | .call {callee:= .builtin .append, .. } =>true
 | .call {callee:= .builtin .copy, .. } =>true
 | .call {callee:= .builtin .clear, .. } =>true
 | .call {callee:= .value (.func f), .. } =>match Γ f with
  |some (.m _)=>true
  |_=>false
 |_=>false
def Ff (Γ:Env) (ops:Array Oper) (st:St) (o:Oper):Option St:=
 match o.guard with
 |none=>(evalOp T Γ st o).map λr=>r.2.put o.dst r.1
 |some (j,want)=>match Xj st ((ops[j]?).bind (·.dst)) with
  |some (some b)=>if b==want then (evalOp T Γ st o).map λr=>r.2.put o.dst r.1 else some (st.put o.dst (.at .skip))
  |some none=>some (st.put o.dst (.at .skip))
  |none=>none
def aR (Γ:Env) (ops:Array Oper):List Oper->St->Option St
 | [],st=>some st
 |o::r,st=>match Ff T Γ ops st o with
  |some st'=>aR Γ ops r st'
  |none=>none
def Jd (q:Bool) (Γ:Env) (ops:Array Oper):List Nat:=
 (List.range ops.size).foldl (init:= []) λacc i=>match ops[i]? with
  |some o=>if Aam q Γ o||o.after.any (λe=>Region.binds .any e&&acc.contains e.on) then acc++ [i] else acc
  |none=>acc
def cM (q:Bool) (Γ:Env) (ops:Array Oper):List Nat:=(List.range ops.size).filter λi=>!(Jd q Γ ops).contains i
def nZ (ops:Array Oper) (hd tl:List Nat) (i:Nat):Bool:=
 match ops[i]? with
 |some o=>(match o.op,o.guard with
  | .move (.tmp _),none=>true
  |_,_=>false)&&!((tl.take 1++hd).any λj=>decide (i<j)&&Region.waitsFor .any ops j i)
 |none=>false
def Wc (q:Bool) (Γ:Env) (ops:Array Oper):List Nat:=(cM q Γ ops).filter λi=>nZ ops (cM q Γ ops) (Jd q Γ ops) i
def Wf (q:Bool) (Γ:Env) (ops:Array Oper):List Nat:=(cM q Γ ops).filter λi=>!nZ ops (cM q Γ ops) (Jd q Γ ops) i
def kr (q:Bool) (Γ:Env) (ops:Array Oper):List Nat:=Wc q Γ ops++Wf q Γ ops
def Aad (ops:Array Oper) (i:Nat):Bool:=match ops[i]? with
 |some o=>(match o.op,o.guard with
  | .extract _ _,none=>true
  |_,_=>false)
 |none=>false
def oI (ops:Array Oper):List Nat->Array Bool->Bool
 | [],Aj=>(Region.ready .any ops Aj).isEmpty
 |k::r,Aj=>(decide (Region.ready .any ops Aj= [k])||(Aad ops k&&((Region.ready .any ops Aj).contains k&&Region.free .any ops Aj k)))&&oI ops r (Aj.setIfInBounds k true)
def pA (ops:Array Oper) (tl:List Nat):List Nat->Array Bool->Bool
 | [],Aj=>oI ops tl Aj
 |k::r,Aj=>(Region.ready .any ops Aj).contains k&&Region.free .any ops Aj k&&pA ops tl r (Aj.setIfInBounds k true)
def uM (ops:Array Oper) (hd:List Nat):List Nat->Bool
 | []=>true
 |f::r=>(hd.all λi=>(f::hd).any λj=>decide (i<j)&&Region.waitsFor .any ops j i)&&r.all λt=>(f::r).any λk=>Region.waitsFor .any ops t k
def nP (ops:Array Oper) (tl hd:List Nat):List Nat->Array Bool->Bool
 | [],Aj=>pA ops tl hd Aj
 |k::r,Aj=>(Region.ready .any ops Aj).contains k&&Region.free .any ops Aj k&&nP ops tl hd r (Aj.setIfInBounds k true)
def cT (q:Bool) (Γ:Env) (ops:Array Oper):Bool:=
 Region.noSelect ops&&((Wc q Γ ops).length+((Wf q Γ ops).length+(Jd q Γ ops).length)==ops.size)&&nP ops (Jd q Γ ops) (Wf q Γ ops) (Wc q Γ ops) (Array.replicate ops.size false)&&uM ops (Wf q Γ ops) (Jd q Γ ops)
def Xd (Γ:Env) (ops:Array Oper) (st:St) (o:Oper):Option AV:=
 match o.guard with
 |none=>Xf T Γ st o
 |some (j,want)=>match Xj st ((ops[j]?).bind (·.dst)) with
  |some (some b)=>if b==want then Xf T Γ st o else some (.at .skip)
  |some none=>some (.at .skip)
  |none=>none
def Gc (Γ:Env) (ops:Array Oper):List Nat->St->Option St
 | [],st=>some st
 |i::r,st=>match ops[i]? with
  |none=>none
  |some o=>match Xd T Γ ops st o with
   |some v=>Gc Γ ops r (st.put o.dst v)
   |none=>none
def Mq (Γ:Env) (ops:Array Oper):List Nat->St->Option St
 | [],st=>some st
 |i::r,st=>match ops[i]? with
  |none=>none
  |some o=>match Ff T Γ ops st o with
   |some st'=>Mq Γ ops r st'
   |none=>none
def Rh (Γ:Env) (ops:Array Oper) (draw:Bool) (st:St):Option St:=
 if draw then (if cT false Γ ops then (match Gc T Γ ops (kr false Γ ops) st with
  |some st'=>Mq T Γ ops (Jd false Γ ops) st'
  |none=>none) else if cT true Γ ops then (match Gc T Γ ops (kr true Γ ops) st with
  |some st'=>Mq T Γ ops (Jd true Γ ops) st'
  |none=>none) else none)
 else aR T Γ ops ops.toList st
def zy (ops:Array Oper) (i:Nat):Bool:=match ops[i]? with
 |some o=>(match o.op,o.guard with
  | .move (.tmp _),none=>true
  |_,_=>false)
 |none=>false
def ky (ops:Array Oper) (i:Nat):Bool:=match ops[i]? with
 |some o=>(match o.op,o.guard with
  | .move (.tmp _),none=>true
  | .nilCheck _,none=>true
  | .fieldAddr _ _ _,none=>true
  |_,_=>false)
 |none=>false
def Aq8 (q:Bool) (ops:Array Oper) (i:Nat):Bool:=match q with
 |true=>ky ops i
 |false=>zy ops i
def Ja (q:Bool) (ops:Array Oper):List Nat->Array Bool->List Nat
 | [],_=> []
 |i::r,Aj=>if Aq8 q ops i&&((Region.ready .any ops Aj).contains i&&Region.free .any ops Aj i) then i::Ja q ops r (Aj.setIfInBounds i true) else Ja q ops r Aj
def Aas (q:Bool) (ops:Array Oper):List Nat:=Ja q ops (List.range ops.size) (Array.replicate ops.size false)
def ki (q:Bool) (ops:Array Oper):Bool:=Nat.ble (ops.size-(Aas q ops).length) 8
def Ki (ops:Array Oper):List Nat:=Aas (!ki false ops) ops
def Eo:List Nat->Array Bool->Array Bool
 | [],Aj=>Aj
 |i::r,Aj=>Eo r (Aj.setIfInBounds i true)
def anyS (Γ:Env) (ops:Array Oper) (K:St->Prop):Nat->Array Bool->St->Prop
 |0,Aj,st=>Region.ready .any ops Aj= []/\K st
 |f+1,Aj,st=>Region.ready .any ops Aj≠ []/\ ∀i∈Region.ready .any ops Aj,∃o st',ops[i]?=some o/\Ff T Γ ops st o=some st'/\anyS Γ ops K f (Aj.setIfInBounds i true) st'
def kz (ops:Array Oper) (i:Nat):Bool:=match ops[i]? with
 |some o=>(match o.op,o.guard with
  | .move _,none=>true
  | .load _ _,none=>true
  | .indexAddr _ _ _,none=>true
  | .fieldAddr _ _ _,none=>true
  |_,_=>false)
 |none=>false
def kD (ops:Array Oper):List Nat->Array Bool->List Nat
 | [],_=> []
 |i::r,Aj=>if kz ops i&&((Region.ready .any ops Aj).contains i&&Region.free .any ops Aj i) then i::kD ops r (Aj.setIfInBounds i true) else kD ops r Aj
def qo (ops:Array Oper) (i j:Nat) (p:Oper->Oper->Bool):Bool:=match ops[i]?,ops[j]? with
 |some x,some y=>p x y
 |_,_=>false
def oQ (ops:Array Oper) (x y:Oper):Bool:=match x.dst with
 |some d=>!(y.looksAt ops).contains d
 |none=>true
def LF (x y:Oper):Bool:=match x.dst with
 |some d=>y.dst !=some d
 |none=>true
def jz (ops:Array Oper):List Nat->Array Bool->Bool
 | [],_=>true
 |r::E,Aj=>(Region.ready .any ops Aj).contains r&&jz ops E (Aj.setIfInBounds r true)
def AH (ops:Array Oper):List Nat->Bool
 | []=>true
 |r::E=>(qo ops r r (oQ ops)&&E.all λq=>qo ops r q (λx y=>LF x y&&oQ ops y x)&&(Region.waitsFor .any ops q r||qo ops r q (oQ ops)))&&AH ops E
def Ae2 (ops:Array Oper) (E:List Nat) (L0:Array Bool):Bool:=E.all λr=>(List.range ops.size).all λj=>E.contains j||L0.getD j false||Region.waitsFor .any ops j r||qo ops r j (λx y=>x.apart ops y)
def cU (ops:Array Oper) (E:List Nat) (L0:Array Bool):Bool:=(E.all (kz ops)&&jz ops E L0)&&(AH ops E&&Ae2 ops E L0)
def sv (ops:Array Oper) (E:List Nat) (Aj:Array Bool) (r:Nat):Bool:=(List.range ops.size).any λj=>!E.contains j&&(Aj.getD j false&&Region.waitsFor .any ops j r)
def Ac2 (Γ:Env) (ops:Array Oper) (E:List Nat) (Aj:Array Bool) (st:St):Prop:=
 ∀r∈E,sv ops E Aj r=true\/ ∃o v,ops[r]?=some o/\Xd T Γ ops st o=some v/\ ∀d,o.dst=some d->st.get d=v
def rK (Γ:Env) (ops:Array Oper) (E:List Nat) (K:St->Prop):Nat->Array Bool->St->Prop
 |0,Aj,st=>Ac2 T Γ ops E Aj st/\Region.ready .any ops Aj= []/\K st
 |f+1,Aj,st=>Ac2 T Γ ops E Aj st/\Region.ready .any ops Aj≠ []/\ ∀i∈Region.ready .any ops Aj,∃o st',ops[i]?=some o/\Ff T Γ ops st o=some st'/\rK Γ ops E K f (Aj.setIfInBounds i true) st'
def Ae1 (Γ:Env) (ops:Array Oper) (K:St->Prop) (n:Nat) (L0:Array Bool) (cp:St):Prop:=
 ∃E st1,cU ops E L0=true/\E.length<=n/\Gc T Γ ops E cp=some st1/\rK T Γ ops E K (n-E.length) (Eo E L0) st1
def AO (Γ:Env) (draw:Bool):Env:= λf=>match Γ f with
 |some (.b s m)=>some (if draw then .q s else .m m)
 |r=>r
inductive Lh where
 |normal
 |exit (id:Nat)
 |ret
def Ia (live:List Nat):Nat->List AV->List AV
 |_,[]=> []
 |i,v::r=>(if live.contains i then v else .undef)::Ia live (i+1) r
def AV.refs:AV->List Nat
 | .at a=>a.refs
 | .agg cs=>cs.flatMap AC.refs
 | .bp _ _ _=> []
 | .Mn l=>l.flatMap λp=>p.2.flatMap AC.refs
def OB.refs:OB->List Nat
 | .var _ vs=>vs.flatMap AC.refs
 |_=> []
def bg:List Nat->St->St
 | [],st=>st
 |l::r,st=>bg r (st.forget l)
def pW (l k m:Nat):Nat:=if m=l then k else m
def Vi (l k:Nat):AC->AC
 | .own m off len=> .own (pW l k m) off len
 | .He m i=> .He (pW l k m) i
 | .Jv m i=> .Jv (pW l k m) i
 | .clo f Ek=> .clo f (Ek.map λp=>(pW l k p.1,p.2))
 | .Kh m=> .Kh (pW l k m)
 | .sub m i c=> .sub (pW l k m) i c
 | .Js m i c=> .Js (pW l k m) i c
 |a=>a
def St.rename (l k:Nat) (st:St):St:=
 match Aw st.heap k,Aw st.heap l with
 |none,some b=>if (Nat.blt l Bp&&Nat.blt k Bp)=true then
   (let s:=st.Kv (Vi l k); {s with heap:=Nz (aF s.heap l) k (b.map (Vi l k))}) else st
 |_,_=>st
def Ml:Nat->Nat->St->St
 |0,_,st=>st
 |n+1,t,st=>Ml n (t+1) (match st.get t with
  | .at (.own l _ _)=>match Aw st.heap l with
   |some (.arr _ _ _ _ _)=>if (st.tmps.take t).any (λv=>v.refs.contains l) then st else st.rename l (700000+t)
   |_=>st
  |_=>st)
def cX:Nat:=1000000007
def AC.Aig (flat:Bool):AC->AC
 | .data fr τ x=> .data (fr&&!(flat&&τ.flat)) τ x
 |c=>c
def OB.Ii (flat all one:Bool):OB->OB
 | .arr fr tr e tid xs=> .arr (fr&&!(all||(one||(flat&&e.flat)))) (tr&&!all) e tid xs
 | .var tid vs=> .var tid (vs.map (AC.Aig flat))
 |b=>b
def ak:Nat:=1000000009
def JM:Nat:=1100000000
def vI:Nat:=1200000000
def St.Ii (live:List Nat) (st:St):St:= {st with heap:=st.heap.map λp=>(p.1,p.2.Ii (live.contains ak) (live.contains (JM+p.1)) (live.contains (vI+p.1)))}
def Mk:Nat:=900000000
def bX (t:Nat) (st:St):St:=match st.get t with
 | .at (.own l off len)=>match Aw st.heap l with
  |some (.arr fr tr e tid xs)=>if Nat.blt l Bp=true then (st.new l (.arr fr tr e tid ((xs.drop off).take len))).put (some t) (.at (.own l 0 ((xs.drop off).take len).length)) else st
  |_=>st
 |_=>st
def Ov:Nat:=1900000000
def YQ:Nat:=950000000
def Pp (c:Nat) (st:St):St:=match Aw st.heap Ov with
 |some (.var _ vs)=>match vs[c]? with
  |some (.own l off len)=>match Aw st.heap l with
   |some (.arr fr tr e te xs)=>if Nat.blt l Bp=true then match Aw (st.new l (.arr fr tr e te ((xs.drop off).take len))).heap Ov with
     |some (.var tid vs')=>(st.new l (.arr fr tr e te ((xs.drop off).take len))).Jr Ov (.var tid (vs'.set c (.own l 0 ((xs.drop off).take len).length)))
     |_=>st
    else st
   |_=>st
  |_=>st
 |_=>st
def Pe (live:List Nat):Nat->Nat->St->St
 |0,_,st=>st
 |n+1,c,st=>Pe live n (c+1) (if live.contains (YQ+c) then Pp c st else st)
def Oq (live:List Nat):Nat->Nat->St->St
 |0,_,st=>Pe live 16 0 st
 |n+1,t,st=>Oq live n (t+1) (if live.contains (Mk+t) then bX t st else st)
def St.clean (live:List Nat) (st:St):St:=
 let s:St:= {st with tmps:=Ia live 0 st.tmps}
 let r1:=s.tmps.flatMap AV.refs
 let r2:=r1++(s.heap.filter λp=>r1.contains p.1).flatMap λp=>p.2.refs
 let s2:=bg ((s.heap.map (·.1)).filter λl=>!r2.contains l&&Nat.blt l Bp) s
 let s2:=if live.any (λt=>Nat.ble Mk t&&Nat.blt t cX) then Oq live s2.tmps.length 0 s2 else s2
 let s3:=if live.contains cX then Ml s2.tmps.length 0 s2 else s2
 if live.any (λt=>Nat.ble ak t) then s3.Ii live else s3
def Fg:Code->Nat
 | .region id _ _=>id
 | .seq a _=>Fg a
 | .cond _ a _=>Fg a
 | .block _ c=>Fg c
 | .loop c=>1000+Fg c
 |_=>0
def Ain (a b:List Nat):List Nat:=a++b.filter λt=>!a.contains t
def zK:List Oper->List Nat->List Nat
 | [],out=>out
 |o::r,out=>Ain (o.op.operands.toList.filterMap λ | .tmp t=>some t|_=>none) (match o.dst with|some d=>(zK r out).filter (·!=d)|none=>zK r out)
def LG:List (Nat×List Nat)->Nat->List Nat
 | [],_=> []
 |(k,l)::r,id=>if k=id then l else LG r id
def qU:Code->List (Nat×List Nat)->List Nat->List Nat->List Nat×List (Nat×List Nat)
 | .region _ ops _,_,_,out=>(zK ops.toList out,[])
 | .seq a b,env,ret,out=>let rb:=qU b env ret out;let ra:=qU a env ret rb.1;(ra.1,ra.2++rb.2)
 | .cond c a b,env,ret,out=>let ra:=qU a env ret out;let rb:=qU b env ret out
  (Ain (match c with| .tmp t=> [t]|_=> []) (Ain ra.1 rb.1),ra.2++rb.2)
 | .block id c,env,ret,out=>qU c ((id,out)::env) ret out
 | .exit id,env,_,_=>(LG env id,[])
 | .ret,_,ret,_=>(ret,[])
 | .loop c,env,ret,_=>let l:=(qU c env ret []).1;let r:=qU c env ret l;(l,(Fg c,l)::r.2)
 |_,_,_,out=>(out,[])
def zL:List ResultVar->List Nat
 | []=> []
 | .tmp t::r=>t::zL r
 | .cell p _::r=>p::zL r
def zJ (marks:List Nat) (fn:Func) (c:Code):Nat->List Nat:=let ret:=zL fn.results.toList;let g:=LG (qU c [] ret ret).2;match marks with
 | []=>g
 |m=> λid=>g id++m
def St.Qc (dead:List Nat) (st:St):St:=
 let s:St:= {st with tmps:=Ia ((List.range st.tmps.length).filter λt=>!dead.contains t) 0 st.tmps}
 let r1:=s.tmps.flatMap AV.refs
 let r2:=r1++(s.heap.filter λp=>r1.contains p.1).flatMap λp=>p.2.refs
 bg ((s.heap.map (·.1)).filter λl=>!r2.contains l&&Nat.blt l Bp) s
def Yy (ops:Array Oper) (t:Nat):Bool:=ops.toList.any λo=>o.dst==some t
def kY (Γ:Env) (ops:Array Oper) (draw:Bool) (st:St) (K:St->Prop):Prop:=
 (∃st',Rh T Γ ops draw st=some st'/\K st')\/
 (draw=true/\Region.noSelect ops=true/\ ∃cp,Gc T Γ ops (Ki ops) st=some cp/\
  (anyS T Γ ops K (ops.size-(Ki ops).length) (Eo (Ki ops) (Array.replicate ops.size false)) cp\/Ae1 T Γ ops K (ops.size-(Ki ops).length) (Eo (Ki ops) (Array.replicate ops.size false)) cp))
def yK (Γ:Env) (ops:Array Oper) (draw:Bool) (st:St) (K:St->Prop):Prop:=
 kY T Γ ops draw st K\/ ∃dead:List Nat,(dead.all (Yy ops))=true/\kY T Γ ops draw st λs=>K (s.Qc dead)
def MY (K:St->Prop) (Q:Lh->St->Prop):Lh->St->Prop
 | .normal,s=>K s
 |e,s=>Q e s
def xA (id:Nat) (Q:Lh->St->Prop):Lh->St->Prop
 | .exit UA,s=>if UA=id then Q .normal s else Q (.exit UA) s
 |e,s=>Q e s
def Abp (ops:Array Oper) (t:Nat):Bool:=ops.toList.any λo=>match o.op with
 | .extract (.tmp s) _=>Nat.beq s t
 | .move (.tmp s)=>Nat.beq s t
 | .assign (.tmp s)=>Nat.beq s t
 |_=>false
def Oj (ops:Array Oper):Nat->List AV->List AV
 |_,[]=> []
 |i, .Mn l::r=>(if Abp ops i=true then .Mn l else .undef)::Oj ops (i+1) r
 |i,v::r=>v::Oj ops (i+1) r
def St.nA (ops:Array Oper) (st:St):St:= {st with tmps:=Oj ops 0 st.tmps}
inductive Nx (Γ:Env) (live:Nat->List Nat):Code->St->(Lh->St->Prop)->Prop where
 |skip {st:St} {Q:Lh->St->Prop} :Q .normal st->Nx Γ live .skip st Q
 |label {l:Nat} {st:St} {Q:Lh->St->Prop} :Q .normal st->Nx Γ live (.label l) st Q
 |exit {id:Nat} {st:St} {Q:Lh->St->Prop} :Q (.exit id) st->Nx Γ live (.exit id) st Q
 |ret {st:St} {Q:Lh->St->Prop} :Q .ret st->Nx Γ live .ret st Q
 |region {id:Nat} {ops:Array Oper} {draw:Bool} {st:St} {Q:Lh->St->Prop} :yK T (AO Γ draw) ops draw (st.nA ops) (Q .normal)->Nx Γ live (.region id ops draw) st Q
 |seq {x y:Code} {st:St} {Q:Lh->St->Prop} (Q1:Lh->St->Prop):Nx Γ live x st Q1->(∀s,Q1 .normal s->Nx Γ live y s Q)->(∀e s,e≠ .normal->Q1 e s->Q e s)->Nx Γ live (.seq x y) st Q
 |cond {c:Operand} {x y:Code} {st:St} {fr t:Bool} {Q:Lh->St->Prop} :st.ev c= .at (.data fr .bool t)->(t=true->Nx Γ live x st Q)->(t=false->Nx Γ live y st Q)->Nx Γ live (.cond c x y) st Q
 |block {id:Nat} {c:Code} {st:St} {Q:Lh->St->Prop} (Q1:Lh->St->Prop):Nx Γ live c st Q1->(∀e s,Q1 e s->xA id Q e s)->Nx Γ live (.block id c) st Q
 |loop {c:Code} {st:St} {Q:Lh->St->Prop} (Q1:Lh->St->Prop):Nx Γ live c (st.clean (live (Fg c))) Q1->(∀s,Q1 .normal s->Nx Γ live (.loop c) s Q)->(∀e s,e≠ .normal->Q1 e s->Q e s)->Nx Γ live (.loop c) st Q
def dA (st:St):List ResultVar->Option (List AV)
 | []=>some []
 | .tmp t::r=>(dA st r).map λl=>st.get t::l
 | .cell p t::r=>match Px T st t (st.get p),dA st r with
  |some v,some l=>some (v::l)
  |_,_=>none
def nL (s:Spec) (fn:Func) (st:St):Option (Bool×s.res.den):=
 match dA T st fn.results.toList with
 |some [v]=>if s.Gl then none else Fv st s.res v
 |some [v,u]=>if s.Gl then Ec st s.res [v,u] else none
 |some [v,u,t]=>if s.Gl then Ec st s.res [v,u,t] else none
 |_=>none
def Sw:(τ:Ty)->τ.den->List AV
 | .pair a r,x=> .at (.data a.flat a x.1)::Sw r x.2
 |_,_=> []
def kV (st:St):(c:CK)->AC->Option (c.den×List Nat)
 | .Fe τ,a=>if τ.flat||a.settled then (Dx st τ a).map λp=>(p.2,[]) else none
 | .row e te, .own l off len=>match st.at l with
  |some (.arr _ _ e' Qx xs)=>if h:e'=e/\Qx=te then some ((((h.1▸xs:List e.den).drop off).take len),[l]) else none
  |_=>none
 | .row _ _, .Lp=>some ([],[])
 | .Ho e te, .own l off len=>match st.at l with
  |some (.arr _ tr e' Qx xs)=>if h:e'=e/\Qx=te/\(tr||e.flat)=true then some ((((h.1▸xs:List e.den).drop off).take len),[l]) else none
  |some (.Gx e' Qx xs)=>if h:e'=e/\Qx=te then some ((((h.1▸xs:List e.den).drop off).take len),[l]) else none
  |_=>none
 | .Ho _ _, .Lp=>some ([],[])
 | .Bo e te _, .own l off len=>match st.at l with
  |some (.Bo e' Qx rows none _)=>if h:e'=e/\Qx=te/\off=0/\len=rows.length then some ((h.1▸rows:List (List e.den)),[l]) else none
  |_=>none
 |_,_=>none
def Vg (st:St):(cs:List CK)->List AC->Option (CKs.den cs×List Nat)
 | [],[]=>some ((),[])
 |c::r,a::as=>match kV st c a,Vg st r as with
  |some (x,t1),some (y,t2)=>some ((x,y),t1++t2)
  |_,_=>none
 |_,_=>none
def qz (st:St) (l:Nat):(c:CK)->Option c.den
 | .Fe _=>none
 | .row e te=>match st.at l with
  |some (.arr _ _ e' Qx xs)=>if h:e'=e/\Qx=te then some (h.1▸xs) else none
  |_=>none
 | .Ho e te=>match st.at l with
  |some (.Gx e' Qx xs)=>if h:e'=e/\Qx=te then some (h.1▸xs) else none
  |_=>none
 | .part _ _=>none
 | .Bo _ _ _=>none
def Oh (st:St):(k:Nat)->(cs:List (Bool×CK))->Option (IOs.den cs)
 |_,[]=>some ()
 |k,(true, .Fe _)::r=>Oh st (k+1) r
 |k,(true, .Bo _ _ _)::r=>Oh st (k+1) r
 |k,(true, .row e te)::r=>match qz st (Ed true k) (.row e te),Oh st (k+1) r with
  |some x,some y=>some (x,y)
  |_,_=>none
 |k,(true, .Ho e te)::r=>match qz st (Ed true k) (.Ho e te),Oh st (k+1) r with
  |some x,some y=>some (x,y)
  |_,_=>none
 |k,(true, .part e te)::r=>match qz st (Ed true k) (.row e te),Oh st (k+1) r with
  |some x,some y=>some (x,y)
  |_,_=>none
 |k,(false,_)::r=>Oh st (k+1) r
def Pl:(k:Nat)->List (Bool×CK)->List Nat
 |_,[]=> []
 |k,(true, .Fe _)::r=>Pl (k+1) r
 |k,(true, .Bo _ _ _)::r=>Pl (k+1) r
 |k,(true,_)::r=>Ed true k::Pl (k+1) r
 |k,(false,_)::r=>Pl (k+1) r
def Ix:(k:Nat)->List (Bool×CK)->List AC->Option (List AC)
 |_,_,[]=>some []
 |k,(true, .row _ _)::r, .own l _ _::as=>if Nat.beq l (Ed true k) then Ix (k+1) r as else none
 |k,(true, .Ho _ _)::r, .own l _ _::as=>if Nat.beq l (Ed true k) then Ix (k+1) r as else none
 |k,(false,_)::r,a::as=>(Ix (k+1) r as).map λl=>a::l
 |_,_,_=>none
def je (st:St):List AC->List (Bool×CK)->Prop
 | .own l off len::as,(true,_)::r=>(off=0/\match st.at l with
  |some (.arr _ _ _ _ xs)=>len=xs.length
  |some (.Gx _ _ xs)=>len=xs.length
  |_=>False)/\je st as r
 |_::as,(false,_)::r=>je st as r
 |_,_=>True
def NW (s:MSpec) (st:St) (l:List AV):Option (List AC×List Nat):=match s.rp with
 |none=>if s.Gl=Nat.blt 1 l.length then (ungroup s.Gz l).map λas=>(as,[]) else none
 |some tid=>match l with
  | [.at (.He m i)]=>match st.at m with
   |some (.var Ux vs)=>if Ux=tid/\i=0/\Nat.blt m Bp=true then some (vs,[m]) else none
   |_=>none
  |_=>none
def xF (st:St) (n:Nat) (as:List AC):List (Nat×Nat)->Prop
 | []=>True
 |(k,j)::r=>(match as[j]? with
  |some (.own l _ _)=>match st.at l with
   |some (.Bo _ _ _ _ (some p))=>p.1=Ed false k/\n<=p.2/\Nat.blt k 1000=true
   |_=>False
  |_=>False)/\xF st n as r
def kF (s:MSpec) (fn:Func) (x:Ins.den s.ins) (st:St) (cs:List AC) (P:CKs.den s.outs×IOs.den s.ins->Prop):Prop:=
 match dA T st fn.results.toList with
 |none=>False
 |some l=>match NW s st l with
  |none=>False
  |some (as,ml)=>match Vg st s.outs (cs++as),Oh st 0 s.ins with
   |some (r,ls),some o=>(au (ml++ls++Pl 0 s.ins)&&Nat.blt s.ins.length 1000&&Nat.blt s.outs.length 1000&&s.Aar)=true/\xF st (s.Fm x) (cs++as) s.keeps/\P (r,o)
   |_,_=>False
def XZ (s:MSpec) (fn:Func) (x:Ins.den s.ins) (st:St) (P:CKs.den s.outs×IOs.den s.ins->Prop):Prop:=
 match s.ptr with
 |none=>kF T s fn x st [] P
 |some p=> ∃vs cs,st.at Ov=some (.var p.1 vs)/\vs.length=p.2/\Ix 0 s.ins vs=some cs/\je st vs s.ins/\kF T s fn x st cs P
def aG (s:MSpec) (as:List AC):List AV:=match s.ptr with
 |none=>Sz s.Hw as
 |some p=> .at (.He Ov 0)::Sz s.Hw (as.drop p.2)
def qQ (s:MSpec) (x:Ins.den s.ins):List (Nat×OB):=match s.ptr with
 |none=>Zv 0 s.ins x
 |some p=>Zv 0 s.ins x++ [(Ov, .var p.1 ((bP 0 s.ins x).take p.2))]
def a5:List (Bool×CK)->Bool
 | []=>true
 |(true, .Bo _ _ _)::_=>false
 |_::r=>a5 r
def AJ (s:MSpec):Bool:=a5 s.ins&&match s.ptr with
 |none=>true
 |some p=>Nat.ble p.2 s.ins.length
def Agr (Γ:Env) (s:MSpec) (fn:Func) (x:Ins.den s.ins) (P:CKs.den s.outs×IOs.den s.ins->Prop):Prop:=
 (Nat.blt s.ins.length 1000&&AJ s)=true/\ ∃c,fn.body=some c/\Nx T Γ (zJ T.marks fn c) c {tmps:=aG s (bP 0 s.ins x)++List.replicate (fn.ntmps-(aG s (bP 0 s.ins x)).length) .undef,heap:=qQ s x}
  (λe st=>(∀id,e≠ .exit id)/\XZ T s fn x st P)
def YA (Γ:Env) (s:Spec) (fn:Func) (x:s.arg.den) (P:s.res.den->Prop):Prop:=
 ∃c,fn.body=some c/\Nx T Γ (zJ T.marks fn c) c {tmps:=Sw s.arg x++List.replicate (fn.ntmps-(Sw s.arg x).length) .undef,heap:= []}
  (λe st=>(∀id,e≠ .exit id)/\ ∃fr y,nL T s fn st=some (fr,y)/\(fr||!s.fresh)=true/\P y)
end Go.Proofs.Ytkkdpknjohcekaa
