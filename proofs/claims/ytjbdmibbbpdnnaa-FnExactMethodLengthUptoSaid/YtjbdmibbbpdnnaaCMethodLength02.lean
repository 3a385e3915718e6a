/-
  Part 3 of the proof that the statement FnExactMethodLength holds.
-/
import Derived.Test.YtjbdmibbbpdnnaaCMethodLength01
namespace Go.Proofs.Ytjbdmibbbpdnnaa
open Go.RowKit
def Du:Nat->St->List AC->Option (List AC×St)
 |0,st,cs=>if cs.all (·.settled) then some (cs,st) else none
 |n+1,st,cs=>
  match cs.find? (λc=>!c.settled) with
  |none=>some (cs,st)
  |some (.own l _ _)=>match st.at l with
   |some (.arr fr _ e _ xs)=>Du n (st.freeze l fr e xs) (cs.map (Bb l fr e xs))
   |some (.Dj e _ xs)=>Du n (st.freeze l false e xs) (cs.map (Bb l false e xs))
   |_=>none
  |some (.Gi l)=>match st.at l with
   |some (.On v m)=>Du n (st.En l v m) (cs.map (Dm l v m))
   |_=>none
  |some _=>none
def settle (st:St):AV->Option (AV×St)
 | .at (.own l off len)=>match st.at l with
  |some (.arr fr _ e _ xs)=>some (.at (.data fr (.slice e) ((xs.drop off).take len)),st.freeze l fr e xs)
  |some (.Dj e _ xs)=>some (.at (.data false (.slice e) ((xs.drop off).take len)),st.freeze l false e xs)
  |_=>none
 | .at (.Gi l)=>match st.at l with
  |some (.On v m)=>some (.at (.data false (.smap v) m),st.En l v m)
  |_=>none
 | .at a=>if a.settled then some (.at a,st) else none
 | .agg cs=>(Du cs.length st cs).map λp=>(.agg p.1,p.2)
 | .Uk fr τ x=>some (.Uk fr τ x,st)
 | .Jg _=>none
def AC.refs:AC->List Nat
 | .own l _ _| .Dz l _| .Gc l _| .Gi l| .sub l _ _| .Ga l _ _=> [l]
 | .clo _ Bx=>Bx.map (·.1)
 |_=> []
def Su:List Nat->Bool
 | []=>true
 |a::r=>!r.contains a&&Su r
def Ty.tree:Ty->Bool
 | .int _| .bool| .str| .unit=>true
 | .slice e=>e.tree
 | .pair a r=>a.tree&&r.tree
 |_=>false
def Ls (st:St):AC->Bool
 | .data _ τ _=>τ.flat
 | .Hk=>true
 | .own l _ _=>match st.at l with
  |some (.arr _ tr e _ _)=>tr||e.flat
  |some (.Dj _ _ _)=>true
  |_=>false
 |_=>false
def Mu (st:St):AV->Bool
 | .at a=>Ls st a
 | .agg cs=>cs.all (Ls st)&&Su (cs.flatMap AC.refs)
 |_=>false
def Ai:Nat:=1000000000
variable (T:Tab)
def AZ (t:TypeId) (τ:Ty) (i:Nat):Option TypeId:=
 if τ.Ac then (List.range 24).findSome? λf=>match T.off t f with
  |some (o,u)=>if o=i then some u else none
  |none=>none
 else some t
def Tab.BL (te:TypeId):Option Ty:=if T.SR.contains te then (match T.ty te with
 |some (.slice e)=>some e
 |_=>none) else none
def Yb (te:TypeId) (e:Ty):OB:=match T.BL te with
 |some e'=> .Ak e' te [] none none
 |none=> .arr (T.mK||e.flat) T.ur e te []
def Ns (b:OB) (key l i:Nat) (st:St):St:=
 match st.at l with
 |some (.var _ vs)=>match vs[i]? with
  |some .Hk=>
   let s1:=st.new key b
   match s1.at l with
   |some (.var tid uO)=>s1.Gf l (.var tid (Nv uO i (.own key 0 0)))
   |_=>s1
  |_=>st
 |_=>st
def aA (l:Nat) (t:TypeId) (τ:Ty):Nat->Nat->St->St
 |0,_,st=>st
 |n+1,i,st=>
  aA l t τ n (i+1) (match ((AZ T t τ i).bind T.elem).bind λte=>(T.ty te).map λe=>(te,e) with
   |some (te,e)=>Ns (Yb T te e) (100000+l*100+i) l i st
   |none=>st)
def Yv (l off:Nat) (t:TypeId) (τ:Ty):Nat->Nat->St->St
 |0,_,st=>st
 |n+1,i,st=>
  Yv l off t τ n (i+1) (match ((AZ T t τ i).bind T.elem).bind λte=>(T.ty te).map λe=>(te,e) with
   |some (te,e)=>Ns (Yb T te e) (100000+l*100+(off+i)) l (off+i) st
   |none=>st)
def zeroCells:(τ:Ty)->List AC
 | .unit=> []
 | .pair a r=>zeroCells a++zeroCells r
 | .slice _=> [.Hk]
 | .oslice _=> [.Hk]
 | .ptr _=> [.Pw]
 | .optr _=> [.Pw]
 | .clo _ _=> [.undef]
 |τ=> [.data true τ τ.zero]
def cellsOf (τ:Ty):AV->Option (List AC)
 | .agg cs=>if τ.Ac&&cs.length==τ.size then some cs else none
 | .at (.data fr Ji x)=>if Ji=τ then some (Lx fr Ji x) else none
 | .at .undef=>none
 | .at .skip=>none
 | .at a=>if τ.Ac then none else some [a]
 |_=>none
def mkVar (st:St) (l:Nat) (t:TypeId) (τ:Ty) (cs:List AC):Option (AV×St):=
 if Ai<=100000+l*100+cs.length then none else
 let s:=aA T l t τ cs.length 0 (st.new l (.var t (cs.map (Ba l))))
 match s.at l with
 |some (.var _ _)=>some (.at (.Dz l 0),s)
 |_=>none
def Bh {α:Type} (xs:List α) (i:Nat) (ys:List α):List α:=xs.take i++ys++xs.drop (i+ys.length)
def Nz (st:St) (t:TypeId) (p v:AV):Option St:=
 match T.ty t,p with
 |some τ, .at (.Dz l i)=>match st.at l,cellsOf τ v with
  |some (.var tid vs),some cs=>if i+cs.length<=vs.length then some (if τ.Ac&&Nat.blt (100000+l*100+(i+cs.length)) Ai then Yv T l i t τ cs.length 0 (st.Gf l (.var tid (Bh vs i cs))) else st.Gf l (.var tid (Bh vs i cs))) else none
  |_,_=>none
 |some τ, .at (.Gc l j)=>match settle st v with
  |some (v',st')=>match st'.at l,Ct st' τ v' with
   |some (.arr fr tr e tid xs),some (Ow,x)=>if h:τ=e then (if j<xs.length then some (st'.Gf l (.arr (fr&&Ow) (tr&&(Mu st v&&e.tree)) e tid (xs.set j (h▸x)))) else none) else none
   |_,_=>none
  |none=>none
 |_,_=>none
def Bp:Nat:=4294967296
def Iy (st:St) (dst:Nat) (t:TypeId) (x y:Operand):Option (AV×St):=
 match T.elem t with
 |none=>none
 |some te=>match T.ty te,settle st (st.ev y) with
  |some e,some (y',st')=>match Ct st' (.slice e) y' with
   |none=>none
   |some (lN,ys)=>
    let tr2:=e.flat||(Mu st (st.ev y)&&e.tree)
    match st'.ev x with
    | .at .Hk=>if ys.length<=Bp/\dst<Ai then some (.at (.own dst 0 (0+ys.length)),(st'.new dst (.arr (T.mK||e.flat) T.ur e te [])).new dst (.arr ((T.mK||e.flat)&&(lN||e.flat)) (T.ur&&tr2) e te (((([]:List e.den).drop 0).take 0)++ys))) else none
    | .at (.own l off len)=>match st'.at l with
     |some (.arr fr tr e' tid xs)=>if h:e'=e/\tid=te then
       (if len+ys.length<=Bp/\l<Ai then
        some (.at (.own l 0 (len+ys.length)),st'.new l (.arr (fr&&(lN||e.flat)) (tr&&tr2) e te ((((h.1▸xs:List e.den).drop off).take len)++ys))) else none)
      else none
     |_=>none
    |_=>none
  |_,_=>none
def Kj (st:St) (l i m:Nat) (e:Ty) (te tid:TypeId) (rows:List (List e.den)) (kp:Option (Nat×Nat)):St:=
 (st.Gf l (.Ak e te rows (some i) kp)).new m (.arr false false e tid (rows.getD i []))
def Lj (st:St) (dst:Nat) (t:TypeId) (x y:Operand):Option (AV×St):=
 match x with
 | .tmp tx=>match st.get tx with
  | .at (.sub l i _)=>match st.at l,T.elem t with
   |some (.Ak e te rows none kp),some tid=>if (Nat.blt l Ai&&(Nat.blt dst Ai&&!Nat.beq dst l))=true then Iy T ((Kj st l i dst e te tid rows kp).put (some tx) (.at (.own dst 0 (rows.getD i []).length))) dst t x y else none
   |_,_=>none
  |_=>Iy T st dst t x y
 |_=>Iy T st dst t x y
def gz:Ty->Bool
 | .int _| .bool| .str| .slice _| .oslice _=>true
 |_=>false
def aX:Ty->Bool
 | .unit=>true
 | .pair a r=>aX a&&aX r
 |e=>gz e
def Uv (st:St) (dst:Nat) (t:TypeId) (l c:AV):Option (AV×St):=
 match T.elem t,l,c with
 |some te, .at (.data _ (.int _) n), .at (.data _ (.int _) m)=>match T.ty te with
  |some e=>if UA n (Bp+1)=true/\n=m/\aX e=true/\dst<Ai then some (.at (.own dst 0 n.toNat),st.new dst (.arr (T.mK||e.flat) (T.ur&&e.tree) e te (List.replicate n.toNat e.zero))) else none
  |none=>none
 |_,_,_=>none
def Gv (e:Ty):Nat->List (Nat×Operand)->St->Option (Bool×Bool×List e.den×St)
 |_,[],st=>some (true,true,[],st)
 |i,(j,x)::r,st=>
  if i=j then match settle st (st.ev x) with
   |some (v,st')=>match Ct st' e v with
    |some (fr,y)=>match Gv e (i+1) r st' with
     |some (Ow,ND,ys,Ahw)=>some (fr&&Ow,Mu st (st.ev x)&&e.tree&&ND,y::ys,Ahw)
     |none=>none
    |none=>none
   |none=>none
  else none
def Hm (st:St) (dst:Nat) (t:TypeId) (len:Nat) (parts:Array (Nat×Operand)):Option (AV×St):=
 match T.elem t with
 |none=>none
 |some te=>match T.ty te with
  |none=>none
  |some e=>if parts.size=len/\len<=64/\e.size<=64/\dst<Ai then (match Gv e 0 parts.toList st with
   |some (fr,tr,ys,st')=>some (.at (.own dst 0 len),st'.new dst (.arr ((T.mK||e.flat)&&fr) (T.ur&&tr) e te ys))
   |none=>none) else none
def Ny (st:St) (dst:Nat) (t:TypeId):Option (AV×St):=
 match T.mapOf t with
 |some v=>if dst<Ai then some (.at (.Gi dst),st.new dst (.On v λ_=>none)) else none
 |none=>none
def aU {α:Type} (m:ByteArray->Option α) (k:ByteArray) (x:α):ByteArray->Option α:= λs=>if s=k then some x else m s
def Fa (st:St) (t:TypeId) (m k x:AV):Option St:=
 match T.mapOf t,m,k with
 |some v, .at (.Gi l), .at (.data _ .str s)=>match st.at l,Ct st v x with
  |some (.On v' f),some (_,y)=>if h:v'=v/\v.flat=true/\v.Ac=false then some (st.Gf l (.On v (aU (h.1▸f:ByteArray->Option v.den) s y))) else none
  |_,_=>none
 |_,_,_=>none
def cg (st:St) (t t':TypeId) (x y:AV):Option (AV×St):=
 match x,(T.elem t).bind T.ty with
 | .at (.own l off len),some e=>if T.elem t=T.elem t'/\e.flat=true/\e.size=1 then match st.at l,Ct st (.slice e) y with
  |some (.arr fr _ e' tid xs),some (_,ys)=>if h:e'=e/\T.elem t=some tid then
    some (.at (.data true (.int .i64) (min len ys.length:Nat)),st.Gf l (.arr fr false e tid (Bh (h.1▸xs:List e.den) off (ys.take len))))
   else none
  |_,_=>none
  else none
 |_,_=>none
def evalClear (st:St) (t:TypeId) (x:AV):Option St:=
 match x,(T.elem t).bind T.ty with
 | .at (.own l off len),some e=>if e.flat=true/\gz e=true then match st.at l with
  |some (.arr fr _ e' tid xs)=>if h:e'=e/\T.elem t=some tid then
    some (st.Gf l (.arr fr false e tid (Bh (h.1▸xs:List e.den) off (List.replicate len e.zero))))
   else none
  |_=>none
  else none
 |_,_=>none
def Hl (st:St) (t:TypeId):List (Nat×Operand)->List AC->Option (List AC)
 | [],cs=>some cs
 |(i,x)::r,cs=>
  match T.off t i with
  |some (o,u)=>match T.ty u with
   |some ρ=>match cellsOf ρ (st.ev x) with
    |some c=>if o+c.length<=cs.length then Hl st t r (Bh cs o c) else none
    |none=>none
   |none=>none
  |none=>none
def Qg (st:St) (t:TypeId) (parts:Array (Nat×Operand)):Option AV:=
 match T.ty t with
 |none=>none
 |some τ=>if τ.Ac then (Hl T st t parts.toList (zeroCells τ)).map .agg else none
def Bq (io:Bool) (k:Nat):Nat:=if io then 1000000000+k else 500000+k
def Ei (k:Nat):Nat:=600000+k
def LH (dst:Nat) (k:Nat):Nat:=1000000*(dst+1)+k
def Mo:List (Option Nat)->List AC->List AV
 |none::s,a::as=> .at a::Mo s as
 |some n::s,as=> .agg (as.take n)::Mo s (as.drop n)
 |_,_=> []
def Gm:List (Option Nat)->List Value->List Value
 |none::s,u::us=>u::Gm s us
 |some n::s,us=> .agg (us.take n).toArray::Gm s (us.drop n)
 |_,_=> []
def ungroup:List (Option Nat)->List AV->Option (List AC)
 | [],[]=>some []
 |none::s, .at a::as=>(ungroup s as).map λr=>a::r
 |some n::s, .agg cs::as=>if cs.length=n then (ungroup s as).map λr=>cs++r else none
 |some n::s, .at (.data fr τ x)::as=>if τ.Ac=true/\(Lx fr τ x).length=n then (ungroup s as).map λr=>Lx fr τ x++r else none
 |_,_=>none
def ef (l:Nat):(c:CK)->c.den->Option OB
 | .Gt _,_=>none
 | .row e te,xs=>some (.arr false false e te xs)
 | .Dx e te,xs=>some (.Dj e te xs)
 | .part e te,x=>some (.arr false false e te x.1)
 | .Ak e te kp,xs=>some (.Ak e te xs none (if kp then some (l,List.length xs) else none))
def Aex (l:Nat):(c:CK)->c.den->AC
 | .Gt τ,x=> .data τ.flat τ x
 | .row _ _,xs=> .own l 0 (List.length xs)
 | .Dx _ _,xs=> .own l 0 (List.length xs)
 | .part _ _,x=> .own l x.2.1 x.2.2
 | .Ak _ _ _,xs=> .own l 0 (List.length xs)
def c8 {α:Type} (l:Nat):Option α->List (Nat×α)->List (Nat×α)
 |none,r=>r
 |some b,r=>(l,b)::r
def Sh:(k:Nat)->(cs:List (Bool×CK))->Ins.den cs->List (Nat×OB)
 |_,[],_=> []
 |k,p::r,x=>c8 (Bq p.1 k) (ef (Bq p.1 k) p.2 x.1) (Sh (k+1) r x.2)
def Vc:(k:Nat)->(cs:List (Bool×CK))->Ins.den cs->List AC
 |_,[],_=> []
 |k,p::r,x=>Aex (Bq p.1 k) p.2 x.1::Vc (k+1) r x.2
inductive Loc where
 |row (l:Nat)
 |sub (l i c:Nat)
 |view (l:Nat)
 deriving DecidableEq
def Loc.Pu:Loc->Nat
 | .row l=>l
 | .sub l _ _=>l
 | .view l=>l
def Loc.reads:Loc->Bool
 | .view _=>true
 |_=>false
def Vu (st:St) (ls:List Nat):Bool:=ls.all λl=>match st.at l with|some (.var _ vs)=>vs.all (·.settled)|_=>false
def views (k:Nat) (ls:List Nat):List (Nat×Loc):=ls.map λl=>(Bq false k, .view l)
def Hg (st:St) (io:Bool) (k:Nat):(c:CK)->AC->Option (c.den×List (Nat×Loc))
 | .Gt τ, .own l off len=>(Bm st τ (.own l off len)).map λp=>(p.2,[(Bq false k, .view l)])
 | .Gt τ, .clo g Bx=>if Vu st (Bx.map (·.1))&&!τ.Ac then (Fu st τ (.clo g Bx)).map λp=>(p.2,views k (Bx.map (·.1))) else none
 | .Gt τ, .Dz l i=>if Vu st [l]&&!τ.Ac then (Fu st τ (.Dz l i)).map λp=>(p.2,views k [l]) else none
 | .Gt τ, .sub l i c=>(Bm st τ (.sub l i c)).map λp=>(p.2,[(Bq false k, .view l)])
 | .Gt τ,a=>if τ.flat||a.settled then (Bm st τ a).map λp=>(p.2,[]) else none
 | .row e te, .own l off len=>match st.at l with
  |some (.arr _ _ e' Lf xs)=>if h:e'=e/\Lf=te/\off=0/\len=xs.length then some ((h.1▸xs:List e.den),[(Bq io k, .row l)]) else none
  |_=>none
 | .row e _, .sub l i c=>match st.at l with
  |some (.Dj e' _ xs)=>if h:e'= .slice e/\e.flat=true/\io=true/\c=0 then xs[i]?.map λy=>((h.1▸y:(Ty.slice e).den),[(Bq io k, .sub l i c)]) else none
  |_=>none
 | .row _ _, .Hk=>some ([],[])
 | .Dx e te, .own l off len=>match st.at l with
  |some (.Dj e' Lf xs)=>if h:e'=e/\Lf=te/\off=0/\len=xs.length then some ((h.1▸xs:List e.den),[(Bq io k, .row l)]) else none
  |_=>none
 | .Dx e _, .sub l i c=>match st.at l with
  |some (.Dj e' _ xs)=>if h:e'= .slice e/\io=true/\c=0 then xs[i]?.map λy=>((h.1▸y:(Ty.slice e).den),[(Bq io k, .sub l i c)]) else none
  |_=>none
 | .Dx _ _, .Hk=>some ([],[])
 | .part e te, .own l off len=>match st.at l with
  |some (.arr _ _ e' Lf xs)=>if h:e'=e/\Lf=te/\e.flat=true/\io=true then some (((h.1▸xs:List e.den),off,len),[(Bq io k, .row l)]) else none
  |_=>none
 | .Ak e te _, .own l off len=>match st.at l with
  |some (.Ak e' Lf rows none _)=>if h:e'=e/\Lf=te/\off=0/\len=rows.length/\io=false then some ((h.1▸rows:List (List e.den)),[(Bq io k, .row l)]) else none
  |_=>none
 |_,_=>none
def aT (st:St):(k:Nat)->(cs:List (Bool×CK))->List AC->Option (Ins.den cs×List (Nat×Loc))
 |_,[],[]=>some ((),[])
 |k,p::r,a::as=>match Hg st p.1 k p.2 a,aT st (k+1) r as with
  |some (x,t1),some (y,t2)=>some ((x,y),t1++t2)
  |_,_=>none
 |_,_,_=>none
def Vy (st:St):(c:CK)->c.den->AC->Option St
 | .row e _,ys, .own l _ len=>match st.at l with
  |some (.arr fr tr e' te xs)=>if h:e=e'/\List.length ys=len/\xs.length=len then some (st.Gf l (.arr (fr&&e'.flat) (tr&&e'.flat) e' te (h.1▸ys))) else none
  |_=>none
 | .Dx e _,ys, .own l _ len=>match st.at l with
  |some (.Dj e' te xs)=>if h:e=e'/\List.length ys=len/\xs.length=len then some (st.Gf l (.Dj e' te (h.1▸ys))) else none
  |_=>none
 | .row e _,ys, .sub l i _=>match st.at l with
  |some (.Dj e' te xs)=>if h: .slice e=e' then (match xs[i]? with
   |some y=>if List.length ys=List.length (h▸y:(Ty.slice e).den) then some (st.Gf l (.Dj e' te (xs.set i (h▸(ys:(Ty.slice e).den))))) else none
   |none=>none) else none
  |_=>none
 | .Dx e _,ys, .sub l i _=>match st.at l with
  |some (.Dj e' te xs)=>if h: .slice e=e' then (match xs[i]? with
   |some y=>if List.length ys=List.length (h▸y:(Ty.slice e).den) then some (st.Gf l (.Dj e' te (xs.set i (h▸(ys:(Ty.slice e).den))))) else none
   |none=>none) else none
  |_=>none
 |_,_, .Hk=>some st
 |_,_,_=>none
def zw (st:St) (e:Ty) (ys:List e.den):AC->Option St
 | .own l _ _=>match st.at l with
  |some (.arr fr tr e' te xs)=>if h:e=e'/\List.length ys=xs.length then some (st.Gf l (.arr fr tr e' te (h.1▸ys))) else none
  |_=>none
 |_=>none
def Ee:(cs:List (Bool×CK))->IOs.den cs->List AC->St->Option St
 | [],_,_,st=>some st
 |(true, .Gt _)::r,x,_::as,st=>Ee r x as st
 |(true, .row e te)::r,x,a::as,st=>match Vy st (.row e te) x.1 a with
  |some st'=>Ee r x.2 as st'
  |none=>none
 |(true, .Dx e te)::r,x,a::as,st=>match Vy st (.Dx e te) x.1 a with
  |some st'=>Ee r x.2 as st'
  |none=>none
 |(true, .part e _)::r,x,a::as,st=>match zw st e x.1 a with
  |some st'=>Ee r x.2 as st'
  |none=>none
 |(true, .Ak _ _ _)::r,x,_::as,st=>Ee r x as st
 |(false,_)::r,x,_::as,st=>Ee r x as st
 |_,_,_,_=>none
def Aw (dead part:List Nat) (c:AC):AC:=if c.refs.any (λl=>dead.contains l) then .undef else match c with
 | .sub l i c=>if part.contains l then .undef else .sub l i c
 | .Ga l i c=>if part.contains l then .undef else .Ga l i c
 |c=>c
def Qe:List (Nat×OB)->List Nat->List (Nat×OB)
 | [],_=> []
 |(k,b)::r,dead=>if dead.contains k then Qe r dead else (k,b)::Qe r dead
def St.Wf (st:St) (dead part:List Nat):St:=let s:=st.Gp (Aw dead part); {s with heap:=Qe s.heap dead}
def Mx (st:St) (l j m:Nat) (e:Ty) (te:TypeId) (rows:List (List e.den)) (xs:List e.den) (kp:Option (Nat×Nat)):St:=
 (st.Wf [m] [l]).Gf l (.Ak e te (rows.set j xs) none kp)
def Vg (j:Nat):Option (Nat×Nat)->Option (Nat×Nat)
 |none=>none
 |some p=>some (p.1,min p.2 j)
def Uy (st:St) (t:TypeId) (p v:AV):Option St:=
 match T.ty t,p with
 |some τ, .at (.Ga l i j)=>match settle st v with
  |some (v',st')=>match st'.at l,Ct st' τ v' with
   |some (.Ak e te rows none kp),some (_,x)=>if h:τ=e then some (st'.Gf l (.Ak e te (rows.set i ((rows.getD i []).set j (h▸x))) none kp)) else none
   |_,_=>none
  |none=>none
 |some τ, .at (.Gc l j)=>match st.at l,v with
  |some (.Ak e te rows out kp), .at (.own m off len)=>match st.at m with
   |some (.arr _ _ e' _ xs)=>if h:e'=e/\(Nat.blt l Ai&&(!Nat.beq m l&&!τ.Ac))=true/\off=0/\len=xs.length/\(out=none\/out=some j) then some (Mx st l j m e te rows (h.1▸xs) (Vg j kp)) else none
   |_=>none
  |_,_=>none
 |_,_=>none
def BM (st:St):AV->Bool
 | .at (.Ga _ _ _)=>true
 | .at (.Gc l _)=>match st.at l with
  |some (.Ak _ _ _ _ _)=>true
  |_=>false
 |_=>false
def Kc (st:St) (t:TypeId) (p v:AV):Option St:=match BM st p with
 |true=>Uy T st t p v
 |false=>Nz T st t p v
def La (st:St) (k m:Nat) (b:OB):St:=let s:=st.Wf [m,k] []; {s with heap:=Jk s.heap k b}
def Yj (t:TypeId):Option (TypeId×Ty):=(T.elem t).bind λte=>(T.BL te).map λe=>(te,e)
def Qj (st:St) (dst:Nat) (t:TypeId) (l c:AV):Option (AV×St):=
 match Yj T t with
 |none=>Uv T st dst t l c
 |some (te,e)=>match l,c with
  | .at (.data _ (.int _) n), .at (.data _ (.int _) m)=>if UA n (Bp+1)=true/\n=m/\dst<Ai then some (.at (.own dst 0 n.toNat),La st dst dst (.Ak e te (List.replicate n.toNat []) none none)) else none
  |_,_=>none
def Ew (st:St) (dst:Nat) (t:TypeId) (len:Nat) (parts:Array (Nat×Operand)):Option (AV×St):=
 match Yj T t with
 |none=>Hm T st dst t len parts
 |some (te,e)=>match parts.toList with
  | [(0,x)]=>match st.ev x with
   | .at (.own m off ln)=>match st.at m with
    |some (.arr _ _ e' _ xs)=>if h:e'=e/\(Nat.beq len 1&&(Nat.blt dst Ai&&Nat.blt m Ai))=true/\off=0/\ln=xs.length then some (.at (.own dst 0 1),La st dst m (.Ak e te [h.1▸xs] none none)) else none
    |_=>none
   |_=>none
  |_=>none
def Lk (st:St) (dst:Nat) (t:TypeId) (x y:Operand):Option (AV×St):=
 match Yj T t with
 |none=>Lj T st dst t x y
 |some (te,e)=>match st.ev x,st.ev y with
  | .at (.own l off len), .at (.own m LI nm)=>match st.at l,st.at m with
   |some (.Ak e1 te1 A none _),some (.Ak e2 q7 B none _)=>
    if h:(e1=e/\e2=e)/\(decide (te1=te)&&decide (q7=te)&&(Nat.blt l Ai&&(Nat.blt m Ai&&!Nat.beq m l)))=true/\(off=0/\len=A.length)/\(LI=0/\nm=B.length)/\0<B.length/\A.length+B.length<=Bp then
     some (.at (.own l 0 (A.length+B.length)),La st l m (.Ak e te ((h.1.1▸A:List (List e.den))++(h.1.2▸B:List (List e.den))) none none))
    else none
   |_,_=>none
  |_,_=>none
def px (fr:Bool):(c:CK)->c.den->Option OB
 | .Gt _,_=>none
 | .row e te,xs=>some (.arr (fr&&e.flat) false e te xs)
 | .Dx e te,xs=>some (.Dj e te xs)
 | .part e te,x=>some (.arr (fr&&e.flat) false e te x.1)
 | .Ak e te _,xs=>some (.Ak e te xs none none)
def w8 (H:List (Nat×OB)) (l:Nat):Option OB->List (Nat×OB)
 |some b=>Jk H l b
 |none=>H
def Qs (fr:Bool) (key:Nat->Nat):(k:Nat)->(cs:List CK)->CKs.den cs->List (Nat×OB)->List (Nat×OB)
 |_,[],_,H=>H
 |k,c::r,x,H=>Qs fr key (k+1) r x.2 (w8 H (key k) (px fr c x.1))
def Vj (key:Nat->Nat):(k:Nat)->(cs:List CK)->CKs.den cs->List AC
 |_,[],_=> []
 |k,c::r,x=>(match c,x.1 with
  | .Gt τ,y=> .data τ.flat τ y
  | .row _ _,xs=> .own (key k) 0 (List.length xs)
  | .Dx _ _,xs=> .own (key k) 0 (List.length xs)
  | .Ak _ _ _,xs=> .own (key k) 0 (List.length xs)
  | .part _ _,_=> .undef)::Vj key (k+1) r x.2
def Sv:List (Option Nat)->List AC->List (Bool×List AC)
 |none::s,a::as=>(false,[a])::Sv s as
 |some n::s,as=>(true,as.take n)::Sv s (as.drop n)
 |_,_=> []
def Acm (Gg:Bool) (sh:List (Option Nat)) (as:List AC):Option AV:=
 if Gg then some (.Jg (Sv sh as)) else match Mo sh as with
  | [v]=>some v
  | []=>some .undef
  |_=>none
def gO (tks:List (Nat×Loc)):List Nat:=(tks.filter λt=>Nat.blt t.1 Ai&&!t.2.reads).map λt=>t.2.Pu
def whole (tks:List (Nat×Loc)):List Nat:=tks.flatMap λt=>match t.2 with| .row l=> [l]|_=> []
def uy (tks:List (Nat×Loc)):List Nat:=(tks.filter λt=>t.2.reads).map λt=>t.2.Pu
def wm (ins:List (Bool×CK)) (te:TypeId) (used:List Nat):List (Nat×Loc)->Option Nat
 | []=>none
 |(k, .row l)::r=>if Nat.blt k Ai&&(!used.contains l&&(match ins[k-500000]? with
   |some (false, .row _ Lf)=>decide (Lf=te)
   |some (false, .Dx _ Lf)=>decide (Lf=te)
   |some (false, .Ak _ Lf _)=>decide (Lf=te)
   |_=>false)) then some l else wm ins te used r
 |_::r=>wm ins te used r
def yY (ins:List (Bool×CK)) (tks:List (Nat×Loc)) (d:Nat):(k:Nat)->(used:List Nat)->List CK->List Nat
 |_,_,[]=> []
 |k,used,c::r=>match (match c with
   | .row _ te=>wm ins te used tks
   | .Dx _ te=>wm ins te used tks
   | .Ak _ te _=>wm ins te used tks
   |_=>none) with
  |some l=>l::yY ins tks d (k+1) (l::used) r
  |none=>LH d k::yY ins tks d (k+1) used r
def gK (s:MSpec) (tks:List (Nat×Loc)) (d:Nat):List Nat:=yY s.ins tks d 0 [] s.outs
def Bv (ks:List Nat) (j:Nat):Nat:=match ks[j]? with
 |some l=>l
 |none=>Ai+j
def sU (ks:List Nat) (n:Nat):Bool:=Nat.beq ks.length n&&(Su ks&&ks.all λl=>Nat.blt l Ai)
def BH (st:St) (l:List Nat):Bool:=l.all λk=>match st.at k with|some (.arr fr _ _ _ _)=>fr|_=>false
def CJ (st:St) (s:MSpec) (args:List AV):Option (List Nat×List AC×List AV):=
 match s.ptr with
 |none=>some ([],[],args)
 |some p=>match args with
  | .at (.Dz l i)::rest=>match st.at l with
   |some (.var tid vs)=>if tid=p.1/\vs.length=p.2/\i=0 then some ([l],vs,rest) else none
   |_=>none
  |_=>none
def Pd:List (Bool×CK)->List AC->Bool
 |(true, .row _ _)::r, .own _ _ _::as=>Pd r as
 |(true, .Dx _ _)::r, .own _ _ _::as=>Pd r as
 |(true,_)::_,_::_=>false
 |(false,_)::r,_::as=>Pd r as
 |_,as=>as.isEmpty
def bq {α:Type} :List (Bool×CK)->List α->List α->List α
 |(true,_)::r,v::vs,as=>v::bq r vs as
 |(false,_)::r,_::vs,a::as=>a::bq r vs as
 |_,vs,_=>vs
def nS:List (Bool×CK)->Nat->Nat
 |(true,_)::r,n+1=>nS r n
 |(false,_)::r,n+1=>nS r n+1
 |_,_=>0
def MSpec.Qa (s:MSpec):Nat:=match s.ptr with|none=>0|some p=>nS s.ins p.2
def lD (ins:List (Bool×CK)) (as:List AC) (pl:List Nat) (st:St):St:=
 match pl with
 | []=>st
 |l::_=>match st.at l with
  |some (.var tid vs)=>st.Gf l (.var tid (bq ins vs as))
  |_=>st
def Mv (d:Nat):Nat:=LH d 999
def ga (s:MSpec) (d:Nat):List Nat:=match s.rp with|none=> []|some _=> [Mv d]
def Lw (s:MSpec) (tks:List (Nat×Loc)) (d:Nat):List Nat:=gK s tks d++ga s d
def ij (H:List (Nat×OB)) (l:Nat):Bool:=match Ae H l with
 |some (.Ak _ _ _ _ _)=>true
 |_=>false
def Vf (H:List (Nat×OB)) (ks:List Nat) (tks:List (Nat×Loc)):List (Nat×Nat)->List Nat
 | []=> []
 |(k,j)::r=>match tks.find? (λt=>Nat.beq t.1 (Bq false k)),ks[j]? with
  |some (_, .row l),some l'=>if Nat.beq l' l&&ij H l then l::Vf H ks tks r else Vf H ks tks r
  |_,_=>Vf H ks tks r
def lQ (H:List (Nat×OB)) (l:Nat):Nat:=match Ae H l with
 |some (.Ak _ _ rows _ _)=>rows.length
 |_=>0
def Xs (H:List (Nat×OB)) (ls:List Nat) (n:Nat):List AV->Bool
 | []=>true
 | .at (.sub l i _)::r=>(!ls.contains l||(Nat.blt i n&&Nat.blt i (lQ H l)))&&Xs H ls n r
 |_::r=>Xs H ls n r
def Hc (ls:List Nat):List AV->List AV->List AV
 | .at (.sub l i c)::r,v::vs=>(if ls.contains l then .at (.sub l i c) else v)::Hc ls r vs
 |_::r,v::vs=>v::Hc ls r vs
 |_,vs=>vs
def WV:Option OB->Option (Nat×Nat)
 |some (.Ak _ _ _ _ kp)=>kp
 |_=>none
def OB.xe (b:OB) (kp:Option (Nat×Nat)):OB:=match b with
 | .Ak e te rows out _=> .Ak e te rows out kp
 |b=>b
def Xj (H0:List (Nat×OB)) (ls:List Nat) (n:Nat):List (Nat×OB)->List (Nat×OB)
 | []=> []
 |(l,b)::r=>(l,if ls.contains l then b.xe (Vg n (WV (Ae H0 l))) else b)::Xj H0 ls n r
def fQ (bx st:St) (ls:List Nat) (n:Nat):St:=match ls with
 | []=>st
 |_=> {tmps:=Hc ls bx.tmps st.tmps,heap:=Xj bx.heap ls n st.heap}
def RH (s:MSpec) (d:Nat) (as:List AC):Option AV:=match s.rp with
 |none=>Acm s.Gg s.Gj as
 |some _=>some (.at (.Dz (Mv d) 0))
def fp (st st1:St) (d:Nat) (s:MSpec) (pl:List Nat) (tks:List (Nat×Loc)) (r:CKs.den s.outs):St:=
 let ks:=Lw s tks d
 let key:=Bv ks
 let st2:=lD s.ins (Vj key 0 s.outs r) pl (st1.Wf (gO tks++ks++(if s.flat then [] else uy tks)) (whole tks))
 {st2 with heap:=Qs (BH st (gO tks)) key 0 s.outs r (w8 st2.heap (Mv d) (s.rp.map λtid=> .var tid ((Vj key 0 s.outs r).drop s.Qa)))}
def Qh (st:St) (dst:Option Nat) (s:MSpec) (args:List AV):Option (AV×St):=
 match CJ st s args with
 |none=>none
 |some (pl,vs,rest)=>match ungroup s.Hf rest with
 |none=>none
 |some j6=>match aT st 0 s.ins (vs++j6) with
  |none=>none
  |some (x,tks)=>if Su (tks.map λt=>t.2.Pu)&&sU (Lw s tks (dst.getD 0)) (s.outs.length+(ga s (dst.getD 0)).length)&&Nat.blt s.outs.length 1000&&Nat.blt s.ins.length 1000&&(Pd s.ins vs&&pl.all λl=>!((tks.map λt=>t.2.Pu)++Lw s tks (dst.getD 0)).contains l) then match s.fn x with
   |none=>none
   |some (r,o)=>match Ee s.ins o (vs++j6) st with
    |none=>none
    |some st1=>match RH s (dst.getD 0) ((Vj (Bv (Lw s tks (dst.getD 0))) 0 s.outs r).drop s.Qa) with
     |none=>none
     |some v=>if Xs (fp st st1 (dst.getD 0) s pl tks r).heap (Vf st.heap (Lw s tks (dst.getD 0)) tks s.keeps) (s.Cr x) st.tmps=true then
       some (v,fQ st (fp st st1 (dst.getD 0) s pl tks r) (Vf st.heap (Lw s tks (dst.getD 0)) tks s.keeps) (s.Cr x)) else none
   else none
def Ju:List Operand->St->Option St
 | [],st=>some st
 |x::r,st=>match settle st (st.ev x) with
  |some (_,st')=>Ju r st'
  |none=>none
def aq (s:Spec) (args:List AV):Bool:=!(s.fresh||s.res.flat||args.all (·.settled))
def evalOp (Γ:Env) (st:St) (o:Oper):Option (AV×St):=
 match o.op with
 | .assign x=>match st.ev x,o.dst,(T.elem o.type).bind λte=>(T.ty te).map λe=>(te,e) with
  | .at .Hk,some d,some (te,e)=>if d<Ai then some (.at (.own d 0 0),st.new d (.arr (T.mK||e.flat) T.ur e te [])) else none
  |v,_,_=>some (v,st)
 | .alloc t=>match o.dst,T.ty t with
  |some d,some τ=>mkVar T st d t τ (zeroCells τ)
  |_,_=>none
 | .box t x=>match o.dst,T.ty t with
  |some d,some τ=>match cellsOf τ (st.ev x) with
   |some cs=>mkVar T st d t τ cs
   |none=>none
  |_,_=>none
 | .store t p x=>(Kc T st t (st.ev p) (st.ev x)).map λs=>(.undef,s)
 | .makeSlice t l c=>match o.dst with
  |some d=>Qj T st d t (st.ev l) (st.ev c)
  |none=>none
 | .makeMap t none=>match o.dst with
  |some d=>Ny T st d t
  |none=>none
 | .mapUpdate t m k x=>(Fa T st t (st.ev m) (st.ev k) (st.ev x)).map λs=>(.undef,s)
 | .insert t m k x=>(Fa T st t (st.ev m) (st.ev k) (st.ev x)).map λs=>(.undef,s)
 | .buildSlice t len parts=>match o.dst with
  |some d=>Ew T st d t len parts
  |none=>none
 | .build t parts=>(Qg T st t parts).map λv=>(v,st)
 | .call {callee:= .builtin .append,args,argTypes} =>match o.dst,args.toList,argTypes.toList with
  |some d,[x,y],[t,t']=>if t=t' then Lk T st d t x y else none
  |_,_,_=>none
 | .call {callee:= .builtin .copy,args,argTypes} =>match args.toList,argTypes.toList with
  | [x,y],[t,t']=>cg T st t t' (st.ev x) (st.ev y)
  |_,_=>none
 | .call {callee:= .builtin .clear,args,argTypes} =>match args.toList,argTypes.toList with
  | [x],[t]=>(evalClear T st t (st.ev x)).map λs=>(.undef,s)
  |_,_=>none
 | .call {callee:= .value (.func f),args, .. } =>match Γ f with
  |some (.m s)=>Qh st o.dst s (args.toList.map st.ev)
  |some (.q s)=>if aq s (args.toList.map st.ev) then (match Ju args.toList st with
   |some st1=>(Ck T Γ st1 o).map λv=>(v,st1)
   |none=>none) else (Ck T Γ st o).map λv=>(v,st)
  |_=>(Ck T Γ st o).map λv=>(v,st)
 |_=>(Ck T Γ st o).map λv=>(v,st)
def ay (e:Ty):Nat->List (Nat×Operand)->St->Option (Bool×List e.den)
 |_,[],_=>some (true,[])
 |i,(j,x)::r,st=>
  if i=j/\(st.ev x).settled=true then match Ct st e (st.ev x),ay e (i+1) r st with
   |some (fr,y),some (Ow,ys)=>some (fr&&Ow,y::ys)
   |_,_=>none
  else none
def Uu (st:St) (t:TypeId) (len:Nat) (parts:Array (Nat×Operand)):Option AV:=
 match T.elem t with
 |none=>none
 |some te=>match T.ty te with
  |none=>none
  |some e=>if parts.size=len/\len<=64/\e.size<=64 then (ay e 0 parts.toList st).map λp=> .at (.data p.1 (.slice e) p.2) else none
def Ry (Γ:Env) (st:St) (o:Oper):Option AV:=
 match o.op with
 | .buildSlice t len parts=>Uu T st t len parts
 | .build t parts=>Qg T st t parts
 |_=>Ck T Γ st o
def KX (q:Bool) (Γ:Env) (o:Oper):Bool:=
 match o.op with
 | .buildSlice _ _ _| .build _ _=>!q
 | .alloc _| .box _ _| .store _ _ _| .makeSlice _ _ _| .makeMap _ _| .mapUpdate _ _ _ _| .insert _ _ _ _=>true
 | .assign (.const _)=>true
 | .call {callee:= .builtin .append, .. } =>true
 | .call {callee:= .builtin .copy, .. } =>true
 | .call {callee:= .builtin .clear, .. } =>true
 | .call {callee:= .value (.func f), .. } =>match Γ f with
  |some (.m _)=>true
  |_=>false
 |_=>false
def Cl (Γ:Env) (ops:Array Oper) (st:St) (o:Oper):Option St:=
 match o.guard with
 |none=>(evalOp T Γ st o).map λr=>r.2.put o.dst r.1
 |some (j,want)=>match Qc st ((ops[j]?).bind (·.dst)) with
  |some (some b)=>if b==want then (evalOp T Γ st o).map λr=>r.2.put o.dst r.1 else some (st.put o.dst (.at .skip))
  |some none=>some (st.put o.dst (.at .skip))
  |none=>none
def Tm (Γ:Env) (ops:Array Oper):List Oper->St->Option St
 | [],st=>some st
 |o::r,st=>match Cl T Γ ops st o with
  |some st'=>Tm Γ ops r st'
  |none=>none
def Fo (q:Bool) (Γ:Env) (ops:Array Oper):List Nat:=
 (List.range ops.size).foldl (init:= []) λacc i=>match ops[i]? with
  |some o=>if KX q Γ o||o.after.any (λe=>Region.binds .any e&&acc.contains e.on) then acc++ [i] else acc
  |none=>acc
def Wh (q:Bool) (Γ:Env) (ops:Array Oper):List Nat:=(List.range ops.size).filter λi=>!(Fo q Γ ops).contains i
def ig (ops:Array Oper) (hd tl:List Nat) (i:Nat):Bool:=
 match ops[i]? with
 |some o=>(match o.op,o.guard with
  | .move (.tmp _),none=>true
  |_,_=>false)&&!((tl.take 1++hd).any λj=>decide (i<j)&&Region.waitsFor .any ops j i)
 |none=>false
def Ov (q:Bool) (Γ:Env) (ops:Array Oper):List Nat:=(Wh q Γ ops).filter λi=>ig ops (Wh q Γ ops) (Fo q Γ ops) i
def Oy (q:Bool) (Γ:Env) (ops:Array Oper):List Nat:=(Wh q Γ ops).filter λi=>!ig ops (Wh q Γ ops) (Fo q Γ ops) i
def dM (q:Bool) (Γ:Env) (ops:Array Oper):List Nat:=Ov q Γ ops++Oy q Γ ops
def KP (ops:Array Oper) (i:Nat):Bool:=match ops[i]? with
 |some o=>(match o.op,o.guard with
  | .extract _ _,none=>true
  |_,_=>false)
 |none=>false
def iM (ops:Array Oper):List Nat->Array Bool->Bool
 | [],Ad=>(Region.ready .any ops Ad).isEmpty
 |k::r,Ad=>(decide (Region.ready .any ops Ad= [k])||(KP ops k&&((Region.ready .any ops Ad).contains k&&Region.free .any ops Ad k)))&&iM ops r (Ad.setIfInBounds k true)
def ju (ops:Array Oper) (tl:List Nat):List Nat->Array Bool->Bool
 | [],Ad=>iM ops tl Ad
 |k::r,Ad=>(Region.ready .any ops Ad).contains k&&Region.free .any ops Ad k&&ju ops tl r (Ad.setIfInBounds k true)
def o0 (ops:Array Oper) (hd:List Nat):List Nat->Bool
 | []=>true
 |f::r=>(hd.all λi=>(f::hd).any λj=>decide (i<j)&&Region.waitsFor .any ops j i)&&r.all λt=>(f::r).any λk=>Region.waitsFor .any ops t k
def gY (ops:Array Oper) (tl hd:List Nat):List Nat->Array Bool->Bool
 | [],Ad=>ju ops tl hd Ad
 |k::r,Ad=>(Region.ready .any ops Ad).contains k&&Region.free .any ops Ad k&&gY ops tl hd r (Ad.setIfInBounds k true)
def dT (q:Bool) (Γ:Env) (ops:Array Oper):Bool:=
 Region.noSelect ops&&((Ov q Γ ops).length+((Oy q Γ ops).length+(Fo q Γ ops).length)==ops.size)&&gY ops (Fo q Γ ops) (Oy q Γ ops) (Ov q Γ ops) (Array.replicate ops.size false)&&o0 ops (Oy q Γ ops) (Fo q Γ ops)
def bL (Γ:Env) (ops:Array Oper) (st:St) (o:Oper):Option AV:=
 match o.guard with
 |none=>Ry T Γ st o
 |some (j,want)=>match Qc st ((ops[j]?).bind (·.dst)) with
  |some (some b)=>if b==want then Ry T Γ st o else some (.at .skip)
  |some none=>some (.at .skip)
  |none=>none
def Ed (Γ:Env) (ops:Array Oper):List Nat->St->Option St
 | [],st=>some st
 |i::r,st=>match ops[i]? with
  |none=>none
  |some o=>match bL T Γ ops st o with
   |some v=>Ed Γ ops r (st.put o.dst v)
   |none=>none
def Jl (Γ:Env) (ops:Array Oper):List Nat->St->Option St
 | [],st=>some st
 |i::r,st=>match ops[i]? with
  |none=>none
  |some o=>match Cl T Γ ops st o with
   |some st'=>Jl Γ ops r st'
   |none=>none
def Ll (Γ:Env) (ops:Array Oper) (draw:Bool) (st:St):Option St:=
 if draw then (if dT false Γ ops then (match Ed T Γ ops (dM false Γ ops) st with
  |some st'=>Jl T Γ ops (Fo false Γ ops) st'
  |none=>none) else if dT true Γ ops then (match Ed T Γ ops (dM true Γ ops) st with
  |some st'=>Jl T Γ ops (Fo true Γ ops) st'
  |none=>none) else none)
 else Tm T Γ ops ops.toList st
def sP (ops:Array Oper) (i:Nat):Bool:=match ops[i]? with
 |some o=>(match o.op,o.guard with
  | .move (.tmp _),none=>true
  |_,_=>false)
 |none=>false
def dR (ops:Array Oper) (i:Nat):Bool:=match ops[i]? with
 |some o=>(match o.op,o.guard with
  | .move (.tmp _),none=>true
  | .nilCheck _,none=>true
  | .fieldAddr _ _ _,none=>true
  |_,_=>false)
 |none=>false
def Acu (q:Bool) (ops:Array Oper) (i:Nat):Bool:=match q with
 |true=>dR ops i
 |false=>sP ops i
def Fl (q:Bool) (ops:Array Oper):List Nat->Array Bool->List Nat
 | [],_=> []
 |i::r,Ad=>if Acu q ops i&&((Region.ready .any ops Ad).contains i&&Region.free .any ops Ad i) then i::Fl q ops r (Ad.setIfInBounds i true) else Fl q ops r Ad
def LF (q:Bool) (ops:Array Oper):List Nat:=Fl q ops (List.range ops.size) (Array.replicate ops.size false)
def dI (q:Bool) (ops:Array Oper):Bool:=Nat.ble (ops.size-(LF q ops).length) 8
def Kf (ops:Array Oper):List Nat:=LF (!dI false ops) ops
def Eh:List Nat->Array Bool->Array Bool
 | [],Ad=>Ad
 |i::r,Ad=>Eh r (Ad.setIfInBounds i true)
def anyS (Γ:Env) (ops:Array Oper) (K:St->Prop):Nat->Array Bool->St->Prop
 |0,Ad,st=>Region.ready .any ops Ad= []/\K st
 |f+1,Ad,st=>Region.ready .any ops Ad≠ []/\ ∀i∈Region.ready .any ops Ad,∃o st',ops[i]?=some o/\Cl T Γ ops st o=some st'/\anyS Γ ops K f (Ad.setIfInBounds i true) st'
def rY (Γ:Env) (ops:Array Oper) (draw:Bool) (st:St) (K:St->Prop):Prop:=
 (∃st',Ll T Γ ops draw st=some st'/\K st')\/
 (draw=true/\Region.noSelect ops=true/\ ∃bx,Ed T Γ ops (Kf ops) st=some bx/\anyS T Γ ops K (ops.size-(Kf ops).length) (Eh (Kf ops) (Array.replicate ops.size false)) bx)
def tH (Γ:Env) (draw:Bool):Env:= λf=>match Γ f with
 |some (.b s m)=>some (if draw then .q s else .m m)
 |r=>r
inductive Gz where
 |normal
 |exit (id:Nat)
 |ret
def Ge (live:List Nat):Nat->List AV->List AV
 |_,[]=> []
 |i,v::r=>(if live.contains i then v else .undef)::Ge live (i+1) r
def AV.refs:AV->List Nat
 | .at a=>a.refs
 | .agg cs=>cs.flatMap AC.refs
 | .Uk _ _ _=> []
 | .Jg l=>l.flatMap λp=>p.2.flatMap AC.refs
def OB.refs:OB->List Nat
 | .var _ vs=>vs.flatMap AC.refs
 |_=> []
def Yh:List Nat->St->St
 | [],st=>st
 |l::r,st=>Yh r (st.forget l)
def jQ (l k m:Nat):Nat:=if m=l then k else m
def Oe (l k:Nat):AC->AC
 | .own m off len=> .own (jQ l k m) off len
 | .Dz m i=> .Dz (jQ l k m) i
 | .Gc m i=> .Gc (jQ l k m) i
 | .clo f Bx=> .clo f (Bx.map λp=>(jQ l k p.1,p.2))
 | .Gi m=> .Gi (jQ l k m)
 | .sub m i c=> .sub (jQ l k m) i c
 | .Ga m i c=> .Ga (jQ l k m) i c
 |a=>a
def St.rename (l k:Nat) (st:St):St:=
 match Ae st.heap k,Ae st.heap l with
 |none,some b=>if (Nat.blt l Ai&&Nat.blt k Ai)=true then
   (let s:=st.Gp (Oe l k); {s with heap:=Jk (Sz s.heap l) k (b.map (Oe l k))}) else st
 |_,_=>st
def Hs:Nat->Nat->St->St
 |0,_,st=>st
 |n+1,t,st=>Hs n (t+1) (match st.get t with
  | .at (.own l _ _)=>match Ae st.heap l with
   |some (.arr _ _ _ _ _)=>if (st.tmps.take t).any (λv=>v.refs.contains l) then st else st.rename l (700000+t)
   |_=>st
  |_=>st)
def Wq:Nat:=1000000007
def OB.Fb (flat all one:Bool):OB->OB
 | .arr fr tr e tid xs=> .arr (fr&&!(all||(one||(flat&&e.flat)))) (tr&&!all) e tid xs
 |b=>b
def Sp:Nat:=1000000009
def xJ:Nat:=1100000000
def NS:Nat:=1200000000
def St.Fb (live:List Nat) (st:St):St:= {st with heap:=st.heap.map λp=>(p.1,p.2.Fb (live.contains Sp) (live.contains (xJ+p.1)) (live.contains (NS+p.1)))}
def Hr:Nat:=900000000
def Vk (t:Nat) (st:St):St:=match st.get t with
 | .at (.own l off len)=>match Ae st.heap l with
  |some (.arr fr tr e tid xs)=>if Nat.blt l Ai=true then (st.new l (.arr fr tr e tid ((xs.drop off).take len))).put (some t) (.at (.own l 0 ((xs.drop off).take len).length)) else st
  |_=>st
 |_=>st
def Jt (live:List Nat):Nat->Nat->St->St
 |0,_,st=>st
 |n+1,t,st=>Jt live n (t+1) (if live.contains (Hr+t) then Vk t st else st)
def St.clean (live:List Nat) (st:St):St:=
 let s:St:= {st with tmps:=Ge live 0 st.tmps}
 let r1:=s.tmps.flatMap AV.refs
 let r2:=r1++(s.heap.filter λp=>r1.contains p.1).flatMap λp=>p.2.refs
 let s2:=Yh ((s.heap.map (·.1)).filter λl=>!r2.contains l&&Nat.blt l Ai) s
 let s2:=if live.any (λt=>Nat.ble Hr t&&Nat.blt t Wq) then Jt live s2.tmps.length 0 s2 else s2
 let s3:=if live.contains Wq then Hs s2.tmps.length 0 s2 else s2
 if live.any (λt=>Nat.ble Sp t) then s3.Fb live else s3
def Ch:Code->Nat
 | .region id _ _=>id
 | .seq a _=>Ch a
 | .cond _ a _=>Ch a
 | .block _ c=>Ch c
 | .loop c=>1000+Ch c
 |_=>0
def UN (a b:List Nat):List Nat:=a++b.filter λt=>!a.contains t
def sZ:List Oper->List Nat->List Nat
 | [],out=>out
 |o::r,out=>UN (o.op.operands.toList.filterMap λ | .tmp t=>some t|_=>none) (match o.dst with|some d=>(sZ r out).filter (·!=d)|none=>sZ r out)
def yu:List (Nat×List Nat)->Nat->List Nat
 | [],_=> []
 |(k,l)::r,id=>if k=id then l else yu r id
def kQ:Code->List (Nat×List Nat)->List Nat->List Nat->List Nat×List (Nat×List Nat)
 | .region _ ops _,_,_,out=>(sZ ops.toList out,[])
 | .seq a b,env,ret,out=>let rb:=kQ b env ret out;let ra:=kQ a env ret rb.1;(ra.1,ra.2++rb.2)
 | .cond c a b,env,ret,out=>let ra:=kQ a env ret out;let rb:=kQ b env ret out
  (UN (match c with| .tmp t=> [t]|_=> []) (UN ra.1 rb.1),ra.2++rb.2)
 | .block id c,env,ret,out=>kQ c ((id,out)::env) ret out
 | .exit id,env,_,_=>(yu env id,[])
 | .ret,_,ret,_=>(ret,[])
 | .loop c,env,ret,_=>let l:=(kQ c env ret []).1;let r:=kQ c env ret l;(l,(Ch c,l)::r.2)
 |_,_,_,out=>(out,[])
def ta:List ResultVar->List Nat
 | []=> []
 | .tmp t::r=>t::ta r
 | .cell p _::r=>p::ta r
def sY (marks:List Nat) (fn:Func) (c:Code):Nat->List Nat:=let ret:=ta fn.results.toList;let g:=yu (kQ c [] ret ret).2;match marks with
 | []=>g
 |m=> λid=>g id++m
def zg (K:St->Prop) (Q:Gz->St->Prop):Gz->St->Prop
 | .normal,s=>K s
 |e,s=>Q e s
def qK (id:Nat) (Q:Gz->St->Prop):Gz->St->Prop
 | .exit EE,s=>if EE=id then Q .normal s else Q (.exit EE) s
 |e,s=>Q e s
inductive Jj (Γ:Env) (live:Nat->List Nat):Code->St->(Gz->St->Prop)->Prop where
 |skip {st:St} {Q:Gz->St->Prop} :Q .normal st->Jj Γ live .skip st Q
 |label {l:Nat} {st:St} {Q:Gz->St->Prop} :Q .normal st->Jj Γ live (.label l) st Q
 |exit {id:Nat} {st:St} {Q:Gz->St->Prop} :Q (.exit id) st->Jj Γ live (.exit id) st Q
 |ret {st:St} {Q:Gz->St->Prop} :Q .ret st->Jj Γ live .ret st Q
 |region {id:Nat} {ops:Array Oper} {draw:Bool} {st:St} {Q:Gz->St->Prop} :rY T (tH Γ draw) ops draw st (Q .normal)->Jj Γ live (.region id ops draw) st Q
 |seq {x y:Code} {st:St} {Q:Gz->St->Prop} (Q1:Gz->St->Prop):Jj Γ live x st Q1->(∀s,Q1 .normal s->Jj Γ live y s Q)->(∀e s,e≠ .normal->Q1 e s->Q e s)->Jj Γ live (.seq x y) st Q
 |cond {c:Operand} {x y:Code} {st:St} {fr t:Bool} {Q:Gz->St->Prop} :st.ev c= .at (.data fr .bool t)->(t=true->Jj Γ live x st Q)->(t=false->Jj Γ live y st Q)->Jj Γ live (.cond c x y) st Q
 |block {id:Nat} {c:Code} {st:St} {Q:Gz->St->Prop} (Q1:Gz->St->Prop):Jj Γ live c st Q1->(∀e s,Q1 e s->qK id Q e s)->Jj Γ live (.block id c) st Q
 |loop {c:Code} {st:St} {Q:Gz->St->Prop} (Q1:Gz->St->Prop):Jj Γ live c (st.clean (live (Ch c))) Q1->(∀s,Q1 .normal s->Jj Γ live (.loop c) s Q)->(∀e s,e≠ .normal->Q1 e s->Q e s)->Jj Γ live (.loop c) st Q
def Xo (st:St):List ResultVar->Option (List AV)
 | []=>some []
 | .tmp t::r=>(Xo st r).map λl=>st.get t::l
 | .cell p t::r=>match Kk T st t (st.get p),Xo st r with
  |some v,some l=>some (v::l)
  |_,_=>none
def gW (s:Spec) (fn:Func) (st:St):Option (Bool×s.res.den):=
 match Xo T st fn.results.toList with
 |some [v]=>if s.Gg then none else Ct st s.res v
 |some [v,u]=>if s.Gg then Bs st s.res [v,u] else none
 |some [v,u,t]=>if s.Gg then Bs st s.res [v,u,t] else none
 |_=>none
def Mk:(τ:Ty)->τ.den->List AV
 | .pair a r,x=> .at (.data a.flat a x.1)::Mk r x.2
 |_,_=> []
def eh (st:St):(c:CK)->AC->Option (c.den×List Nat)
 | .Gt τ,a=>if τ.flat||a.settled then (Bm st τ a).map λp=>(p.2,[]) else none
 | .row e te, .own l off len=>match st.at l with
  |some (.arr _ _ e' Lf xs)=>if h:e'=e/\Lf=te then some ((((h.1▸xs:List e.den).drop off).take len),[l]) else none
  |_=>none
 | .row _ _, .Hk=>some ([],[])
 | .Dx e te, .own l off len=>match st.at l with
  |some (.arr _ tr e' Lf xs)=>if h:e'=e/\Lf=te/\(tr||e.flat)=true then some ((((h.1▸xs:List e.den).drop off).take len),[l]) else none
  |some (.Dj e' Lf xs)=>if h:e'=e/\Lf=te then some ((((h.1▸xs:List e.den).drop off).take len),[l]) else none
  |_=>none
 | .Dx _ _, .Hk=>some ([],[])
 | .Ak e te _, .own l off len=>match st.at l with
  |some (.Ak e' Lf rows none _)=>if h:e'=e/\Lf=te/\off=0/\len=rows.length then some ((h.1▸rows:List (List e.den)),[l]) else none
  |_=>none
 |_,_=>none
def Od (st:St):(cs:List CK)->List AC->Option (CKs.den cs×List Nat)
 | [],[]=>some ((),[])
 |c::r,a::as=>match eh st c a,Od st r as with
  |some (x,t1),some (y,t2)=>some ((x,y),t1++t2)
  |_,_=>none
 |_,_=>none
def ky (st:St) (l:Nat):(c:CK)->Option c.den
 | .Gt _=>none
 | .row e te=>match st.at l with
  |some (.arr _ _ e' Lf xs)=>if h:e'=e/\Lf=te then some (h.1▸xs) else none
  |_=>none
 | .Dx e te=>match st.at l with
  |some (.Dj e' Lf xs)=>if h:e'=e/\Lf=te then some (h.1▸xs) else none
  |_=>none
 | .part _ _=>none
 | .Ak _ _ _=>none
def Jo (st:St):(k:Nat)->(cs:List (Bool×CK))->Option (IOs.den cs)
 |_,[]=>some ()
 |k,(true, .Gt _)::r=>Jo st (k+1) r
 |k,(true, .Ak _ _ _)::r=>Jo st (k+1) r
 |k,(true, .row e te)::r=>match ky st (Bq true k) (.row e te),Jo st (k+1) r with
  |some x,some y=>some (x,y)
  |_,_=>none
 |k,(true, .Dx e te)::r=>match ky st (Bq true k) (.Dx e te),Jo st (k+1) r with
  |some x,some y=>some (x,y)
  |_,_=>none
 |k,(true, .part e te)::r=>match ky st (Bq true k) (.row e te),Jo st (k+1) r with
  |some x,some y=>some (x,y)
  |_,_=>none
 |k,(false,_)::r=>Jo st (k+1) r
def Ke:(k:Nat)->List (Bool×CK)->List Nat
 |_,[]=> []
 |k,(true, .Gt _)::r=>Ke (k+1) r
 |k,(true, .Ak _ _ _)::r=>Ke (k+1) r
 |k,(true,_)::r=>Bq true k::Ke (k+1) r
 |k,(false,_)::r=>Ke (k+1) r
def Lt:Nat:=1900000000
def Fe:(k:Nat)->List (Bool×CK)->List AC->Option (List AC)
 |_,_,[]=>some []
 |k,(true, .row _ _)::r, .own l _ _::as=>if Nat.beq l (Bq true k) then Fe (k+1) r as else none
 |k,(true, .Dx _ _)::r, .own l _ _::as=>if Nat.beq l (Bq true k) then Fe (k+1) r as else none
 |k,(false,_)::r,a::as=>(Fe (k+1) r as).map λl=>a::l
 |_,_,_=>none
def cD (st:St):List AC->List (Bool×CK)->Prop
 | .own l off len::as,(true,_)::r=>(off=0/\match st.at l with
  |some (.arr _ _ _ _ xs)=>len=xs.length
  |some (.Dj _ _ xs)=>len=xs.length
  |_=>False)/\cD st as r
 |_::as,(false,_)::r=>cD st as r
 |_,_=>True
def zC (s:MSpec) (st:St) (l:List AV):Option (List AC×List Nat):=match s.rp with
 |none=>if s.Gg=Nat.blt 1 l.length then (ungroup s.Gj l).map λas=>(as,[]) else none
 |some tid=>match l with
  | [.at (.Dz m i)]=>match st.at m with
   |some (.var Nw vs)=>if Nw=tid/\i=0/\Nat.blt m Ai=true then some (vs,[m]) else none
   |_=>none
  |_=>none
def qO (st:St) (n:Nat) (as:List AC):List (Nat×Nat)->Prop
 | []=>True
 |(k,j)::r=>(match as[j]? with
  |some (.own l _ _)=>match st.at l with
   |some (.Ak _ _ _ _ (some p))=>p.1=Bq false k/\n<=p.2/\Nat.blt k 1000=true
   |_=>False
  |_=>False)/\qO st n as r
def dW (s:MSpec) (fn:Func) (x:Ins.den s.ins) (st:St) (cs:List AC) (P:CKs.den s.outs×IOs.den s.ins->Prop):Prop:=
 match Xo T st fn.results.toList with
 |none=>False
 |some l=>match zC s st l with
  |none=>False
  |some (as,ml)=>match Od st s.outs (cs++as),Jo st 0 s.ins with
   |some (r,ls),some o=>(Su (ml++ls++Ke 0 s.ins)&&Nat.blt s.ins.length 1000&&Nat.blt s.outs.length 1000&&s.LD)=true/\qO st (s.Cr x) (cs++as) s.keeps/\P (r,o)
   |_,_=>False
def IJ (s:MSpec) (fn:Func) (x:Ins.den s.ins) (st:St) (P:CKs.den s.outs×IOs.den s.ins->Prop):Prop:=
 match s.ptr with
 |none=>dW T s fn x st [] P
 |some p=> ∃vs cs,st.at Lt=some (.var p.1 vs)/\vs.length=p.2/\Fe 0 s.ins vs=some cs/\cD st vs s.ins/\dW T s fn x st cs P
def Ta (s:MSpec) (as:List AC):List AV:=match s.ptr with
 |none=>Mo s.Hf as
 |some p=> .at (.Dz Lt 0)::Mo s.Hf (as.drop p.2)
def kM (s:MSpec) (x:Ins.den s.ins):List (Nat×OB):=match s.ptr with
 |none=>Sh 0 s.ins x
 |some p=>Sh 0 s.ins x++ [(Lt, .var p.1 ((Vc 0 s.ins x).take p.2))]
def Sk:List (Bool×CK)->Bool
 | []=>true
 |(true, .Ak _ _ _)::_=>false
 |_::r=>Sk r
def tD (s:MSpec):Bool:=Sk s.ins&&match s.ptr with
 |none=>true
 |some p=>Nat.ble p.2 s.ins.length
def SH (Γ:Env) (s:MSpec) (fn:Func) (x:Ins.den s.ins) (P:CKs.den s.outs×IOs.den s.ins->Prop):Prop:=
 (Nat.blt s.ins.length 1000&&tD s)=true/\ ∃c,fn.body=some c/\Jj T Γ (sY T.marks fn c) c {tmps:=Ta s (Vc 0 s.ins x)++List.replicate (fn.ntmps-(Ta s (Vc 0 s.ins x)).length) .undef,heap:=kM s x}
  (λe st=>(∀id,e≠ .exit id)/\IJ T s fn x st P)
def IK (Γ:Env) (s:Spec) (fn:Func) (x:s.arg.den) (P:s.res.den->Prop):Prop:=
 ∃c,fn.body=some c/\Jj T Γ (sY T.marks fn c) c {tmps:=Mk s.arg x++List.replicate (fn.ntmps-(Mk s.arg x).length) .undef,heap:= []}
  (λe st=>(∀id,e≠ .exit id)/\ ∃fr y,gW T s fn st=some (fr,y)/\(fr||!s.fresh)=true/\P y)
end Go.Proofs.Ytjbdmibbbpdnnaa
