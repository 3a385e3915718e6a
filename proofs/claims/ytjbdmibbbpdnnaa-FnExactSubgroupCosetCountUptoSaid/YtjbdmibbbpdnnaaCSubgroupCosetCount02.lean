/-
  Part 3 of the proof that the statement FnExactSubgroupCosetCount holds.
-/
import Derived.Test.YtjbdmibbbpdnnaaCSubgroupCosetCount01
namespace Go.Proofs.Ytjbdmibbbpdnnaa
open Go.RowKit
def Cz:Nat->St->List AC->Option (List AC×St)
 |0,st,cs=>if cs.all (·.settled) then some (cs,st) else none
 |n+1,st,cs=>
  match cs.find? (λc=>!c.settled) with
  |none=>some (cs,st)
  |some (.own l _ _)=>match st.at l with
   |some (.arr fr _ e _ xs)=>Cz n (st.freeze l fr e xs) (cs.map (At l fr e xs))
   |some (.Cq e _ xs)=>Cz n (st.freeze l false e xs) (cs.map (At l false e xs))
   |_=>none
  |some (.Fm l)=>match st.at l with
   |some (.Mz v m)=>Cz n (st.Dw l v m) (cs.map (Cs l v m))
   |_=>none
  |some _=>none
def settle (st:St):AV->Option (AV×St)
 | .at (.own l off len)=>match st.at l with
  |some (.arr fr _ e _ xs)=>some (.at (.data fr (.slice e) ((xs.drop off).take len)),st.freeze l fr e xs)
  |some (.Cq e _ xs)=>some (.at (.data false (.slice e) ((xs.drop off).take len)),st.freeze l false e xs)
  |_=>none
 | .at (.Fm l)=>match st.at l with
  |some (.Mz v m)=>some (.at (.data false (.smap v) m),st.Dw l v m)
  |_=>none
 | .at a=>if a.settled then some (.at a,st) else none
 | .agg cs=>(Cz cs.length st cs).map λp=>(.agg p.1,p.2)
 | .Si fr τ x=>some (.Si fr τ x,st)
 | .Hv _=>none
def AC.refs:AC->List Nat
 | .own l _ _| .Df l _| .Ey l _| .Fm l| .sub l _ _| .Ew l _ _=> [l]
 | .clo _ Bn=>Bn.map (·.1)
 |_=> []
def Qt:List Nat->Bool
 | []=>true
 |a::r=>!r.contains a&&Qt r
def Ty.tree:Ty->Bool
 | .int _| .bool| .str| .unit=>true
 | .slice e=>e.tree
 | .pair a r=>a.tree&&r.tree
 |_=>false
def Km (st:St):AC->Bool
 | .data _ τ _=>τ.flat
 | .Gr=>true
 | .own l _ _=>match st.at l with
  |some (.arr _ tr e _ _)=>tr||e.flat
  |some (.Cq _ _ _)=>true
  |_=>false
 |_=>false
def Lk (st:St):AV->Bool
 | .at a=>Km st a
 | .agg cs=>cs.all (Km st)&&Qt (cs.flatMap AC.refs)
 |_=>false
def Ag:Nat:=1000000000
variable (T:Tab)
def wQ (t:TypeId) (τ:Ty) (i:Nat):Option TypeId:=
 if τ.Ab then (List.range 24).findSome? λf=>match T.off t f with
  |some (o,u)=>if o=i then some u else none
  |none=>none
 else some t
def Tab.x4 (te:TypeId):Option Ty:=if T.GQ.contains te then (match T.ty te with
 |some (.slice e)=>some e
 |_=>none) else none
def Vo (te:TypeId) (e:Ty):OB:=match T.x4 te with
 |some e'=> .Ah e' te [] none none
 |none=> .arr (T.lX||e.flat) T.qR e te []
def Mh (b:OB) (key l i:Nat) (st:St):St:=
 match st.at l with
 |some (.var _ vs)=>match vs[i]? with
  |some .Gr=>
   let s1:=st.new key b
   match s1.at l with
   |some (.var tid qT)=>s1.Fb l (.var tid (Mj qT i (.own key 0 0)))
   |_=>s1
  |_=>st
 |_=>st
def Yc (l:Nat) (t:TypeId) (τ:Ty):Nat->Nat->St->St
 |0,_,st=>st
 |n+1,i,st=>
  Yc l t τ n (i+1) (match ((wQ T t τ i).bind T.elem).bind λte=>(T.ty te).map λe=>(te,e) with
   |some (te,e)=>Mh (Vo T te e) (100000+l*100+i) l i st
   |none=>st)
def Wk (l off:Nat) (t:TypeId) (τ:Ty):Nat->Nat->St->St
 |0,_,st=>st
 |n+1,i,st=>
  Wk l off t τ n (i+1) (match ((wQ T t τ i).bind T.elem).bind λte=>(T.ty te).map λe=>(te,e) with
   |some (te,e)=>Mh (Vo T te e) (100000+l*100+(off+i)) l (off+i) st
   |none=>st)
def zeroCells:(τ:Ty)->List AC
 | .unit=> []
 | .pair a r=>zeroCells a++zeroCells r
 | .slice _=> [.Gr]
 | .oslice _=> [.Gr]
 | .ptr _=> [.Ox]
 | .optr _=> [.Ox]
 | .clo _ _=> [.undef]
 |τ=> [.data true τ τ.zero]
def cellsOf (τ:Ty):AV->Option (List AC)
 | .agg cs=>if τ.Ab&&cs.length==τ.size then some cs else none
 | .at (.data fr Hz x)=>if Hz=τ then some (Po fr Hz x) else none
 | .at .undef=>none
 | .at .skip=>none
 | .at a=>if τ.Ab then none else some [a]
 |_=>none
def mkVar (st:St) (l:Nat) (t:TypeId) (τ:Ty) (cs:List AC):Option (AV×St):=
 if Ag<=100000+l*100+cs.length then none else
 let s:=Yc T l t τ cs.length 0 (st.new l (.var t (cs.map (As l))))
 match s.at l with
 |some (.var _ _)=>some (.at (.Df l 0),s)
 |_=>none
def Bi {α:Type} (xs:List α) (i:Nat) (ys:List α):List α:=xs.take i++ys++xs.drop (i+ys.length)
def Mm (st:St) (t:TypeId) (p v:AV):Option St:=
 match T.ty t,p with
 |some τ, .at (.Df l i)=>match st.at l,cellsOf τ v with
  |some (.var tid vs),some cs=>if i+cs.length<=vs.length then some (if τ.Ab&&Nat.blt (100000+l*100+(i+cs.length)) Ag then Wk T l i t τ cs.length 0 (st.Fb l (.var tid (Bi vs i cs))) else st.Fb l (.var tid (Bi vs i cs))) else none
  |_,_=>none
 |some τ, .at (.Ey l j)=>match settle st v with
  |some (v',st')=>match st'.at l,Cg st' τ v' with
   |some (.arr fr tr e tid xs),some (Nf,x)=>if h:τ=e then (if j<xs.length then some (st'.Fb l (.arr (fr&&Nf) (tr&&(Lk st v&&e.tree)) e tid (xs.set j (h▸x)))) else none) else none
   |_,_=>none
  |none=>none
 |_,_=>none
def Bq:Nat:=4294967296
def Hp (st:St) (dst:Nat) (t:TypeId) (x y:Operand):Option (AV×St):=
 match T.elem t with
 |none=>none
 |some te=>match T.ty te,settle st (st.ev y) with
  |some e,some (y',st')=>match Cg st' (.slice e) y' with
   |none=>none
   |some (jt,ys)=>
    let tr2:=e.flat||(Lk st (st.ev y)&&e.tree)
    match st'.ev x with
    | .at .Gr=>if ys.length<=Bq/\dst<Ag then some (.at (.own dst 0 (0+ys.length)),(st'.new dst (.arr (T.lX||e.flat) T.qR e te [])).new dst (.arr ((T.lX||e.flat)&&(jt||e.flat)) (T.qR&&tr2) e te (((([]:List e.den).drop 0).take 0)++ys))) else none
    | .at (.own l off len)=>match st'.at l with
     |some (.arr fr tr e' tid xs)=>if h:e'=e/\tid=te then
       (if len+ys.length<=Bq/\l<Ag then
        some (.at (.own l 0 (len+ys.length)),st'.new l (.arr (fr&&(jt||e.flat)) (tr&&tr2) e te ((((h.1▸xs:List e.den).drop off).take len)++ys))) else none)
      else none
     |_=>none
    |_=>none
  |_,_=>none
def Jg (st:St) (l i m:Nat) (e:Ty) (te tid:TypeId) (rows:List (List e.den)) (kp:Option (Nat×Nat)):St:=
 (st.Fb l (.Ah e te rows (some i) kp)).new m (.arr false false e tid (rows.getD i []))
def Kf (st:St) (dst:Nat) (t:TypeId) (x y:Operand):Option (AV×St):=
 match x with
 | .tmp tx=>match st.get tx with
  | .at (.sub l i _)=>match st.at l,T.elem t with
   |some (.Ah e te rows none kp),some tid=>if (Nat.blt l Ag&&(Nat.blt dst Ag&&!Nat.beq dst l))=true then Hp T ((Jg st l i dst e te tid rows kp).put (some tx) (.at (.own dst 0 (rows.getD i []).length))) dst t x y else none
   |_,_=>none
  |_=>Hp T st dst t x y
 |_=>Hp T st dst t x y
def ed:Ty->Bool
 | .int _| .bool| .str| .slice _| .oslice _=>true
 |_=>false
def Yw:Ty->Bool
 | .unit=>true
 | .pair a r=>Yw a&&Yw r
 |e=>ed e
def Ss (st:St) (dst:Nat) (t:TypeId) (l c:AV):Option (AV×St):=
 match T.elem t,l,c with
 |some te, .at (.data _ (.int _) n), .at (.data _ (.int _) m)=>match T.ty te with
  |some e=>if IB n (Bq+1)=true/\n=m/\Yw e=true/\dst<Ag then some (.at (.own dst 0 n.toNat),st.new dst (.arr (T.lX||e.flat) (T.qR&&e.tree) e te (List.replicate n.toNat e.zero))) else none
  |none=>none
 |_,_,_=>none
def Fu (e:Ty):Nat->List (Nat×Operand)->St->Option (Bool×Bool×List e.den×St)
 |_,[],st=>some (true,true,[],st)
 |i,(j,x)::r,st=>
  if i=j then match settle st (st.ev x) with
   |some (v,st')=>match Cg st' e v with
    |some (fr,y)=>match Fu e (i+1) r st' with
     |some (Nf,CV,ys,YG)=>some (fr&&Nf,Lk st (st.ev x)&&e.tree&&CV,y::ys,YG)
     |none=>none
    |none=>none
   |none=>none
  else none
def Gk (st:St) (dst:Nat) (t:TypeId) (len:Nat) (parts:Array (Nat×Operand)):Option (AV×St):=
 match T.elem t with
 |none=>none
 |some te=>match T.ty te with
  |none=>none
  |some e=>if parts.size=len/\len<=64/\e.size<=64/\dst<Ag then (match Fu e 0 parts.toList st with
   |some (fr,tr,ys,st')=>some (.at (.own dst 0 len),st'.new dst (.arr ((T.lX||e.flat)&&fr) (T.qR&&tr) e te ys))
   |none=>none) else none
def Ml (st:St) (dst:Nat) (t:TypeId):Option (AV×St):=
 match T.mapOf t with
 |some v=>if dst<Ag then some (.at (.Fm dst),st.new dst (.Mz v λ_=>none)) else none
 |none=>none
def Yt {α:Type} (m:ByteArray->Option α) (k:ByteArray) (x:α):ByteArray->Option α:= λs=>if s=k then some x else m s
def Ee (st:St) (t:TypeId) (m k x:AV):Option St:=
 match T.mapOf t,m,k with
 |some v, .at (.Fm l), .at (.data _ .str s)=>match st.at l,Cg st v x with
  |some (.Mz v' f),some (_,y)=>if h:v'=v/\v.flat=true/\v.Ab=false then some (st.Fb l (.Mz v (Yt (h.1▸f:ByteArray->Option v.den) s y))) else none
  |_,_=>none
 |_,_,_=>none
def az (st:St) (t t':TypeId) (x y:AV):Option (AV×St):=
 match x,(T.elem t).bind T.ty with
 | .at (.own l off len),some e=>if T.elem t=T.elem t'/\e.flat=true/\e.size=1 then match st.at l,Cg st (.slice e) y with
  |some (.arr fr _ e' tid xs),some (_,ys)=>if h:e'=e/\T.elem t=some tid then
    some (.at (.data true (.int .i64) (min len ys.length:Nat)),st.Fb l (.arr fr false e tid (Bi (h.1▸xs:List e.den) off (ys.take len))))
   else none
  |_,_=>none
  else none
 |_,_=>none
def evalClear (st:St) (t:TypeId) (x:AV):Option St:=
 match x,(T.elem t).bind T.ty with
 | .at (.own l off len),some e=>if e.flat=true/\ed e=true then match st.at l with
  |some (.arr fr _ e' tid xs)=>if h:e'=e/\T.elem t=some tid then
    some (st.Fb l (.arr fr false e tid (Bi (h.1▸xs:List e.den) off (List.replicate len e.zero))))
   else none
  |_=>none
  else none
 |_,_=>none
def Gj (st:St) (t:TypeId):List (Nat×Operand)->List AC->Option (List AC)
 | [],cs=>some cs
 |(i,x)::r,cs=>
  match T.off t i with
  |some (o,u)=>match T.ty u with
   |some ρ=>match cellsOf ρ (st.ev x) with
    |some c=>if o+c.length<=cs.length then Gj st t r (Bi cs o c) else none
    |none=>none
   |none=>none
  |none=>none
def Ok (st:St) (t:TypeId) (parts:Array (Nat×Operand)):Option AV:=
 match T.ty t with
 |none=>none
 |some τ=>if τ.Ab then (Gj T st t parts.toList (zeroCells τ)).map .agg else none
def Bk (io:Bool) (k:Nat):Nat:=if io then 1000000000+k else 500000+k
def Eu (k:Nat):Nat:=600000+k
def BK (dst:Nat) (k:Nat):Nat:=1000000*(dst+1)+k
def Lf:List (Option Nat)->List AC->List AV
 |none::s,a::as=> .at a::Lf s as
 |some n::s,as=> .agg (as.take n)::Lf s (as.drop n)
 |_,_=> []
def Fv:List (Option Nat)->List Value->List Value
 |none::s,u::us=>u::Fv s us
 |some n::s,us=> .agg (us.take n).toArray::Fv s (us.drop n)
 |_,_=> []
def ungroup:List (Option Nat)->List AV->Option (List AC)
 | [],[]=>some []
 |none::s, .at a::as=>(ungroup s as).map λr=>a::r
 |some n::s, .agg cs::as=>if cs.length=n then (ungroup s as).map λr=>cs++r else none
 |_,_=>none
def cg (l:Nat):(c:CK)->c.den->Option OB
 | .Gd _,_=>none
 | .row e te,xs=>some (.arr false false e te xs)
 | .Dc e te,xs=>some (.Cq e te xs)
 | .part e te,x=>some (.arr false false e te x.1)
 | .Ah e te kp,xs=>some (.Ah e te xs none (if kp then some (l,List.length xs) else none))
def UC (l:Nat):(c:CK)->c.den->AC
 | .Gd τ,x=> .data τ.flat τ x
 | .row _ _,xs=> .own l 0 (List.length xs)
 | .Dc _ _,xs=> .own l 0 (List.length xs)
 | .part _ _,x=> .own l x.2.1 x.2.2
 | .Ah _ _ _,xs=> .own l 0 (List.length xs)
def ao {α:Type} (l:Nat):Option α->List (Nat×α)->List (Nat×α)
 |none,r=>r
 |some b,r=>(l,b)::r
def Qf:(k:Nat)->(cs:List (Bool×CK))->Ins.den cs->List (Nat×OB)
 |_,[],_=> []
 |k,p::r,x=>ao (Bk p.1 k) (cg (Bk p.1 k) p.2 x.1) (Qf (k+1) r x.2)
def Sz:(k:Nat)->(cs:List (Bool×CK))->Ins.den cs->List AC
 |_,[],_=> []
 |k,p::r,x=>UC (Bk p.1 k) p.2 x.1::Sz (k+1) r x.2
inductive Loc where
 |row (l:Nat)
 |sub (l i c:Nat)
 |view (l:Nat)
 deriving DecidableEq
def Loc.Oa:Loc->Nat
 | .row l=>l
 | .sub l _ _=>l
 | .view l=>l
def Loc.reads:Loc->Bool
 | .view _=>true
 |_=>false
def To (st:St) (ls:List Nat):Bool:=ls.all λl=>match st.at l with|some (.var _ vs)=>vs.all (·.settled)|_=>false
def views (k:Nat) (ls:List Nat):List (Nat×Loc):=ls.map λl=>(Bk false k, .view l)
def Ge (st:St) (io:Bool) (k:Nat):(c:CK)->AC->Option (c.den×List (Nat×Loc))
 | .Gd τ, .own l off len=>(Bf st τ (.own l off len)).map λp=>(p.2,[(Bk false k, .view l)])
 | .Gd τ, .clo g Bn=>if To st (Bn.map (·.1))&&!τ.Ab then (Ep st τ (.clo g Bn)).map λp=>(p.2,views k (Bn.map (·.1))) else none
 | .Gd τ, .Df l i=>if To st [l]&&!τ.Ab then (Ep st τ (.Df l i)).map λp=>(p.2,views k [l]) else none
 | .Gd τ, .sub l i c=>(Bf st τ (.sub l i c)).map λp=>(p.2,[(Bk false k, .view l)])
 | .Gd τ,a=>if τ.flat||a.settled then (Bf st τ a).map λp=>(p.2,[]) else none
 | .row e te, .own l off len=>match st.at l with
  |some (.arr _ _ e' Kc xs)=>if h:e'=e/\Kc=te/\off=0/\len=xs.length then some ((h.1▸xs:List e.den),[(Bk io k, .row l)]) else none
  |_=>none
 | .row e _, .sub l i c=>match st.at l with
  |some (.Cq e' _ xs)=>if h:e'= .slice e/\e.flat=true/\io=true/\c=0 then xs[i]?.map λy=>((h.1▸y:(Ty.slice e).den),[(Bk io k, .sub l i c)]) else none
  |_=>none
 | .row _ _, .Gr=>some ([],[])
 | .Dc e te, .own l off len=>match st.at l with
  |some (.Cq e' Kc xs)=>if h:e'=e/\Kc=te/\off=0/\len=xs.length then some ((h.1▸xs:List e.den),[(Bk io k, .row l)]) else none
  |_=>none
 | .Dc e _, .sub l i c=>match st.at l with
  |some (.Cq e' _ xs)=>if h:e'= .slice e/\io=true/\c=0 then xs[i]?.map λy=>((h.1▸y:(Ty.slice e).den),[(Bk io k, .sub l i c)]) else none
  |_=>none
 | .Dc _ _, .Gr=>some ([],[])
 | .part e te, .own l off len=>match st.at l with
  |some (.arr _ _ e' Kc xs)=>if h:e'=e/\Kc=te/\e.flat=true/\io=true then some (((h.1▸xs:List e.den),off,len),[(Bk io k, .row l)]) else none
  |_=>none
 | .Ah e te _, .own l off len=>match st.at l with
  |some (.Ah e' Kc rows none _)=>if h:e'=e/\Kc=te/\off=0/\len=rows.length/\io=false then some ((h.1▸rows:List (List e.den)),[(Bk io k, .row l)]) else none
  |_=>none
 |_,_=>none
def Ys (st:St):(k:Nat)->(cs:List (Bool×CK))->List AC->Option (Ins.den cs×List (Nat×Loc))
 |_,[],[]=>some ((),[])
 |k,p::r,a::as=>match Ge st p.1 k p.2 a,Ys st (k+1) r as with
  |some (x,t1),some (y,t2)=>some ((x,y),t1++t2)
  |_,_=>none
 |_,_,_=>none
def Tr (st:St):(c:CK)->c.den->AC->Option St
 | .row e _,ys, .own l _ len=>match st.at l with
  |some (.arr fr tr e' te xs)=>if h:e=e'/\List.length ys=len/\xs.length=len then some (st.Fb l (.arr (fr&&e'.flat) (tr&&e'.flat) e' te (h.1▸ys))) else none
  |_=>none
 | .Dc e _,ys, .own l _ len=>match st.at l with
  |some (.Cq e' te xs)=>if h:e=e'/\List.length ys=len/\xs.length=len then some (st.Fb l (.Cq e' te (h.1▸ys))) else none
  |_=>none
 | .row e _,ys, .sub l i _=>match st.at l with
  |some (.Cq e' te xs)=>if h: .slice e=e' then (match xs[i]? with
   |some y=>if List.length ys=List.length (h▸y:(Ty.slice e).den) then some (st.Fb l (.Cq e' te (xs.set i (h▸(ys:(Ty.slice e).den))))) else none
   |none=>none) else none
  |_=>none
 | .Dc e _,ys, .sub l i _=>match st.at l with
  |some (.Cq e' te xs)=>if h: .slice e=e' then (match xs[i]? with
   |some y=>if List.length ys=List.length (h▸y:(Ty.slice e).den) then some (st.Fb l (.Cq e' te (xs.set i (h▸(ys:(Ty.slice e).den))))) else none
   |none=>none) else none
  |_=>none
 |_,_, .Gr=>some st
 |_,_,_=>none
def vS (st:St) (e:Ty) (ys:List e.den):AC->Option St
 | .own l _ _=>match st.at l with
  |some (.arr fr tr e' te xs)=>if h:e=e'/\List.length ys=xs.length then some (st.Fb l (.arr fr tr e' te (h.1▸ys))) else none
  |_=>none
 |_=>none
def Dl:(cs:List (Bool×CK))->IOs.den cs->List AC->St->Option St
 | [],_,_,st=>some st
 |(true, .Gd _)::r,x,_::as,st=>Dl r x as st
 |(true, .row e te)::r,x,a::as,st=>match Tr st (.row e te) x.1 a with
  |some st'=>Dl r x.2 as st'
  |none=>none
 |(true, .Dc e te)::r,x,a::as,st=>match Tr st (.Dc e te) x.1 a with
  |some st'=>Dl r x.2 as st'
  |none=>none
 |(true, .part e _)::r,x,a::as,st=>match vS st e x.1 a with
  |some st'=>Dl r x.2 as st'
  |none=>none
 |(true, .Ah _ _ _)::r,x,_::as,st=>Dl r x as st
 |(false,_)::r,x,_::as,st=>Dl r x as st
 |_,_,_,_=>none
def Ap (dead part:List Nat) (c:AC):AC:=if c.refs.any (λl=>dead.contains l) then .undef else match c with
 | .sub l i c=>if part.contains l then .undef else .sub l i c
 | .Ew l i c=>if part.contains l then .undef else .Ew l i c
 |c=>c
def Oi:List (Nat×OB)->List Nat->List (Nat×OB)
 | [],_=> []
 |(k,b)::r,dead=>if dead.contains k then Oi r dead else (k,b)::Oi r dead
def St.Tz (st:St) (dead part:List Nat):St:=let s:=st.Fl (Ap dead part); {s with heap:=Oi s.heap dead}
def Ln (st:St) (l j m:Nat) (e:Ty) (te:TypeId) (rows:List (List e.den)) (xs:List e.den) (kp:Option (Nat×Nat)):St:=
 (st.Tz [m] [l]).Fb l (.Ah e te (rows.set j xs) none kp)
def Te (j:Nat):Option (Nat×Nat)->Option (Nat×Nat)
 |none=>none
 |some p=>some (p.1,min p.2 j)
def Sw (st:St) (t:TypeId) (p v:AV):Option St:=
 match T.ty t,p with
 |some τ, .at (.Ew l i j)=>match settle st v with
  |some (v',st')=>match st'.at l,Cg st' τ v' with
   |some (.Ah e te rows none kp),some (_,x)=>if h:τ=e then some (st'.Fb l (.Ah e te (rows.set i ((rows.getD i []).set j (h▸x))) none kp)) else none
   |_,_=>none
  |none=>none
 |some τ, .at (.Ey l j)=>match st.at l,v with
  |some (.Ah e te rows out kp), .at (.own m off len)=>match st.at m with
   |some (.arr _ _ e' _ xs)=>if h:e'=e/\(Nat.blt l Ag&&(!Nat.beq m l&&!τ.Ab))=true/\off=0/\len=xs.length/\(out=none\/out=some j) then some (Ln st l j m e te rows (h.1▸xs) (Te j kp)) else none
   |_=>none
  |_,_=>none
 |_,_=>none
def x5 (st:St):AV->Bool
 | .at (.Ew _ _ _)=>true
 | .at (.Ey l _)=>match st.at l with
  |some (.Ah _ _ _ _ _)=>true
  |_=>false
 |_=>false
def Iv (st:St) (t:TypeId) (p v:AV):Option St:=match x5 st p with
 |true=>Sw T st t p v
 |false=>Mm T st t p v
def Jy (st:St) (k m:Nat) (b:OB):St:=let s:=st.Tz [m,k] []; {s with heap:=Ib s.heap k b}
def Vx (t:TypeId):Option (TypeId×Ty):=(T.elem t).bind λte=>(T.x4 te).map λe=>(te,e)
def On (st:St) (dst:Nat) (t:TypeId) (l c:AV):Option (AV×St):=
 match Vx T t with
 |none=>Ss T st dst t l c
 |some (te,e)=>match l,c with
  | .at (.data _ (.int _) n), .at (.data _ (.int _) m)=>if IB n (Bq+1)=true/\n=m/\dst<Ag then some (.at (.own dst 0 n.toNat),Jy st dst dst (.Ah e te (List.replicate n.toNat []) none none)) else none
  |_,_=>none
def Ec (st:St) (dst:Nat) (t:TypeId) (len:Nat) (parts:Array (Nat×Operand)):Option (AV×St):=
 match Vx T t with
 |none=>Gk T st dst t len parts
 |some (te,e)=>match parts.toList with
  | [(0,x)]=>match st.ev x with
   | .at (.own m off ln)=>match st.at m with
    |some (.arr _ _ e' _ xs)=>if h:e'=e/\(Nat.beq len 1&&(Nat.blt dst Ag&&Nat.blt m Ag))=true/\off=0/\ln=xs.length then some (.at (.own dst 0 1),Jy st dst m (.Ah e te [h.1▸xs] none none)) else none
    |_=>none
   |_=>none
  |_=>none
def Kg (st:St) (dst:Nat) (t:TypeId) (x y:Operand):Option (AV×St):=
 match Vx T t with
 |none=>Kf T st dst t x y
 |some (te,e)=>match st.ev x,st.ev y with
  | .at (.own l off len), .at (.own m BL kL)=>match st.at l,st.at m with
   |some (.Ah e1 TV A none _),some (.Ah e2 mW B none _)=>
    if h:(e1=e/\e2=e)/\(decide (TV=te)&&decide (mW=te)&&(Nat.blt l Ag&&(Nat.blt m Ag&&!Nat.beq m l)))=true/\(off=0/\len=A.length)/\(BL=0/\kL=B.length)/\0<B.length/\A.length+B.length<=Bq then
     some (.at (.own l 0 (A.length+B.length)),Jy st l m (.Ah e te ((h.1.1▸A:List (List e.den))++(h.1.2▸B:List (List e.den))) none none))
    else none
   |_,_=>none
  |_,_=>none
def mA (fr:Bool):(c:CK)->c.den->Option OB
 | .Gd _,_=>none
 | .row e te,xs=>some (.arr (fr&&e.flat) false e te xs)
 | .Dc e te,xs=>some (.Cq e te xs)
 | .part e te,x=>some (.arr (fr&&e.flat) false e te x.1)
 | .Ah e te _,xs=>some (.Ah e te xs none none)
def sf (H:List (Nat×OB)) (l:Nat):Option OB->List (Nat×OB)
 |some b=>Ib H l b
 |none=>H
def Oz (fr:Bool) (key:Nat->Nat):(k:Nat)->(cs:List CK)->CKs.den cs->List (Nat×OB)->List (Nat×OB)
 |_,[],_,H=>H
 |k,c::r,x,H=>Oz fr key (k+1) r x.2 (sf H (key k) (mA fr c x.1))
def Th (key:Nat->Nat):(k:Nat)->(cs:List CK)->CKs.den cs->List AC
 |_,[],_=> []
 |k,c::r,x=>(match c,x.1 with
  | .Gd τ,y=> .data τ.flat τ y
  | .row _ _,xs=> .own (key k) 0 (List.length xs)
  | .Dc _ _,xs=> .own (key k) 0 (List.length xs)
  | .Ah _ _ _,xs=> .own (key k) 0 (List.length xs)
  | .part _ _,_=> .undef)::Th key (k+1) r x.2
def Qu:List (Option Nat)->List AC->List (Bool×List AC)
 |none::s,a::as=>(false,[a])::Qu s as
 |some n::s,as=>(true,as.take n)::Qu s (as.drop n)
 |_,_=> []
def RH (Dp:Bool) (sh:List (Option Nat)) (as:List AC):Option AV:=
 if Dp then some (.Hv (Qu sh as)) else match Lf sh as with
  | [v]=>some v
  | []=>some .undef
  |_=>none
def eB (tks:List (Nat×Loc)):List Nat:=(tks.filter λt=>Nat.blt t.1 Ag&&!t.2.reads).map λt=>t.2.Oa
def whole (tks:List (Nat×Loc)):List Nat:=tks.flatMap λt=>match t.2 with| .row l=> [l]|_=> []
def qF (tks:List (Nat×Loc)):List Nat:=(tks.filter λt=>t.2.reads).map λt=>t.2.Oa
def ss (ins:List (Bool×CK)) (te:TypeId) (used:List Nat):List (Nat×Loc)->Option Nat
 | []=>none
 |(k, .row l)::r=>if Nat.blt k Ag&&(!used.contains l&&(match ins[k-500000]? with
   |some (false, .row _ Kc)=>decide (Kc=te)
   |some (false, .Dc _ Kc)=>decide (Kc=te)
   |some (false, .Ah _ Kc _)=>decide (Kc=te)
   |_=>false)) then some l else ss ins te used r
 |_::r=>ss ins te used r
def vo (ins:List (Bool×CK)) (tks:List (Nat×Loc)) (d:Nat):(k:Nat)->(used:List Nat)->List CK->List Nat
 |_,_,[]=> []
 |k,used,c::r=>match (match c with
   | .row _ te=>ss ins te used tks
   | .Dc _ te=>ss ins te used tks
   | .Ah _ te _=>ss ins te used tks
   |_=>none) with
  |some l=>l::vo ins tks d (k+1) (l::used) r
  |none=>BK d k::vo ins tks d (k+1) used r
def ew (s:MSpec) (tks:List (Nat×Loc)) (d:Nat):List Nat:=vo s.ins tks d 0 [] s.outs
def Bl (ks:List Nat) (j:Nat):Nat:=match ks[j]? with
 |some l=>l
 |none=>Ag+j
def pt (ks:List Nat) (n:Nat):Bool:=Nat.beq ks.length n&&(Qt ks&&ks.all λl=>Nat.blt l Ag)
def wW (st:St) (l:List Nat):Bool:=l.all λk=>match st.at k with|some (.arr fr _ _ _ _)=>fr|_=>false
def xp (st:St) (s:MSpec) (args:List AV):Option (List Nat×List AC×List AV):=
 match s.ptr with
 |none=>some ([],[],args)
 |some p=>match args with
  | .at (.Df l i)::rest=>match st.at l with
   |some (.var tid vs)=>if tid=p.1/\vs.length=p.2/\i=0 then some ([l],vs,rest) else none
   |_=>none
  |_=>none
def Nj:List (Bool×CK)->List AC->Bool
 |(true, .row _ _)::r, .own _ _ _::as=>Nj r as
 |(true, .Dc _ _)::r, .own _ _ _::as=>Nj r as
 |(true,_)::_,_::_=>false
 |(false,_)::r,_::as=>Nj r as
 |_,as=>as.isEmpty
def Zm {α:Type} :List (Bool×CK)->List α->List α->List α
 |(true,_)::r,v::vs,as=>v::Zm r vs as
 |(false,_)::r,_::vs,a::as=>a::Zm r vs as
 |_,vs,_=>vs
def lb:List (Bool×CK)->Nat->Nat
 |(true,_)::r,n+1=>lb r n
 |(false,_)::r,n+1=>lb r n+1
 |_,_=>0
def MSpec.Rc (s:MSpec):Nat:=match s.ptr with|none=>0|some p=>lb s.ins p.2
def je (ins:List (Bool×CK)) (as:List AC) (pl:List Nat) (st:St):St:=
 match pl with
 | []=>st
 |l::_=>match st.at l with
  |some (.var tid vs)=>st.Fb l (.var tid (Zm ins vs as))
  |_=>st
def Ll (d:Nat):Nat:=BK d 999
def dU (s:MSpec) (d:Nat):List Nat:=match s.rp with|none=> []|some _=> [Ll d]
def Kq (s:MSpec) (tks:List (Nat×Loc)) (d:Nat):List Nat:=ew s tks d++dU s d
def eW (H:List (Nat×OB)) (l:Nat):Bool:=match Ad H l with
 |some (.Ah _ _ _ _ _)=>true
 |_=>false
def Tb (H:List (Nat×OB)) (ks:List Nat) (tks:List (Nat×Loc)):List (Nat×Nat)->List Nat
 | []=> []
 |(k,j)::r=>match tks.find? (λt=>Nat.beq t.1 (Bk false k)),ks[j]? with
  |some (_, .row l),some l'=>if Nat.beq l' l&&eW H l then l::Tb H ks tks r else Tb H ks tks r
  |_,_=>Tb H ks tks r
def jv (H:List (Nat×OB)) (l:Nat):Nat:=match Ad H l with
 |some (.Ah _ _ rows _ _)=>rows.length
 |_=>0
def Vh (H:List (Nat×OB)) (ls:List Nat) (n:Nat):List AV->Bool
 | []=>true
 | .at (.sub l i _)::r=>(!ls.contains l||(Nat.blt i n&&Nat.blt i (jv H l)))&&Vh H ls n r
 |_::r=>Vh H ls n r
def Ga (ls:List Nat):List AV->List AV->List AV
 | .at (.sub l i c)::r,v::vs=>(if ls.contains l then .at (.sub l i c) else v)::Ga ls r vs
 |_::r,v::vs=>v::Ga ls r vs
 |_,vs=>vs
def KU:Option OB->Option (Nat×Nat)
 |some (.Ah _ _ _ _ kp)=>kp
 |_=>none
def OB.tp (b:OB) (kp:Option (Nat×Nat)):OB:=match b with
 | .Ah e te rows out _=> .Ah e te rows out kp
 |b=>b
def Ux (H0:List (Nat×OB)) (ls:List Nat) (n:Nat):List (Nat×OB)->List (Nat×OB)
 | []=> []
 |(l,b)::r=>(l,if ls.contains l then b.tp (Te n (KU (Ad H0 l))) else b)::Ux H0 ls n r
def dM (Zq st:St) (ls:List Nat) (n:Nat):St:=match ls with
 | []=>st
 |_=> {tmps:=Ga ls Zq.tmps st.tmps,heap:=Ux Zq.heap ls n st.heap}
def FN (s:MSpec) (d:Nat) (as:List AC):Option AV:=match s.rp with
 |none=>RH s.Dp s.Fg as
 |some _=>some (.at (.Df (Ll d) 0))
def dr (st st1:St) (d:Nat) (s:MSpec) (pl:List Nat) (tks:List (Nat×Loc)) (r:CKs.den s.outs):St:=
 let ks:=Kq s tks d
 let key:=Bl ks
 let RJ:=je s.ins (Th key 0 s.outs r) pl (st1.Tz (eB tks++ks++(if s.flat then [] else qF tks)) (whole tks))
 {RJ with heap:=Oz (wW st (eB tks)) key 0 s.outs r (sf RJ.heap (Ll d) (s.rp.map λtid=> .var tid ((Th key 0 s.outs r).drop s.Rc)))}
def Ol (st:St) (dst:Option Nat) (s:MSpec) (args:List AV):Option (AV×St):=
 match xp st s args with
 |none=>none
 |some (pl,vs,rest)=>match ungroup s.Gc rest with
 |none=>none
 |some fN=>match Ys st 0 s.ins (vs++fN) with
  |none=>none
  |some (x,tks)=>if Qt (tks.map λt=>t.2.Oa)&&pt (Kq s tks (dst.getD 0)) (s.outs.length+(dU s (dst.getD 0)).length)&&Nat.blt s.outs.length 1000&&Nat.blt s.ins.length 1000&&(Nj s.ins vs&&pl.all λl=>!((tks.map λt=>t.2.Oa)++Kq s tks (dst.getD 0)).contains l) then match s.fn x with
   |none=>none
   |some (r,o)=>match Dl s.ins o (vs++fN) st with
    |none=>none
    |some st1=>match FN s (dst.getD 0) ((Th (Bl (Kq s tks (dst.getD 0))) 0 s.outs r).drop s.Rc) with
     |none=>none
     |some v=>if Vh (dr st st1 (dst.getD 0) s pl tks r).heap (Tb st.heap (Kq s tks (dst.getD 0)) tks s.keeps) (s.Ch x) st.tmps=true then
       some (v,dM st (dr st st1 (dst.getD 0) s pl tks r) (Tb st.heap (Kq s tks (dst.getD 0)) tks s.keeps) (s.Ch x)) else none
   else none
def Im:List Operand->St->Option St
 | [],st=>some st
 |x::r,st=>match settle st (st.ev x) with
  |some (_,st')=>Im r st'
  |none=>none
def Xy (s:Spec) (args:List AV):Bool:=!(s.fresh||s.res.flat||args.all (·.settled))
def evalOp (Γ:Env) (st:St) (o:Oper):Option (AV×St):=
 match o.op with
 | .assign x=>match st.ev x,o.dst,(T.elem o.type).bind λte=>(T.ty te).map λe=>(te,e) with
  | .at .Gr,some d,some (te,e)=>if d<Ag then some (.at (.own d 0 0),st.new d (.arr (T.lX||e.flat) T.qR e te [])) else none
  |v,_,_=>some (v,st)
 | .alloc t=>match o.dst,T.ty t with
  |some d,some τ=>mkVar T st d t τ (zeroCells τ)
  |_,_=>none
 | .box t x=>match o.dst,T.ty t with
  |some d,some τ=>match cellsOf τ (st.ev x) with
   |some cs=>mkVar T st d t τ cs
   |none=>none
  |_,_=>none
 | .store t p x=>(Iv T st t (st.ev p) (st.ev x)).map λs=>(.undef,s)
 | .makeSlice t l c=>match o.dst with
  |some d=>On T st d t (st.ev l) (st.ev c)
  |none=>none
 | .makeMap t none=>match o.dst with
  |some d=>Ml T st d t
  |none=>none
 | .mapUpdate t m k x=>(Ee T st t (st.ev m) (st.ev k) (st.ev x)).map λs=>(.undef,s)
 | .insert t m k x=>(Ee T st t (st.ev m) (st.ev k) (st.ev x)).map λs=>(.undef,s)
 | .buildSlice t len parts=>match o.dst with
  |some d=>Ec T st d t len parts
  |none=>none
 | .build t parts=>(Ok T st t parts).map λv=>(v,st)
 | .call {callee:= .builtin .append,args,argTypes} =>match o.dst,args.toList,argTypes.toList with
  |some d,[x,y],[t,t']=>if t=t' then Kg T st d t x y else none
  |_,_,_=>none
 | .call {callee:= .builtin .copy,args,argTypes} =>match args.toList,argTypes.toList with
  | [x,y],[t,t']=>az T st t t' (st.ev x) (st.ev y)
  |_,_=>none
 | .call {callee:= .builtin .clear,args,argTypes} =>match args.toList,argTypes.toList with
  | [x],[t]=>(evalClear T st t (st.ev x)).map λs=>(.undef,s)
  |_,_=>none
 | .call {callee:= .value (.func f),args, .. } =>match Γ f with
  |some (.m s)=>Ol st o.dst s (args.toList.map st.ev)
  |some (.q s)=>if Xy s (args.toList.map st.ev) then (match Im args.toList st with
   |some st1=>(Bz T Γ st1 o).map λv=>(v,st1)
   |none=>none) else (Bz T Γ st o).map λv=>(v,st)
  |_=>(Bz T Γ st o).map λv=>(v,st)
 |_=>(Bz T Γ st o).map λv=>(v,st)
def Yb (e:Ty):Nat->List (Nat×Operand)->St->Option (Bool×List e.den)
 |_,[],_=>some (true,[])
 |i,(j,x)::r,st=>
  if i=j/\(st.ev x).settled=true then match Cg st e (st.ev x),Yb e (i+1) r st with
   |some (fr,y),some (Nf,ys)=>some (fr&&Nf,y::ys)
   |_,_=>none
  else none
def Sr (st:St) (t:TypeId) (len:Nat) (parts:Array (Nat×Operand)):Option AV:=
 match T.elem t with
 |none=>none
 |some te=>match T.ty te with
  |none=>none
  |some e=>if parts.size=len/\len<=64/\e.size<=64 then (Yb e 0 parts.toList st).map λp=> .at (.data p.1 (.slice e) p.2) else none
def Py (Γ:Env) (st:St) (o:Oper):Option AV:=
 match o.op with
 | .buildSlice t len parts=>Sr T st t len parts
 | .build t parts=>Ok T st t parts
 |_=>Bz T Γ st o
def BF (q:Bool) (Γ:Env) (o:Oper):Bool:=
 match o.op with
 | .buildSlice _ _ _| .build _ _=>!q
 | .alloc _| .box _ _| .store _ _ _| .makeSlice _ _ _| .makeMap _ _| .mapUpdate _ _ _ _| .insert _ _ _ _=>true
 | .assign (.const _)=>true
 | .call {callee:= .builtin .append, .. } =>true
 | .call {callee:= .builtin .copy, .. } =>true
 | .call {callee:= .builtin .clear, .. } =>true
 | .call {callee:= .value (.func f), .. } =>match Γ f with
  |some (.m _)=>true
  |_=>false
 |_=>false
def Ca (Γ:Env) (ops:Array Oper) (st:St) (o:Oper):Option St:=
 match o.guard with
 |none=>(evalOp T Γ st o).map λr=>r.2.put o.dst r.1
 |some (j,want)=>match Og st ((ops[j]?).bind (·.dst)) with
  |some (some b)=>if b==want then (evalOp T Γ st o).map λr=>r.2.put o.dst r.1 else some (st.put o.dst (.at .skip))
  |some none=>some (st.put o.dst (.at .skip))
  |none=>none
def Rl (Γ:Env) (ops:Array Oper):List Oper->St->Option St
 | [],st=>some st
 |o::r,st=>match Ca T Γ ops st o with
  |some st'=>Rl Γ ops r st'
  |none=>none
def Em (q:Bool) (Γ:Env) (ops:Array Oper):List Nat:=
 (List.range ops.size).foldl (init:= []) λacc i=>match ops[i]? with
  |some o=>if BF q Γ o||o.after.any (λe=>Region.binds .any e&&acc.contains e.on) then acc++ [i] else acc
  |none=>acc
def Ub (q:Bool) (Γ:Env) (ops:Array Oper):List Nat:=(List.range ops.size).filter λi=>!(Em q Γ ops).contains i
def eV (ops:Array Oper) (hd tl:List Nat) (i:Nat):Bool:=
 match ops[i]? with
 |some o=>(match o.op,o.guard with
  | .move (.tmp _),none=>true
  |_,_=>false)&&!((tl.take 1++hd).any λj=>decide (i<j)&&Region.waitsFor .any ops j i)
 |none=>false
def Nd (q:Bool) (Γ:Env) (ops:Array Oper):List Nat:=(Ub q Γ ops).filter λi=>eV ops (Ub q Γ ops) (Em q Γ ops) i
def Nh (q:Bool) (Γ:Env) (ops:Array Oper):List Nat:=(Ub q Γ ops).filter λi=>!eV ops (Ub q Γ ops) (Em q Γ ops) i
def bU (q:Bool) (Γ:Env) (ops:Array Oper):List Nat:=Nd q Γ ops++Nh q Γ ops
def fy (ops:Array Oper):List Nat->Array Bool->Bool
 | [],Aa=>(Region.ready .any ops Aa).isEmpty
 |k::r,Aa=>decide (Region.ready .any ops Aa= [k])&&fy ops r (Aa.setIfInBounds k true)
def gk (ops:Array Oper) (tl:List Nat):List Nat->Array Bool->Bool
 | [],Aa=>fy ops tl Aa
 |k::r,Aa=>(Region.ready .any ops Aa).contains k&&Region.free .any ops Aa k&&gk ops tl r (Aa.setIfInBounds k true)
def dW (ops:Array Oper) (hd:List Nat):List Nat->Bool
 | []=>true
 |f::r=>(hd.all λi=>(f::hd).any λj=>decide (i<j)&&Region.waitsFor .any ops j i)&&chain f r
where chain:Nat->List Nat->Bool
 |_,[]=>true
 |k,t::r=>Region.waitsFor .any ops t k&&chain t r
def eL (ops:Array Oper) (tl hd:List Nat):List Nat->Array Bool->Bool
 | [],Aa=>gk ops tl hd Aa
 |k::r,Aa=>(Region.ready .any ops Aa).contains k&&Region.free .any ops Aa k&&eL ops tl hd r (Aa.setIfInBounds k true)
def c6 (q:Bool) (Γ:Env) (ops:Array Oper):Bool:=
 Region.noSelect ops&&((Nd q Γ ops).length+((Nh q Γ ops).length+(Em q Γ ops).length)==ops.size)&&eL ops (Em q Γ ops) (Nh q Γ ops) (Nd q Γ ops) (Array.replicate ops.size false)&&dW ops (Nh q Γ ops) (Em q Γ ops)
def Zz (Γ:Env) (ops:Array Oper) (st:St) (o:Oper):Option AV:=
 match o.guard with
 |none=>Py T Γ st o
 |some (j,want)=>match Og st ((ops[j]?).bind (·.dst)) with
  |some (some b)=>if b==want then Py T Γ st o else some (.at .skip)
  |some none=>some (.at .skip)
  |none=>none
def Dk (Γ:Env) (ops:Array Oper):List Nat->St->Option St
 | [],st=>some st
 |i::r,st=>match ops[i]? with
  |none=>none
  |some o=>match Zz T Γ ops st o with
   |some v=>Dk Γ ops r (st.put o.dst v)
   |none=>none
def Ic (Γ:Env) (ops:Array Oper):List Nat->St->Option St
 | [],st=>some st
 |i::r,st=>match ops[i]? with
  |none=>none
  |some o=>match Ca T Γ ops st o with
   |some st'=>Ic Γ ops r st'
   |none=>none
def Kh (Γ:Env) (ops:Array Oper) (draw:Bool) (st:St):Option St:=
 if draw then (if c6 false Γ ops then (match Dk T Γ ops (bU false Γ ops) st with
  |some st'=>Ic T Γ ops (Em false Γ ops) st'
  |none=>none) else if c6 true Γ ops then (match Dk T Γ ops (bU true Γ ops) st with
  |some st'=>Ic T Γ ops (Em true Γ ops) st'
  |none=>none) else none)
 else Rl T Γ ops ops.toList st
def ph (ops:Array Oper) (i:Nat):Bool:=match ops[i]? with
 |some o=>(match o.op,o.guard with
  | .move (.tmp _),none=>true
  |_,_=>false)
 |none=>false
def bZ (ops:Array Oper) (i:Nat):Bool:=match ops[i]? with
 |some o=>(match o.op,o.guard with
  | .move (.tmp _),none=>true
  | .nilCheck _,none=>true
  | .fieldAddr _ _ _,none=>true
  |_,_=>false)
 |none=>false
def RN (q:Bool) (ops:Array Oper) (i:Nat):Bool:=match q with
 |true=>bZ ops i
 |false=>ph ops i
def Ek (q:Bool) (ops:Array Oper):List Nat->Array Bool->List Nat
 | [],_=> []
 |i::r,Aa=>if RN q ops i&&((Region.ready .any ops Aa).contains i&&Region.free .any ops Aa i) then i::Ek q ops r (Aa.setIfInBounds i true) else Ek q ops r Aa
def BJ (q:Bool) (ops:Array Oper):List Nat:=Ek q ops (List.range ops.size) (Array.replicate ops.size false)
def bR (q:Bool) (ops:Array Oper):Bool:=Nat.ble (ops.size-(BJ q ops).length) 8
def Iz (ops:Array Oper):List Nat:=BJ (!bR false ops) ops
def Dr:List Nat->Array Bool->Array Bool
 | [],Aa=>Aa
 |i::r,Aa=>Dr r (Aa.setIfInBounds i true)
def anyS (Γ:Env) (ops:Array Oper) (K:St->Prop):Nat->Array Bool->St->Prop
 |0,Aa,st=>Region.ready .any ops Aa= []/\K st
 |f+1,Aa,st=>Region.ready .any ops Aa≠ []/\ ∀i∈Region.ready .any ops Aa,∃o st',ops[i]?=some o/\Ca T Γ ops st o=some st'/\anyS Γ ops K f (Aa.setIfInBounds i true) st'
def oC (Γ:Env) (ops:Array Oper) (draw:Bool) (st:St) (K:St->Prop):Prop:=
 (∃st',Kh T Γ ops draw st=some st'/\K st')\/
 (draw=true/\Region.noSelect ops=true/\ ∃Zq,Dk T Γ ops (Iz ops) st=some Zq/\anyS T Γ ops K (ops.size-(Iz ops).length) (Dr (Iz ops) (Array.replicate ops.size false)) Zq)
def pV (Γ:Env) (draw:Bool):Env:= λf=>match Γ f with
 |some (.b s m)=>some (if draw then .q s else .m m)
 |r=>r
inductive Fy where
 |normal
 |exit (id:Nat)
 |ret
def Ex (live:List Nat):Nat->List AV->List AV
 |_,[]=> []
 |i,v::r=>(if live.contains i then v else .undef)::Ex live (i+1) r
def AV.refs:AV->List Nat
 | .at a=>a.refs
 | .agg cs=>cs.flatMap AC.refs
 | .Si _ _ _=> []
 | .Hv l=>l.flatMap λp=>p.2.flatMap AC.refs
def OB.refs:OB->List Nat
 | .var _ vs=>vs.flatMap AC.refs
 |_=> []
def Vv:List Nat->St->St
 | [],st=>st
 |l::r,st=>Vv r (st.forget l)
def gI (l k m:Nat):Nat:=if m=l then k else m
def Mt (l k:Nat):AC->AC
 | .own m off len=> .own (gI l k m) off len
 | .Df m i=> .Df (gI l k m) i
 | .Ey m i=> .Ey (gI l k m) i
 | .clo f Bn=> .clo f (Bn.map λp=>(gI l k p.1,p.2))
 | .Fm m=> .Fm (gI l k m)
 | .sub m i c=> .sub (gI l k m) i c
 | .Ew m i c=> .Ew (gI l k m) i c
 |a=>a
def St.rename (l k:Nat) (st:St):St:=
 match Ad st.heap k,Ad st.heap l with
 |none,some b=>if (Nat.blt l Ag&&Nat.blt k Ag)=true then
   (let s:=st.Fl (Mt l k); {s with heap:=Ib (Qz s.heap l) k (b.map (Mt l k))}) else st
 |_,_=>st
def Gs:Nat->Nat->St->St
 |0,_,st=>st
 |n+1,t,st=>Gs n (t+1) (match st.get t with
  | .at (.own l _ _)=>match Ad st.heap l with
   |some (.arr _ _ _ _ _)=>if (st.tmps.take t).any (λv=>v.refs.contains l) then st else st.rename l (700000+t)
   |_=>st
  |_=>st)
def Ug:Nat:=1000000007
def OB.Ef (flat all:Bool):OB->OB
 | .arr fr tr e tid xs=> .arr (fr&&!(all||(flat&&e.flat))) (tr&&!all) e tid xs
 |b=>b
def Qn:Nat:=1000000009
def tX:Nat:=1100000000
def St.Ef (live:List Nat) (st:St):St:= {st with heap:=st.heap.map λp=>(p.1,p.2.Ef (live.contains Qn) (live.contains (tX+p.1)))}
def Kl:Nat:=900000000
def Ti (t:Nat) (st:St):St:=match st.get t with
 | .at (.own l off len)=>match Ad st.heap l with
  |some (.arr fr tr e tid xs)=>if Nat.blt l Ag=true then (st.new l (.arr fr tr e tid ((xs.drop off).take len))).put (some t) (.at (.own l 0 ((xs.drop off).take len).length)) else st
  |_=>st
 |_=>st
def Il (live:List Nat):Nat->Nat->St->St
 |0,_,st=>st
 |n+1,t,st=>Il live n (t+1) (if live.contains (Kl+t) then Ti t st else st)
def St.clean (live:List Nat) (st:St):St:=
 let s:St:= {st with tmps:=Ex live 0 st.tmps}
 let r1:=s.tmps.flatMap AV.refs
 let r2:=r1++(s.heap.filter λp=>r1.contains p.1).flatMap λp=>p.2.refs
 let s2:=Vv ((s.heap.map (·.1)).filter λl=>!r2.contains l&&Nat.blt l Ag) s
 let s2:=if live.any (λt=>Nat.ble Kl t&&Nat.blt t Ug) then Il live s2.tmps.length 0 s2 else s2
 let s3:=if live.contains Ug then Gs s2.tmps.length 0 s2 else s2
 if live.any (λt=>Nat.ble Qn t) then s3.Ef live else s3
def Bv:Code->Nat
 | .region id _ _=>id
 | .seq a _=>Bv a
 | .cond _ a _=>Bv a
 | .block _ c=>Bv c
 | .loop c=>1000+Bv c
 |_=>0
def IQ (a b:List Nat):List Nat:=a++b.filter λt=>!a.contains t
def pz:List Oper->List Nat->List Nat
 | [],out=>out
 |o::r,out=>IQ (o.op.operands.toList.filterMap λ | .tmp t=>some t|_=>none) (match o.dst with|some d=>(pz r out).filter (·!=d)|none=>pz r out)
def uG:List (Nat×List Nat)->Nat->List Nat
 | [],_=> []
 |(k,l)::r,id=>if k=id then l else uG r id
def iE:Code->List (Nat×List Nat)->List Nat->List Nat->List Nat×List (Nat×List Nat)
 | .region _ ops _,_,_,out=>(pz ops.toList out,[])
 | .seq a b,env,ret,out=>let rb:=iE b env ret out;let ra:=iE a env ret rb.1;(ra.1,ra.2++rb.2)
 | .cond c a b,env,ret,out=>let ra:=iE a env ret out;let rb:=iE b env ret out
  (IQ (match c with| .tmp t=> [t]|_=> []) (IQ ra.1 rb.1),ra.2++rb.2)
 | .block id c,env,ret,out=>iE c ((id,out)::env) ret out
 | .exit id,env,_,_=>(uG env id,[])
 | .ret,_,ret,_=>(ret,[])
 | .loop c,env,ret,_=>let l:=(iE c env ret []).1;let r:=iE c env ret l;(l,(Bv c,l)::r.2)
 |_,_,_,out=>(out,[])
def pA:List ResultVar->List Nat
 | []=> []
 | .tmp t::r=>t::pA r
 | .cell p _::r=>p::pA r
def py (marks:List Nat) (fn:Func) (c:Code):Nat->List Nat:=let ret:=pA fn.results.toList;let g:=uG (iE c [] ret ret).2;match marks with
 | []=>g
 |m=> λid=>g id++m
def vH (K:St->Prop) (Q:Fy->St->Prop):Fy->St->Prop
 | .normal,s=>K s
 |e,s=>Q e s
def nJ (id:Nat) (Q:Fy->St->Prop):Fy->St->Prop
 | .exit yb,s=>if yb=id then Q .normal s else Q (.exit yb) s
 |e,s=>Q e s
inductive Ia (Γ:Env) (live:Nat->List Nat):Code->St->(Fy->St->Prop)->Prop where
 |skip {st:St} {Q:Fy->St->Prop} :Q .normal st->Ia Γ live .skip st Q
 |label {l:Nat} {st:St} {Q:Fy->St->Prop} :Q .normal st->Ia Γ live (.label l) st Q
 |exit {id:Nat} {st:St} {Q:Fy->St->Prop} :Q (.exit id) st->Ia Γ live (.exit id) st Q
 |ret {st:St} {Q:Fy->St->Prop} :Q .ret st->Ia Γ live .ret st Q
 |region {id:Nat} {ops:Array Oper} {draw:Bool} {st:St} {Q:Fy->St->Prop} :oC T (pV Γ draw) ops draw st (Q .normal)->Ia Γ live (.region id ops draw) st Q
 |seq {x y:Code} {st:St} {Q:Fy->St->Prop} (Q1:Fy->St->Prop):Ia Γ live x st Q1->(∀s,Q1 .normal s->Ia Γ live y s Q)->(∀e s,e≠ .normal->Q1 e s->Q e s)->Ia Γ live (.seq x y) st Q
 |cond {c:Operand} {x y:Code} {st:St} {fr t:Bool} {Q:Fy->St->Prop} :st.ev c= .at (.data fr .bool t)->(t=true->Ia Γ live x st Q)->(t=false->Ia Γ live y st Q)->Ia Γ live (.cond c x y) st Q
 |block {id:Nat} {c:Code} {st:St} {Q:Fy->St->Prop} (Q1:Fy->St->Prop):Ia Γ live c st Q1->(∀e s,Q1 e s->nJ id Q e s)->Ia Γ live (.block id c) st Q
 |loop {c:Code} {st:St} {Q:Fy->St->Prop} (Q1:Fy->St->Prop):Ia Γ live c (st.clean (live (Bv c))) Q1->(∀s,Q1 .normal s->Ia Γ live (.loop c) s Q)->(∀e s,e≠ .normal->Q1 e s->Q e s)->Ia Γ live (.loop c) st Q
def Vd (st:St):List ResultVar->Option (List AV)
 | []=>some []
 | .tmp t::r=>(Vd st r).map λl=>st.get t::l
 | .cell p t::r=>match Jh T st t (st.get p),Vd st r with
  |some v,some l=>some (v::l)
  |_,_=>none
def eJ (s:Spec) (fn:Func) (st:St):Option (Bool×s.res.den):=
 match Vd T st fn.results.toList with
 |some [v]=>if s.Dp then none else Cg st s.res v
 |some [v,u]=>if s.Dp then Bj st s.res [v,u] else none
 |some [v,u,t]=>if s.Dp then Bj st s.res [v,u,t] else none
 |_=>none
def Lc:(τ:Ty)->τ.den->List AV
 | .pair a r,x=> .at (.data a.flat a x.1)::Lc r x.2
 |_,_=> []
def cm (st:St):(c:CK)->AC->Option (c.den×List Nat)
 | .Gd τ,a=>if τ.flat||a.settled then (Bf st τ a).map λp=>(p.2,[]) else none
 | .row e te, .own l off len=>match st.at l with
  |some (.arr _ _ e' Kc xs)=>if h:e'=e/\Kc=te then some ((((h.1▸xs:List e.den).drop off).take len),[l]) else none
  |_=>none
 | .row _ _, .Gr=>some ([],[])
 | .Dc e te, .own l off len=>match st.at l with
  |some (.arr _ tr e' Kc xs)=>if h:e'=e/\Kc=te/\(tr||e.flat)=true then some ((((h.1▸xs:List e.den).drop off).take len),[l]) else none
  |some (.Cq e' Kc xs)=>if h:e'=e/\Kc=te then some ((((h.1▸xs:List e.den).drop off).take len),[l]) else none
  |_=>none
 | .Dc _ _, .Gr=>some ([],[])
 | .Ah e te _, .own l off len=>match st.at l with
  |some (.Ah e' Kc rows none _)=>if h:e'=e/\Kc=te/\off=0/\len=rows.length then some ((h.1▸rows:List (List e.den)),[l]) else none
  |_=>none
 |_,_=>none
def Ms (st:St):(cs:List CK)->List AC->Option (CKs.den cs×List Nat)
 | [],[]=>some ((),[])
 |c::r,a::as=>match cm st c a,Ms st r as with
  |some (x,t1),some (y,t2)=>some ((x,y),t1++t2)
  |_,_=>none
 |_,_=>none
def ij (st:St) (l:Nat):(c:CK)->Option c.den
 | .Gd _=>none
 | .row e te=>match st.at l with
  |some (.arr _ _ e' Kc xs)=>if h:e'=e/\Kc=te then some (h.1▸xs) else none
  |_=>none
 | .Dc e te=>match st.at l with
  |some (.Cq e' Kc xs)=>if h:e'=e/\Kc=te then some (h.1▸xs) else none
  |_=>none
 | .part _ _=>none
 | .Ah _ _ _=>none
def Ih (st:St):(k:Nat)->(cs:List (Bool×CK))->Option (IOs.den cs)
 |_,[]=>some ()
 |k,(true, .Gd _)::r=>Ih st (k+1) r
 |k,(true, .Ah _ _ _)::r=>Ih st (k+1) r
 |k,(true, .row e te)::r=>match ij st (Bk true k) (.row e te),Ih st (k+1) r with
  |some x,some y=>some (x,y)
  |_,_=>none
 |k,(true, .Dc e te)::r=>match ij st (Bk true k) (.Dc e te),Ih st (k+1) r with
  |some x,some y=>some (x,y)
  |_,_=>none
 |k,(true, .part e te)::r=>match ij st (Bk true k) (.row e te),Ih st (k+1) r with
  |some x,some y=>some (x,y)
  |_,_=>none
 |k,(false,_)::r=>Ih st (k+1) r
def Ix:(k:Nat)->List (Bool×CK)->List Nat
 |_,[]=> []
 |k,(true, .Gd _)::r=>Ix (k+1) r
 |k,(true, .Ah _ _ _)::r=>Ix (k+1) r
 |k,(true,_)::r=>Bk true k::Ix (k+1) r
 |k,(false,_)::r=>Ix (k+1) r
def Kn:Nat:=1900000000
def Ei:(k:Nat)->List (Bool×CK)->List AC->Option (List AC)
 |_,_,[]=>some []
 |k,(true, .row _ _)::r, .own l _ _::as=>if Nat.beq l (Bk true k) then Ei (k+1) r as else none
 |k,(true, .Dc _ _)::r, .own l _ _::as=>if Nat.beq l (Bk true k) then Ei (k+1) r as else none
 |k,(false,_)::r,a::as=>(Ei (k+1) r as).map λl=>a::l
 |_,_,_=>none
def aN (st:St):List AC->List (Bool×CK)->Prop
 | .own l off len::as,(true,_)::r=>(off=0/\match st.at l with
  |some (.arr _ _ _ _ xs)=>len=xs.length
  |some (.Cq _ _ xs)=>len=xs.length
  |_=>False)/\aN st as r
 |_::as,(false,_)::r=>aN st as r
 |_,_=>True
def vY (s:MSpec) (st:St) (l:List AV):Option (List AC×List Nat):=match s.rp with
 |none=>if s.Dp=Nat.blt 1 l.length then (ungroup s.Fg l).map λas=>(as,[]) else none
 |some tid=>match l with
  | [.at (.Df m i)]=>match st.at m with
   |some (.var Mk vs)=>if Mk=tid/\i=0/\Nat.blt m Ag=true then some (vs,[m]) else none
   |_=>none
  |_=>none
def nN (st:St) (n:Nat) (as:List AC):List (Nat×Nat)->Prop
 | []=>True
 |(k,j)::r=>(match as[j]? with
  |some (.own l _ _)=>match st.at l with
   |some (.Ah _ _ _ _ (some p))=>p.1=Bk false k/\n<=p.2/\Nat.blt k 1000=true
   |_=>False
  |_=>False)/\nN st n as r
def c8 (s:MSpec) (fn:Func) (x:Ins.den s.ins) (st:St) (cs:List AC) (P:CKs.den s.outs×IOs.den s.ins->Prop):Prop:=
 match Vd T st fn.results.toList with
 |none=>False
 |some l=>match vY s st l with
  |none=>False
  |some (as,ml)=>match Ms st s.outs (cs++as),Ih st 0 s.ins with
   |some (r,ls),some o=>(Qt (ml++ls++Ix 0 s.ins)&&Nat.blt s.ins.length 1000&&Nat.blt s.outs.length 1000&&s.BI)=true/\nN st (s.Ch x) (cs++as) s.keeps/\P (r,o)
   |_,_=>False
def zC (s:MSpec) (fn:Func) (x:Ins.den s.ins) (st:St) (P:CKs.den s.outs×IOs.den s.ins->Prop):Prop:=
 match s.ptr with
 |none=>c8 T s fn x st [] P
 |some p=> ∃vs cs,st.at Kn=some (.var p.1 vs)/\vs.length=p.2/\Ei 0 s.ins vs=some cs/\aN st vs s.ins/\c8 T s fn x st cs P
def Rb (s:MSpec) (as:List AC):List AV:=match s.ptr with
 |none=>Lf s.Gc as
 |some p=> .at (.Df Kn 0)::Lf s.Gc (as.drop p.2)
def iA (s:MSpec) (x:Ins.den s.ins):List (Nat×OB):=match s.ptr with
 |none=>Qf 0 s.ins x
 |some p=>Qf 0 s.ins x++ [(Kn, .var p.1 ((Sz 0 s.ins x).take p.2))]
def Qi:List (Bool×CK)->Bool
 | []=>true
 |(true, .Ah _ _ _)::_=>false
 |_::r=>Qi r
def pR (s:MSpec):Bool:=Qi s.ins&&match s.ptr with
 |none=>true
 |some p=>Nat.ble p.2 s.ins.length
def GJ (Γ:Env) (s:MSpec) (fn:Func) (x:Ins.den s.ins) (P:CKs.den s.outs×IOs.den s.ins->Prop):Prop:=
 (Nat.blt s.ins.length 1000&&pR s)=true/\ ∃c,fn.body=some c/\Ia T Γ (py T.marks fn c) c {tmps:=Rb s (Sz 0 s.ins x)++List.replicate (fn.ntmps-(Rb s (Sz 0 s.ins x)).length) .undef,heap:=iA s x}
  (λe st=>(∀id,e≠ .exit id)/\zC T s fn x st P)
def zD (Γ:Env) (s:Spec) (fn:Func) (x:s.arg.den) (P:s.res.den->Prop):Prop:=
 ∃c,fn.body=some c/\Ia T Γ (py T.marks fn c) c {tmps:=Lc s.arg x++List.replicate (fn.ntmps-(Lc s.arg x).length) .undef,heap:= []}
  (λe st=>(∀id,e≠ .exit id)/\ ∃fr y,eJ T s fn st=some (fr,y)/\(fr||!s.fresh)=true/\P y)
end Go.Proofs.Ytjbdmibbbpdnnaa
