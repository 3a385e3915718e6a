/-
  Part 3 of the proof that the statement FnTables holds.
-/
import Derived.Test.YtkkdpknjohcekaaCFTables01
namespace Go.Proofs.Ytkkdpknjohcekaa
open Go.RowKit
def Gy:Nat->St->List AC->Option (List AC×St)
 |0,st,cs=>if cs.all (·.settled) then some (cs,st) else none
 |n+1,st,cs=>
  match cs.find? (λc=>!c.settled) with
  |none=>some (cs,st)
  |some (.own l _ _)=>match st.at l with
   |some (.arr fr _ e _ xs)=>Gy n (st.freeze l fr e xs) (cs.map (Co l fr e xs))
   |some (.Gl e _ xs)=>Gy n (st.freeze l false e xs) (cs.map (Co l false e xs))
   |_=>none
  |some (.Jw l)=>match st.at l with
   |some (.Ub v m)=>Gy n (st.Ie l v m) (cs.map (Gq l v m))
   |_=>none
  |some _=>none
def settle (st:St):AV->Option (AV×St)
 | .at (.own l off len)=>match st.at l with
  |some (.arr fr _ e _ xs)=>some (.at (.data fr (.slice e) ((xs.drop off).take len)),st.freeze l fr e xs)
  |some (.Gl e _ xs)=>some (.at (.data false (.slice e) ((xs.drop off).take len)),st.freeze l false e xs)
  |_=>none
 | .at (.Jw l)=>match st.at l with
  |some (.Ub v m)=>some (.at (.data false (.smap v) m),st.Ie l v m)
  |_=>none
 | .at a=>if a.settled then some (.at a,st) else none
 | .agg cs=>(Gy cs.length st cs).map λp=>(.agg p.1,p.2)
 | .Zw fr τ x=>some (.Zw fr τ x,st)
 | .Mb _=>none
def AC.refs:AC->List Nat
 | .own l _ _| .Gs l _| .Jl l _| .Jw l| .sub l _ _| .Ji l _ _=> [l]
 | .clo _ Dy=>Dy.map (·.1)
 |_=> []
def Yh:List Nat->Bool
 | []=>true
 |a::r=>!r.contains a&&Yh r
def Ty.tree:Ty->Bool
 | .int _| .bool| .str| .unit=>true
 | .slice e=>e.tree
 | .pair a r=>a.tree&&r.tree
 |_=>false
def Qt (st:St):AC->Bool
 | .data _ τ _=>τ.flat
 | .Le=>true
 | .own l _ _=>match st.at l with
  |some (.arr _ tr e _ _)=>tr||e.flat
  |some (.Gl _ _ _)=>true
  |_=>false
 |_=>false
def Rw (st:St):AV->Bool
 | .at a=>Qt st a
 | .agg cs=>cs.all (Qt st)&&Yh (cs.flatMap AC.refs)
 |_=>false
def Bf:Nat:=1000000000
variable (T:Tab)
def GY (t:TypeId) (τ:Ty) (i:Nat):Option TypeId:=
 if τ.Am then (List.range 24).findSome? λf=>match T.off t f with
  |some (o,u)=>if o=i then some u else none
  |none=>none
 else some t
def Tab.HG (te:TypeId):Option Ty:=if T.Ack.contains te then (match T.ty te with
 |some (.slice e)=>some e
 |_=>none) else none
def cc (te:TypeId) (e:Ty):OB:=match T.HG te with
 |some e'=> .Bm e' te [] none none
 |none=> .arr (T.sv||e.flat) T.AQ e te []
def Tb (b:OB) (key l i:Nat) (st:St):St:=
 match st.at l with
 |some (.var _ vs)=>match vs[i]? with
  |some .Le=>
   let s1:=st.new key b
   match s1.at l with
   |some (.var tid vs')=>s1.Jh l (.var tid (Rg vs' i (.own key 0 0)))
   |_=>s1
  |_=>st
 |_=>st
def dB (l:Nat) (t:TypeId) (τ:Ty):Nat->Nat->St->St
 |0,_,st=>st
 |n+1,i,st=>
  dB l t τ n (i+1) (match ((GY T t τ i).bind T.elem).bind λte=>(T.ty te).map λe=>(te,e) with
   |some (te,e)=>Tb (cc T te e) (100000+l*100+i) l i st
   |none=>st)
def cC (l off:Nat) (t:TypeId) (τ:Ty):Nat->Nat->St->St
 |0,_,st=>st
 |n+1,i,st=>
  cC l off t τ n (i+1) (match ((GY T t τ i).bind T.elem).bind λte=>(T.ty te).map λe=>(te,e) with
   |some (te,e)=>Tb (cc T te e) (100000+l*100+(off+i)) l (off+i) st
   |none=>st)
def zeroCells:(τ:Ty)->List AC
 | .unit=> []
 | .pair a r=>zeroCells a++zeroCells r
 | .slice _=> [.Le]
 | .oslice _=> [.Le]
 | .ptr _=> [.Ua]
 | .optr _=> [.Ua]
 | .clo _ _=> [.undef]
 |τ=> [.data true τ τ.zero]
def cellsOf (τ:Ty):AV->Option (List AC)
 | .agg cs=>if τ.Am&&cs.length==τ.size then some cs else none
 | .at (.data fr Nh x)=>if Nh=τ then some (Qy fr Nh x) else none
 | .at .undef=>none
 | .at .skip=>none
 | .at a=>if τ.Am then none else some [a]
 |_=>none
def mkVar (st:St) (l:Nat) (t:TypeId) (τ:Ty) (cs:List AC):Option (AV×St):=
 if Bf<=100000+l*100+cs.length then none else
 let s:=dB T l t τ cs.length 0 (st.new l (.var t (cs.map (Cb l))))
 match s.at l with
 |some (.var _ _)=>some (.at (.Gs l 0),s)
 |_=>none
def Pc:(τ:Ty)->List AC
 | .unit=> []
 | .pair a r=>Pc a++Pc r
 | .slice e=> [.data false (.slice e) []]
 | .oslice _=> [.Le]
 | .ptr _=> [.Ua]
 | .optr _=> [.Ua]
 | .clo _ _=> [.undef]
 |τ=> [.data false τ τ.zero]
def cb:Nat:=1300000000
def dM:Nat:=1400000000
def qP (st:St) (l:Nat) (t:TypeId) (cs:List AC):Option (AV×St):=
 if Bf<=100000+l*100+cs.length then none else some (.at (.Gs l 0),st.new l (.var t (cs.map (Cb l))))
def Dq {α:Type} (xs:List α) (i:Nat) (ys:List α):List α:=xs.take i++ys++xs.drop (i+ys.length)
def OS (st:St) (τ:Ty) (l:Nat) (v:AV):AV:=match T.marks.contains (cb+l)&&v.settled with
 |true=>match Fe st τ v with
  |some p=> .at (.data false τ p.2)
  |none=>v
 |false=>v
def Ti (st:St) (t:TypeId) (p v:AV):Option St:=
 match T.ty t,p with
 |some τ, .at (.Gs l i)=>match st.at l,cellsOf τ (OS T st τ l v) with
  |some (.var tid vs),some cs=>if i+cs.length<=vs.length then some (if τ.Am&&Nat.blt (100000+l*100+(i+cs.length)) Bf then cC T l i t τ cs.length 0 (st.Jh l (.var tid (Dq vs i cs))) else st.Jh l (.var tid (Dq vs i cs))) else none
  |_,_=>none
 |some τ, .at (.Jl l j)=>match settle st v with
  |some (v',st')=>match st'.at l,Fe st' τ v' with
   |some (.arr fr tr e tid xs),some (Um,x)=>if h:τ=e then (if j<xs.length then some (st'.Jh l (.arr (fr&&Um) (tr&&(Rw st v&&e.tree)) e tid (xs.set j (h▸x)))) else none) else none
   |_,_=>none
  |none=>none
 |_,_=>none
def Et:Nat:=4294967296
def Nb (st:St) (dst:Nat) (t:TypeId) (x y:Operand):Option (AV×St):=
 match T.elem t with
 |none=>none
 |some te=>match T.ty te,settle st (st.ev y) with
  |some e,some (y',st')=>match Fe st' (.slice e) y' with
   |none=>none
   |some (p7,ys)=>
    let tr2:=e.flat||(Rw st (st.ev y)&&e.tree)
    match st'.ev x with
    | .at .Le=>if ys.length<=Et/\dst<Bf then some (.at (.own dst 0 (0+ys.length)),(st'.new dst (.arr (T.sv||e.flat) T.AQ e te [])).new dst (.arr ((T.sv||e.flat)&&(p7||e.flat)) (T.AQ&&tr2) e te (((([]:List e.den).drop 0).take 0)++ys))) else none
    | .at (.own l off len)=>match st'.at l with
     |some (.arr fr tr e' tid xs)=>if h:e'=e/\tid=te then
       (if len+ys.length<=Et/\l<Bf then
        some (.at (.own l 0 (len+ys.length)),st'.new l (.arr (fr&&(p7||e.flat)) (tr&&tr2) e te ((((h.1▸xs:List e.den).drop off).take len)++ys))) else none)
      else none
     |_=>none
    |_=>none
  |_,_=>none
def Pd (st:St) (l i m:Nat) (e:Ty) (te tid:TypeId) (rows:List (List e.den)) (kp:Option (Nat×Nat)):St:=
 (st.Jh l (.Bm e te rows (some i) kp)).new m (.arr false false e tid (rows.getD i []))
def Qk (st:St) (dst:Nat) (t:TypeId) (x y:Operand):Option (AV×St):=
 match x with
 | .tmp tx=>match st.get tx with
  | .at (.sub l i _)=>match st.at l,T.elem t with
   |some (.Bm e te rows none kp),some tid=>if (Nat.blt l Bf&&(Nat.blt dst Bf&&!Nat.beq dst l))=true then Nb T ((Pd st l i dst e te tid rows kp).put (some tx) (.at (.own dst 0 (rows.getD i []).length))) dst t x y else none
   |_,_=>none
  |_=>Nb T st dst t x y
 |_=>Nb T st dst t x y
def kC:Ty->Bool
 | .int _| .bool| .str| .slice _| .oslice _=>true
 |_=>false
def dZ:Ty->Bool
 | .unit=>true
 | .pair a r=>dZ a&&dZ r
 |e=>kC e
def ab (st:St) (dst:Nat) (t:TypeId) (l c:AV):Option (AV×St):=
 match T.elem t,l,c with
 |some te, .at (.data _ (.int _) n), .at (.data _ (.int _) m)=>match T.ty te with
  |some e=>if YK n (Et+1)=true/\n=m/\dZ e=true/\dst<Bf then some (.at (.own dst 0 n.toNat),st.new dst (.arr (T.sv||e.flat) (T.AQ&&e.tree) e te (List.replicate n.toNat e.zero))) else none
  |none=>none
 |_,_,_=>none
def Ks (e:Ty):Nat->List (Nat×Operand)->St->Option (Bool×Bool×List e.den×St)
 |_,[],st=>some (true,true,[],st)
 |i,(j,x)::r,st=>
  if i=j then match settle st (st.ev x) with
   |some (v,st')=>match Fe st' e v with
    |some (fr,y)=>match Ks e (i+1) r st' with
     |some (Um,SX,ys,Akf)=>some (fr&&Um,Rw st (st.ev x)&&e.tree&&SX,y::ys,Akf)
     |none=>none
    |none=>none
   |none=>none
  else none
def Lr (st:St) (dst:Nat) (t:TypeId) (len:Nat) (parts:Array (Nat×Operand)):Option (AV×St):=
 match T.elem t with
 |none=>none
 |some te=>match T.ty te with
  |none=>none
  |some e=>if parts.size=len/\len<=64/\e.size<=64/\dst<Bf then (match Ks e 0 parts.toList st with
   |some (fr,tr,ys,st')=>some (.at (.own dst 0 len),st'.new dst (.arr ((T.sv||e.flat)&&fr) (T.AQ&&tr) e te ys))
   |none=>none) else none
def Th (st:St) (dst:Nat) (t:TypeId):Option (AV×St):=
 match T.mapOf t with
 |some v=>if dst<Bf then some (.at (.Jw dst),st.new dst (.Ub v λ_=>none)) else none
 |none=>none
def kz {α:Type} (m:ByteArray->Option α) (k:ByteArray) (x:α):ByteArray->Option α:= λs=>if s=k then some x else m s
def Ip (st:St) (t:TypeId) (m k x:AV):Option St:=
 match T.mapOf t,m,k with
 |some v, .at (.Jw l), .at (.data _ .str s)=>match st.at l,Fe st v x with
  |some (.Ub v' f),some (_,y)=>if h:v'=v/\v.flat=true/\v.Am=false then some (st.Jh l (.Ub v (kz (h.1▸f:ByteArray->Option v.den) s y))) else none
  |_,_=>none
 |_,_,_=>none
def fH (st:St) (t t':TypeId) (x y:AV):Option (AV×St):=
 match x,(T.elem t).bind T.ty with
 | .at (.own l off len),some e=>if T.elem t=T.elem t'/\e.flat=true/\e.size=1 then match st.at l,Fe st (.slice e) y with
  |some (.arr fr _ e' tid xs),some (_,ys)=>if h:e'=e/\T.elem t=some tid then
    some (.at (.data true (.int .i64) (min len ys.length:Nat)),st.Jh l (.arr fr false e tid (Dq (h.1▸xs:List e.den) off (ys.take len))))
   else none
  |_,_=>none
  else none
 |_,_=>none
def evalClear (st:St) (t:TypeId) (x:AV):Option St:=
 match x,(T.elem t).bind T.ty with
 | .at (.own l off len),some e=>if e.flat=true/\kC e=true then match st.at l with
  |some (.arr fr _ e' tid xs)=>if h:e'=e/\T.elem t=some tid then
    some (st.Jh l (.arr fr false e tid (Dq (h.1▸xs:List e.den) off (List.replicate len e.zero))))
   else none
  |_=>none
  else none
 |_,_=>none
def Lp (st:St) (t:TypeId):List (Nat×Operand)->List AC->Option (List AC)
 | [],cs=>some cs
 |(i,x)::r,cs=>
  match T.off t i with
  |some (o,u)=>match T.ty u with
   |some ρ=>match cellsOf ρ (st.ev x) with
    |some c=>if o+c.length<=cs.length then Lp st t r (Dq cs o c) else none
    |none=>none
   |none=>none
  |none=>none
def Vz (st:St) (t:TypeId) (parts:Array (Nat×Operand)):Option AV:=
 match T.ty t with
 |none=>none
 |some τ=>if τ.Am then (Lp T st t parts.toList (zeroCells τ)).map .agg else none
def Ds (io:Bool) (k:Nat):Nat:=if io then 1000000000+k else 500000+k
def Jm (k:Nat):Nat:=600000+k
def QY (dst:Nat) (k:Nat):Nat:=1000000*(dst+1)+k
def Rq:List (Option Nat)->List AC->List AV
 |none::s,a::as=> .at a::Rq s as
 |some n::s,as=> .agg (as.take n)::Rq s (as.drop n)
 |_,_=> []
def Kf:List (Option Nat)->List Value->List Value
 |none::s,u::us=>u::Kf s us
 |some n::s,us=> .agg (us.take n).toArray::Kf s (us.drop n)
 |_,_=> []
def ungroup:List (Option Nat)->List AV->Option (List AC)
 | [],[]=>some []
 |none::s, .at a::as=>(ungroup s as).map λr=>a::r
 |some n::s, .agg cs::as=>if cs.length=n then (ungroup s as).map λr=>cs++r else none
 |some n::s, .at (.data fr τ x)::as=>if τ.Am=true/\(Qy fr τ x).length=n then (ungroup s as).map λr=>Qy fr τ x++r else none
 |_,_=>none
def iI (l:Nat):(c:CK)->c.den->Option OB
 | .Fp _,_=>none
 | .row e te,xs=>some (.arr false false e te xs)
 | .Hb e te,xs=>some (.Gl e te xs)
 | .part e te,x=>some (.arr false false e te x.1)
 | .Bm e te kp,xs=>some (.Bm e te xs none (if kp then some (l,List.length xs) else none))
def Ahc (l:Nat):(c:CK)->c.den->AC
 | .Fp τ,x=> .data τ.flat τ x
 | .row _ _,xs=> .own l 0 (List.length xs)
 | .Hb _ _,xs=> .own l 0 (List.length xs)
 | .part _ _,x=> .own l x.2.1 x.2.2
 | .Bm _ _ _,xs=> .own l 0 (List.length xs)
def fz {α:Type} (l:Nat):Option α->List (Nat×α)->List (Nat×α)
 |none,r=>r
 |some b,r=>(l,b)::r
def Xo:(k:Nat)->(cs:List (Bool×CK))->Ins.den cs->List (Nat×OB)
 |_,[],_=> []
 |k,p::r,x=>fz (Ds p.1 k) (iI (Ds p.1 k) p.2 x.1) (Xo (k+1) r x.2)
def al:(k:Nat)->(cs:List (Bool×CK))->Ins.den cs->List AC
 |_,[],_=> []
 |k,p::r,x=>Ahc (Ds p.1 k) p.2 x.1::al (k+1) r x.2
inductive Loc where
 |row (l:Nat)
 |sub (l i c:Nat)
 |view (l:Nat)
 deriving DecidableEq
def Loc.Vm:Loc->Nat
 | .row l=>l
 | .sub l _ _=>l
 | .view l=>l
def Loc.reads:Loc->Bool
 | .view _=>true
 |_=>false
def aI (st:St) (ls:List Nat):Bool:=ls.all λl=>match st.at l with|some (.var _ vs)=>vs.all (·.settled)|_=>false
def views (k:Nat) (ls:List Nat):List (Nat×Loc):=ls.map λl=>(Ds false k, .view l)
def Lj (st:St) (io:Bool) (k:Nat):(c:CK)->AC->Option (c.den×List (Nat×Loc))
 | .Fp τ, .own l off len=>(Dj st τ (.own l off len)).map λp=>(p.2,[(Ds false k, .view l)])
 | .Fp τ, .clo g Dy=>if aI st (Dy.map (·.1))&&!τ.Am then (Jf st τ (.clo g Dy)).map λp=>(p.2,views k (Dy.map (·.1))) else none
 | .Fp τ, .Gs l i=>if aI st [l]&&!τ.Am then (Jf st τ (.Gs l i)).map λp=>(p.2,views k [l]) else none
 | .Fp τ, .sub l i c=>(Dj st τ (.sub l i c)).map λp=>(p.2,[(Ds false k, .view l)])
 | .Fp τ,a=>if τ.flat||a.settled then (Dj st τ a).map λp=>(p.2,[]) else none
 | .row e te, .own l off len=>match st.at l with
  |some (.arr _ _ e' Qg xs)=>if h:e'=e/\Qg=te/\off=0/\len=xs.length then some ((h.1▸xs:List e.den),[(Ds io k, .row l)]) else none
  |_=>none
 | .row e _, .sub l i c=>match st.at l with
  |some (.Gl e' _ xs)=>if h:e'= .slice e/\e.flat=true/\io=true/\c=0 then xs[i]?.map λy=>((h.1▸y:(Ty.slice e).den),[(Ds io k, .sub l i c)]) else none
  |_=>none
 | .row _ _, .Le=>some ([],[])
 | .Hb e te, .own l off len=>match st.at l with
  |some (.Gl e' Qg xs)=>if h:e'=e/\Qg=te/\off=0/\len=xs.length then some ((h.1▸xs:List e.den),[(Ds io k, .row l)]) else none
  |_=>none
 | .Hb e _, .sub l i c=>match st.at l with
  |some (.Gl e' _ xs)=>if h:e'= .slice e/\io=true/\c=0 then xs[i]?.map λy=>((h.1▸y:(Ty.slice e).den),[(Ds io k, .sub l i c)]) else none
  |_=>none
 | .Hb _ _, .Le=>some ([],[])
 | .part e te, .own l off len=>match st.at l with
  |some (.arr _ _ e' Qg xs)=>if h:e'=e/\Qg=te/\e.flat=true/\io=true then some (((h.1▸xs:List e.den),off,len),[(Ds io k, .row l)]) else none
  |_=>none
 | .Bm e te _, .own l off len=>match st.at l with
  |some (.Bm e' Qg rows none _)=>if h:e'=e/\Qg=te/\off=0/\len=rows.length/\io=false then some ((h.1▸rows:List (List e.den)),[(Ds io k, .row l)]) else none
  |_=>none
 |_,_=>none
def dU (st:St):(k:Nat)->(cs:List (Bool×CK))->List AC->Option (Ins.den cs×List (Nat×Loc))
 |_,[],[]=>some ((),[])
 |k,p::r,a::as=>match Lj st p.1 k p.2 a,dU st (k+1) r as with
  |some (x,t1),some (y,t2)=>some ((x,y),t1++t2)
  |_,_=>none
 |_,_,_=>none
def aP (st:St):(c:CK)->c.den->AC->Option St
 | .row e _,ys, .own l _ len=>match st.at l with
  |some (.arr fr tr e' te xs)=>if h:e=e'/\List.length ys=len/\xs.length=len then some (st.Jh l (.arr (fr&&e'.flat) (tr&&e'.flat) e' te (h.1▸ys))) else none
  |_=>none
 | .Hb e _,ys, .own l _ len=>match st.at l with
  |some (.Gl e' te xs)=>if h:e=e'/\List.length ys=len/\xs.length=len then some (st.Jh l (.Gl e' te (h.1▸ys))) else none
  |_=>none
 | .row e _,ys, .sub l i _=>match st.at l with
  |some (.Gl e' te xs)=>if h: .slice e=e' then (match xs[i]? with
   |some y=>if List.length ys=List.length (h▸y:(Ty.slice e).den) then some (st.Jh l (.Gl e' te (xs.set i (h▸(ys:(Ty.slice e).den))))) else none
   |none=>none) else none
  |_=>none
 | .Hb e _,ys, .sub l i _=>match st.at l with
  |some (.Gl e' te xs)=>if h: .slice e=e' then (match xs[i]? with
   |some y=>if List.length ys=List.length (h▸y:(Ty.slice e).den) then some (st.Jh l (.Gl e' te (xs.set i (h▸(ys:(Ty.slice e).den))))) else none
   |none=>none) else none
  |_=>none
 |_,_, .Le=>some st
 |_,_,_=>none
def EP (st:St) (e:Ty) (ys:List e.den):AC->Option St
 | .own l _ _=>match st.at l with
  |some (.arr fr tr e' te xs)=>if h:e=e'/\List.length ys=xs.length then some (st.Jh l (.arr fr tr e' te (h.1▸ys))) else none
  |_=>none
 |_=>none
def Hk:(cs:List (Bool×CK))->IOs.den cs->List AC->St->Option St
 | [],_,_,st=>some st
 |(true, .Fp _)::r,x,_::as,st=>Hk r x as st
 |(true, .row e te)::r,x,a::as,st=>match aP st (.row e te) x.1 a with
  |some st'=>Hk r x.2 as st'
  |none=>none
 |(true, .Hb e te)::r,x,a::as,st=>match aP st (.Hb e te) x.1 a with
  |some st'=>Hk r x.2 as st'
  |none=>none
 |(true, .part e _)::r,x,a::as,st=>match EP st e x.1 a with
  |some st'=>Hk r x.2 as st'
  |none=>none
 |(true, .Bm _ _ _)::r,x,_::as,st=>Hk r x as st
 |(false,_)::r,x,_::as,st=>Hk r x as st
 |_,_,_,_=>none
def Ce (dead part:List Nat) (c:AC):AC:=if c.refs.any (λl=>dead.contains l) then .undef else match c with
 | .sub l i c=>if part.contains l then .undef else .sub l i c
 | .Ji l i c=>if part.contains l then .undef else .Ji l i c
 |c=>c
def Vx:List (Nat×OB)->List Nat->List (Nat×OB)
 | [],_=> []
 |(k,b)::r,dead=>if dead.contains k then Vx r dead else (k,b)::Vx r dead
def St.aY (st:St) (dead part:List Nat):St:=let s:=st.Kh (Ce dead part); {s with heap:=Vx s.heap dead}
def Sd (st:St) (l j m:Nat) (e:Ty) (te:TypeId) (rows:List (List e.den)) (xs:List e.den) (kp:Option (Nat×Nat)):St:=
 (st.aY [m] [l]).Jh l (.Bm e te (rows.set j xs) none kp)
def aq (j:Nat):Option (Nat×Nat)->Option (Nat×Nat)
 |none=>none
 |some p=>some (p.1,min p.2 j)
def ag (st:St) (t:TypeId) (p v:AV):Option St:=
 match T.ty t,p with
 |some τ, .at (.Ji l i j)=>match settle st v with
  |some (v',st')=>match st'.at l,Fe st' τ v' with
   |some (.Bm e te rows none kp),some (_,x)=>if h:τ=e then some (st'.Jh l (.Bm e te (rows.set i ((rows.getD i []).set j (h▸x))) none kp)) else none
   |_,_=>none
  |none=>none
 |some τ, .at (.Jl l j)=>match st.at l,v with
  |some (.Bm e te rows out kp), .at (.own m off len)=>match st.at m with
   |some (.arr _ _ e' _ xs)=>if h:e'=e/\(Nat.blt l Bf&&(!Nat.beq m l&&!τ.Am))=true/\off=0/\len=xs.length/\(out=none\/out=some j) then some (Sd st l j m e te rows (h.1▸xs) (aq j kp)) else none
   |_=>none
  |_,_=>none
 |_,_=>none
def HH (st:St):AV->Bool
 | .at (.Ji _ _ _)=>true
 | .at (.Jl l _)=>match st.at l with
  |some (.Bm _ _ _ _ _)=>true
  |_=>false
 |_=>false
def Oo (st:St) (t:TypeId) (p v:AV):Option St:=match HH st p with
 |true=>ag T st t p v
 |false=>Ti T st t p v
def Qc (st:St) (k m:Nat) (b:OB):St:=let s:=st.aY [m,k] []; {s with heap:=Nj s.heap k b}
def cq (t:TypeId):Option (TypeId×Ty):=(T.elem t).bind λte=>(T.HG te).map λe=>(te,e)
def Wc (st:St) (dst:Nat) (t:TypeId) (l c:AV):Option (AV×St):=
 match cq T t with
 |none=>ab T st dst t l c
 |some (te,e)=>match l,c with
  | .at (.data _ (.int _) n), .at (.data _ (.int _) m)=>if YK n (Et+1)=true/\n=m/\dst<Bf then some (.at (.own dst 0 n.toNat),Qc st dst dst (.Bm e te (List.replicate n.toNat []) none none)) else none
  |_,_=>none
def Il (st:St) (dst:Nat) (t:TypeId) (len:Nat) (parts:Array (Nat×Operand)):Option (AV×St):=
 match cq T t with
 |none=>Lr T st dst t len parts
 |some (te,e)=>match parts.toList with
  | [(0,x)]=>match st.ev x with
   | .at (.own m off ln)=>match st.at m with
    |some (.arr _ _ e' _ xs)=>if h:e'=e/\(Nat.beq len 1&&(Nat.blt dst Bf&&Nat.blt m Bf))=true/\off=0/\ln=xs.length then some (.at (.own dst 0 1),Qc st dst m (.Bm e te [h.1▸xs] none none)) else none
    |_=>none
   |_=>none
  |_=>none
def Ql (st:St) (dst:Nat) (t:TypeId) (x y:Operand):Option (AV×St):=
 match cq T t with
 |none=>Qk T st dst t x y
 |some (te,e)=>match st.ev x,st.ev y with
  | .at (.own l off len), .at (.own m RC qE)=>match st.at l,st.at m with
   |some (.Bm e1 te1 A none _),some (.Bm e2 tq B none _)=>
    if h:(e1=e/\e2=e)/\(decide (te1=te)&&decide (tq=te)&&(Nat.blt l Bf&&(Nat.blt m Bf&&!Nat.beq m l)))=true/\(off=0/\len=A.length)/\(RC=0/\qE=B.length)/\0<B.length/\A.length+B.length<=Et then
     some (.at (.own l 0 (A.length+B.length)),Qc st l m (.Bm e te ((h.1.1▸A:List (List e.den))++(h.1.2▸B:List (List e.den))) none none))
    else none
   |_,_=>none
  |_,_=>none
def sI (fr:Bool):(c:CK)->c.den->Option OB
 | .Fp _,_=>none
 | .row e te,xs=>some (.arr (fr&&e.flat) false e te xs)
 | .Hb e te,xs=>some (.Gl e te xs)
 | .part e te,x=>some (.arr (fr&&e.flat) false e te x.1)
 | .Bm e te _,xs=>some (.Bm e te xs none none)
def z0 (H:List (Nat×OB)) (l:Nat):Option OB->List (Nat×OB)
 |some b=>Nj H l b
 |none=>H
def Wk (fr:Bool) (key:Nat->Nat):(k:Nat)->(cs:List CK)->CKs.den cs->List (Nat×OB)->List (Nat×OB)
 |_,[],_,H=>H
 |k,c::r,x,H=>Wk fr key (k+1) r x.2 (z0 H (key k) (sI fr c x.1))
def aw (key:Nat->Nat):(k:Nat)->(cs:List CK)->CKs.den cs->List AC
 |_,[],_=> []
 |k,c::r,x=>(match c,x.1 with
  | .Fp τ,y=> .data τ.flat τ y
  | .row _ _,xs=> .own (key k) 0 (List.length xs)
  | .Hb _ _,xs=> .own (key k) 0 (List.length xs)
  | .Bm _ _ _,xs=> .own (key k) 0 (List.length xs)
  | .part _ _,_=> .undef)::aw key (k+1) r x.2
def Yi:List (Option Nat)->List AC->List (Bool×List AC)
 |none::s,a::as=>(false,[a])::Yi s as
 |some n::s,as=>(true,as.take n)::Yi s (as.drop n)
 |_,_=> []
def Af4 (Hx:Bool) (sh:List (Option Nat)) (as:List AC):Option AV:=
 if Hx then some (.Mb (Yi sh as)) else match Rq sh as with
  | [v]=>some v
  | []=>some .undef
  |_=>none
def kR (tks:List (Nat×Loc)):List Nat:=(tks.filter λt=>Nat.blt t.1 Bf&&!t.2.reads).map λt=>t.2.Vm
def whole (tks:List (Nat×Loc)):List Nat:=tks.flatMap λt=>match t.2 with| .row l=> [l]|_=> []
def xK (tks:List (Nat×Loc)):List Nat:=(tks.filter λt=>t.2.reads).map λt=>t.2.Vm
def ze (ins:List (Bool×CK)) (te:TypeId) (used:List Nat):List (Nat×Loc)->Option Nat
 | []=>none
 |(k, .row l)::r=>if Nat.blt k Bf&&(!used.contains l&&(match ins[k-500000]? with
   |some (false, .row _ Qg)=>decide (Qg=te)
   |some (false, .Hb _ Qg)=>decide (Qg=te)
   |some (false, .Bm _ Qg _)=>decide (Qg=te)
   |_=>false)) then some l else ze ins te used r
 |_::r=>ze ins te used r
def DK (ins:List (Bool×CK)) (tks:List (Nat×Loc)) (d:Nat):(k:Nat)->(used:List Nat)->List CK->List Nat
 |_,_,[]=> []
 |k,used,c::r=>match (match c with
   | .row _ te=>ze ins te used tks
   | .Hb _ te=>ze ins te used tks
   | .Bm _ te _=>ze ins te used tks
   |_=>none) with
  |some l=>l::DK ins tks d (k+1) (l::used) r
  |none=>QY d k::DK ins tks d (k+1) used r
def kN (s:MSpec) (tks:List (Nat×Loc)) (d:Nat):List Nat:=DK s.ins tks d 0 [] s.outs
def Dw (ks:List Nat) (j:Nat):Nat:=match ks[j]? with
 |some l=>l
 |none=>Bf+j
def wv (ks:List Nat) (n:Nat):Bool:=Nat.beq ks.length n&&(Yh ks&&ks.all λl=>Nat.blt l Bf)
def HD (st:St) (l:List Nat):Bool:=l.all λk=>match st.at k with|some (.arr fr _ _ _ _)=>fr|_=>false
def II (st:St) (s:MSpec) (args:List AV):Option (List Nat×List AC×List AV):=
 match s.ptr with
 |none=>some ([],[],args)
 |some p=>match args with
  | .at (.Gs l i)::rest=>match st.at l with
   |some (.var tid vs)=>if tid=p.1/\vs.length=p.2/\i=0 then some ([l],vs,rest) else none
   |_=>none
  |_=>none
def Ur:List (Bool×CK)->List AC->Bool
 |(true, .row _ _)::r, .own _ _ _::as=>Ur r as
 |(true, .Hb _ _)::r, .own _ _ _::as=>Ur r as
 |(true,_)::_,_::_=>false
 |(false,_)::r,_::as=>Ur r as
 |_,as=>as.isEmpty
def eE {α:Type} :List (Bool×CK)->List α->List α->List α
 |(true,_)::r,v::vs,as=>v::eE r vs as
 |(false,_)::r,_::vs,a::as=>a::eE r vs as
 |_,vs,_=>vs
def rn:List (Bool×CK)->Nat->Nat
 |(true,_)::r,n+1=>rn r n
 |(false,_)::r,n+1=>rn r n+1
 |_,_=>0
def MSpec.Yt (s:MSpec):Nat:=match s.ptr with|none=>0|some p=>rn s.ins p.2
def oJ (ins:List (Bool×CK)) (as:List AC) (pl:List Nat) (st:St):St:=
 match pl with
 | []=>st
 |l::_=>match st.at l with
  |some (.var tid vs)=>st.Jh l (.var tid (eE ins vs as))
  |_=>st
def Rx (d:Nat):Nat:=QY d 999
def kr (s:MSpec) (d:Nat):List Nat:=match s.rp with|none=> []|some _=> [Rx d]
def Qx (s:MSpec) (tks:List (Nat×Loc)) (d:Nat):List Nat:=kN s tks d++kr s d
def ll (H:List (Nat×OB)) (l:Nat):Bool:=match Aq H l with
 |some (.Bm _ _ _ _ _)=>true
 |_=>false
def ao (H:List (Nat×OB)) (ks:List Nat) (tks:List (Nat×Loc)):List (Nat×Nat)->List Nat
 | []=> []
 |(k,j)::r=>match tks.find? (λt=>Nat.beq t.1 (Ds false k)),ks[j]? with
  |some (_, .row l),some l'=>if Nat.beq l' l&&ll H l then l::ao H ks tks r else ao H ks tks r
  |_,_=>ao H ks tks r
def p8 (H:List (Nat×OB)) (l:Nat):Nat:=match Aq H l with
 |some (.Bm _ _ rows _ _)=>rows.length
 |_=>0
def bT (H:List (Nat×OB)) (ls:List Nat) (n:Nat):List AV->Bool
 | []=>true
 | .at (.sub l i _)::r=>(!ls.contains l||(Nat.blt i n&&Nat.blt i (p8 H l)))&&bT H ls n r
 |_::r=>bT H ls n r
def Lb (ls:List Nat):List AV->List AV->List AV
 | .at (.sub l i c)::r,v::vs=>(if ls.contains l then .at (.sub l i c) else v)::Lb ls r vs
 |_::r,v::vs=>v::Lb ls r vs
 |_,vs=>vs
def Aav:Option OB->Option (Nat×Nat)
 |some (.Bm _ _ _ _ kp)=>kp
 |_=>none
def OB.zZ (b:OB) (kp:Option (Nat×Nat)):OB:=match b with
 | .Bm e te rows out _=> .Bm e te rows out kp
 |b=>b
def bL (H0:List (Nat×OB)) (ls:List Nat) (n:Nat):List (Nat×OB)->List (Nat×OB)
 | []=> []
 |(l,b)::r=>(l,if ls.contains l then b.zZ (aq n (Aav (Aq H0 l))) else b)::bL H0 ls n r
def jZ (aM st:St) (ls:List Nat) (n:Nat):St:=match ls with
 | []=>st
 |_=> {tmps:=Lb ls aM.tmps st.tmps,heap:=bL aM.heap ls n st.heap}
def WG (s:MSpec) (d:Nat) (as:List AC):Option AV:=match s.rp with
 |none=>Af4 s.Hx s.Im as
 |some _=>some (.at (.Gs (Rx d) 0))
def jH (st st1:St) (d:Nat) (s:MSpec) (pl:List Nat) (tks:List (Nat×Loc)) (r:CKs.den s.outs):St:=
 let ks:=Qx s tks d
 let key:=Dw ks
 let st2:=oJ s.ins (aw key 0 s.outs r) pl (st1.aY (kR tks++ks++(if s.flat then [] else xK tks)) (whole tks))
 {st2 with heap:=Wk (HD st (kR tks)) key 0 s.outs r (z0 st2.heap (Rx d) (s.rp.map λtid=> .var tid ((aw key 0 s.outs r).drop s.Yt)))}
def Wa (st:St) (dst:Option Nat) (s:MSpec) (args:List AV):Option (AV×St):=
 match II st s args with
 |none=>none
 |some (pl,vs,rest)=>match ungroup s.Jn rest with
 |none=>none
 |some m4=>match dU st 0 s.ins (vs++m4) with
  |none=>none
  |some (x,tks)=>if Yh (tks.map λt=>t.2.Vm)&&wv (Qx s tks (dst.getD 0)) (s.outs.length+(kr s (dst.getD 0)).length)&&Nat.blt s.outs.length 1000&&Nat.blt s.ins.length 1000&&(Ur s.ins vs&&pl.all λl=>!((tks.map λt=>t.2.Vm)++Qx s tks (dst.getD 0)).contains l) then match s.fn x with
   |none=>none
   |some (r,o)=>match Hk s.ins o (vs++m4) st with
    |none=>none
    |some st1=>match WG s (dst.getD 0) ((aw (Dw (Qx s tks (dst.getD 0))) 0 s.outs r).drop s.Yt) with
     |none=>none
     |some v=>if bT (jH st st1 (dst.getD 0) s pl tks r).heap (ao st.heap (Qx s tks (dst.getD 0)) tks s.keeps) (s.Gg x) st.tmps=true then
       some (v,jZ st (jH st st1 (dst.getD 0) s pl tks r) (ao st.heap (Qx s tks (dst.getD 0)) tks s.keeps) (s.Gg x)) else none
   else none
def Mo:List Operand->St->Option St
 | [],st=>some st
 |x::r,st=>match settle st (st.ev x) with
  |some (_,st')=>Mo r st'
  |none=>none
def Nm (st:St) (p x:Operand):St:=match st.ev p with
 | .at (.Gs l _)=>match T.marks.contains (dM+l) with
  |true=>match Mo [x] st with
   |some s0=>s0
   |none=>st
  |false=>st
 |_=>st
def du (s:Spec) (args:List AV):Bool:=!(s.fresh||s.res.flat||args.all (·.settled))
def evalOp (Γ:Env) (st:St) (o:Oper):Option (AV×St):=
 match o.op with
 | .assign x=>match st.ev x,o.dst,(T.elem o.type).bind λte=>(T.ty te).map λe=>(te,e) with
  | .at .Le,some d,some (te,e)=>if d<Bf then some (.at (.own d 0 0),st.new d (.arr (T.sv||e.flat) T.AQ e te [])) else none
  |v,_,_=>some (v,st)
 | .alloc t=>match o.dst,T.ty t with
  |some d,some τ=>match T.marks.contains (cb+d) with
   |true=>qP st d t (Pc τ)
   |false=>mkVar T st d t τ (zeroCells τ)
  |_,_=>none
 | .box t x=>match o.dst,T.ty t with
  |some d,some τ=>match cellsOf τ (st.ev x) with
   |some cs=>match T.marks.contains (cb+d) with
    |true=>if cs.all (·.settled)=true then (Er st τ cs).map λp=>(.at (.data false (.optr τ) (some p.2)),st) else none
    |false=>mkVar T st d t τ cs
   |none=>none
  |_,_=>none
 | .store t p x=>(Oo T (Nm T st p x) t ((Nm T st p x).ev p) ((Nm T st p x).ev x)).map λs=>(.undef,s)
 | .makeSlice t l c=>match o.dst with
  |some d=>Wc T st d t (st.ev l) (st.ev c)
  |none=>none
 | .makeMap t none=>match o.dst with
  |some d=>Th T st d t
  |none=>none
 | .mapUpdate t m k x=>(Ip T st t (st.ev m) (st.ev k) (st.ev x)).map λs=>(.undef,s)
 | .insert t m k x=>(Ip T st t (st.ev m) (st.ev k) (st.ev x)).map λs=>(.undef,s)
 | .buildSlice t len parts=>match o.dst with
  |some d=>Il T st d t len parts
  |none=>none
 | .build t parts=>(Vz T st t parts).map λv=>(v,st)
 | .call {callee:= .builtin .append,args,argTypes} =>match o.dst,args.toList,argTypes.toList with
  |some d,[x,y],[t,t']=>if t=t' then Ql T st d t x y else none
  |_,_,_=>none
 | .call {callee:= .builtin .copy,args,argTypes} =>match args.toList,argTypes.toList with
  | [x,y],[t,t']=>fH T st t t' (st.ev x) (st.ev y)
  |_,_=>none
 | .call {callee:= .builtin .clear,args,argTypes} =>match args.toList,argTypes.toList with
  | [x],[t]=>(evalClear T st t (st.ev x)).map λs=>(.undef,s)
  |_,_=>none
 | .call {callee:= .value (.func f),args, .. } =>match Γ f with
  |some (.m s)=>Wa st o.dst s (args.toList.map st.ev)
  |some (.q s)=>if du s (args.toList.map st.ev) then (match Mo args.toList st with
   |some st1=>(Es T Γ st1 o).map λv=>(v,st1)
   |none=>none) else (Es T Γ st o).map λv=>(v,st)
  |_=>(Es T Γ st o).map λv=>(v,st)
 |_=>(Es T Γ st o).map λv=>(v,st)
def dx (e:Ty):Nat->List (Nat×Operand)->St->Option (Bool×List e.den)
 |_,[],_=>some (true,[])
 |i,(j,x)::r,st=>
  if i=j/\(st.ev x).settled=true then match Fe st e (st.ev x),dx e (i+1) r st with
   |some (fr,y),some (Um,ys)=>some (fr&&Um,y::ys)
   |_,_=>none
  else none
def aa (st:St) (t:TypeId) (len:Nat) (parts:Array (Nat×Operand)):Option AV:=
 match T.elem t with
 |none=>none
 |some te=>match T.ty te with
  |none=>none
  |some e=>if parts.size=len/\len<=64/\e.size<=64 then (dx e 0 parts.toList st).map λp=> .at (.data p.1 (.slice e) p.2) else none
def Vo (Γ:Env) (st:St) (o:Oper):Option AV:=
 match o.op with
 | .buildSlice t len parts=>aa T st t len parts
 | .build t parts=>Vz T st t parts
 |_=>Es T Γ st o
def QQ (q:Bool) (Γ:Env) (o:Oper):Bool:=
 match o.op with
 | .buildSlice _ _ _| .build _ _=>!q
 | .alloc _| .box _ _| .store _ _ _| .makeSlice _ _ _| .makeMap _ _| .mapUpdate _ _ _ _| .insert _ _ _ _=>true
 | .assign (.const _)=>true
 | .call {callee:= .builtin .append, .. } =>true
 | .call {callee:= .builtin .copy, .. } =>true
 | .call {callee:= .builtin .clear, .. } =>true
 | .call {callee:= .value (.func f), .. } =>match Γ f with
  |some (.m _)=>true
  |_=>false
 |_=>false
def En (Γ:Env) (ops:Array Oper) (st:St) (o:Oper):Option St:=
 match o.guard with
 |none=>(evalOp T Γ st o).map λr=>r.2.put o.dst r.1
 |some (j,want)=>match Vt st ((ops[j]?).bind (·.dst)) with
  |some (some b)=>if b==want then (evalOp T Γ st o).map λr=>r.2.put o.dst r.1 else some (st.put o.dst (.at .skip))
  |some none=>some (st.put o.dst (.at .skip))
  |none=>none
def Za (Γ:Env) (ops:Array Oper):List Oper->St->Option St
 | [],st=>some st
 |o::r,st=>match En T Γ ops st o with
  |some st'=>Za Γ ops r st'
  |none=>none
def Iy (q:Bool) (Γ:Env) (ops:Array Oper):List Nat:=
 (List.range ops.size).foldl (init:= []) λacc i=>match ops[i]? with
  |some o=>if QQ q Γ o||o.after.any (λe=>Region.binds .any e&&acc.contains e.on) then acc++ [i] else acc
  |none=>acc
def ba (q:Bool) (Γ:Env) (ops:Array Oper):List Nat:=(List.range ops.size).filter λi=>!(Iy q Γ ops).contains i
def lk (ops:Array Oper) (hd tl:List Nat) (i:Nat):Bool:=
 match ops[i]? with
 |some o=>(match o.op,o.guard with
  | .move (.tmp _),none=>true
  |_,_=>false)&&!((tl.take 1++hd).any λj=>decide (i<j)&&Region.waitsFor .any ops j i)
 |none=>false
def Ul (q:Bool) (Γ:Env) (ops:Array Oper):List Nat:=(ba q Γ ops).filter λi=>lk ops (ba q Γ ops) (Iy q Γ ops) i
def Up (q:Bool) (Γ:Env) (ops:Array Oper):List Nat:=(ba q Γ ops).filter λi=>!lk ops (ba q Γ ops) (Iy q Γ ops) i
def ig (q:Bool) (Γ:Env) (ops:Array Oper):List Nat:=Ul q Γ ops++Up q Γ ops
def QI (ops:Array Oper) (i:Nat):Bool:=match ops[i]? with
 |some o=>(match o.op,o.guard with
  | .extract _ _,none=>true
  |_,_=>false)
 |none=>false
def lM (ops:Array Oper):List Nat->Array Bool->Bool
 | [],Af=>(Region.ready .any ops Af).isEmpty
 |k::r,Af=>(decide (Region.ready .any ops Af= [k])||(QI ops k&&((Region.ready .any ops Af).contains k&&Region.free .any ops Af k)))&&lM ops r (Af.setIfInBounds k true)
def mw (ops:Array Oper) (tl:List Nat):List Nat->Array Bool->Bool
 | [],Af=>lM ops tl Af
 |k::r,Af=>(Region.ready .any ops Af).contains k&&Region.free .any ops Af k&&mw ops tl r (Af.setIfInBounds k true)
def rF (ops:Array Oper) (hd:List Nat):List Nat->Bool
 | []=>true
 |f::r=>(hd.all λi=>(f::hd).any λj=>decide (i<j)&&Region.waitsFor .any ops j i)&&r.all λt=>(f::r).any λk=>Region.waitsFor .any ops t k
def l8 (ops:Array Oper) (tl hd:List Nat):List Nat->Array Bool->Bool
 | [],Af=>mw ops tl hd Af
 |k::r,Af=>(Region.ready .any ops Af).contains k&&Region.free .any ops Af k&&l8 ops tl hd r (Af.setIfInBounds k true)
def bk (q:Bool) (Γ:Env) (ops:Array Oper):Bool:=
 Region.noSelect ops&&((Ul q Γ ops).length+((Up q Γ ops).length+(Iy q Γ ops).length)==ops.size)&&l8 ops (Iy q Γ ops) (Up q Γ ops) (Ul q Γ ops) (Array.replicate ops.size false)&&rF ops (Up q Γ ops) (Iy q Γ ops)
def Vn (Γ:Env) (ops:Array Oper) (st:St) (o:Oper):Option AV:=
 match o.guard with
 |none=>Vo T Γ st o
 |some (j,want)=>match Vt st ((ops[j]?).bind (·.dst)) with
  |some (some b)=>if b==want then Vo T Γ st o else some (.at .skip)
  |some none=>some (.at .skip)
  |none=>none
def Fl (Γ:Env) (ops:Array Oper):List Nat->St->Option St
 | [],st=>some st
 |i::r,st=>match ops[i]? with
  |none=>none
  |some o=>match Vn T Γ ops st o with
   |some v=>Fl Γ ops r (st.put o.dst v)
   |none=>none
def Me (Γ:Env) (ops:Array Oper):List Nat->St->Option St
 | [],st=>some st
 |i::r,st=>match ops[i]? with
  |none=>none
  |some o=>match En T Γ ops st o with
   |some st'=>Me Γ ops r st'
   |none=>none
def Qn (Γ:Env) (ops:Array Oper) (draw:Bool) (st:St):Option St:=
 if draw then (if bk false Γ ops then (match Fl T Γ ops (ig false Γ ops) st with
  |some st'=>Me T Γ ops (Iy false Γ ops) st'
  |none=>none) else if bk true Γ ops then (match Fl T Γ ops (ig true Γ ops) st with
  |some st'=>Me T Γ ops (Iy true Γ ops) st'
  |none=>none) else none)
 else Za T Γ ops ops.toList st
def wj (ops:Array Oper) (i:Nat):Bool:=match ops[i]? with
 |some o=>(match o.op,o.guard with
  | .move (.tmp _),none=>true
  |_,_=>false)
 |none=>false
def im (ops:Array Oper) (i:Nat):Bool:=match ops[i]? with
 |some o=>(match o.op,o.guard with
  | .move (.tmp _),none=>true
  | .nilCheck _,none=>true
  | .fieldAddr _ _ _,none=>true
  |_,_=>false)
 |none=>false
def Afc (q:Bool) (ops:Array Oper) (i:Nat):Bool:=match q with
 |true=>im ops i
 |false=>wj ops i
def Iu (q:Bool) (ops:Array Oper):List Nat->Array Bool->List Nat
 | [],_=> []
 |i::r,Af=>if Afc q ops i&&((Region.ready .any ops Af).contains i&&Region.free .any ops Af i) then i::Iu q ops r (Af.setIfInBounds i true) else Iu q ops r Af
def QV (q:Bool) (ops:Array Oper):List Nat:=Iu q ops (List.range ops.size) (Array.replicate ops.size false)
def ie (q:Bool) (ops:Array Oper):Bool:=Nat.ble (ops.size-(QV q ops).length) 8
def Jx (ops:Array Oper):List Nat:=QV (!ie false ops) ops
def Ec:List Nat->Array Bool->Array Bool
 | [],Af=>Af
 |i::r,Af=>Ec r (Af.setIfInBounds i true)
def anyS (Γ:Env) (ops:Array Oper) (K:St->Prop):Nat->Array Bool->St->Prop
 |0,Af,st=>Region.ready .any ops Af= []/\K st
 |f+1,Af,st=>Region.ready .any ops Af≠ []/\ ∀i∈Region.ready .any ops Af,∃o st',ops[i]?=some o/\En T Γ ops st o=some st'/\anyS Γ ops K f (Af.setIfInBounds i true) st'
def iq (ops:Array Oper) (i:Nat):Bool:=match ops[i]? with
 |some o=>(match o.op,o.guard with
  | .move _,none=>true
  | .load _ _,none=>true
  | .indexAddr _ _ _,none=>true
  | .fieldAddr _ _ _,none=>true
  |_,_=>false)
 |none=>false
def iz (ops:Array Oper):List Nat->Array Bool->List Nat
 | [],_=> []
 |i::r,Af=>if iq ops i&&((Region.ready .any ops Af).contains i&&Region.free .any ops Af i) then i::iz ops r (Af.setIfInBounds i true) else iz ops r Af
def ni (ops:Array Oper) (i j:Nat) (p:Oper->Oper->Bool):Bool:=match ops[i]?,ops[j]? with
 |some x,some y=>p x y
 |_,_=>false
def lW (ops:Array Oper) (x y:Oper):Bool:=match x.dst with
 |some d=>!(y.looksAt ops).contains d
 |none=>true
def CJ (x y:Oper):Bool:=match x.dst with
 |some d=>y.dst !=some d
 |none=>true
def gF (ops:Array Oper):List Nat->Array Bool->Bool
 | [],_=>true
 |r::E,Af=>(Region.ready .any ops Af).contains r&&gF ops E (Af.setIfInBounds r true)
def wT (ops:Array Oper):List Nat->Bool
 | []=>true
 |r::E=>(ni ops r r (lW ops)&&E.all λq=>ni ops r q (λx y=>CJ x y&&lW ops y x)&&(Region.waitsFor .any ops q r||ni ops r q (lW ops)))&&wT ops E
def UL (ops:Array Oper) (E:List Nat) (L0:Array Bool):Bool:=E.all λr=>(List.range ops.size).all λj=>E.contains j||L0.getD j false||Region.waitsFor .any ops j r||ni ops r j (λx y=>x.apart ops y)
def bl (ops:Array Oper) (E:List Nat) (L0:Array Bool):Bool:=(E.all (iq ops)&&gF ops E L0)&&(wT ops E&&UL ops E L0)
def pq (ops:Array Oper) (E:List Nat) (Af:Array Bool) (r:Nat):Bool:=(List.range ops.size).any λj=>!E.contains j&&(Af.getD j false&&Region.waitsFor .any ops j r)
def SK (Γ:Env) (ops:Array Oper) (E:List Nat) (Af:Array Bool) (st:St):Prop:=
 ∀r∈E,pq ops E Af r=true\/ ∃o v,ops[r]?=some o/\Vn T Γ ops st o=some v/\ ∀d,o.dst=some d->st.get d=v
def om (Γ:Env) (ops:Array Oper) (E:List Nat) (K:St->Prop):Nat->Array Bool->St->Prop
 |0,Af,st=>SK T Γ ops E Af st/\Region.ready .any ops Af= []/\K st
 |f+1,Af,st=>SK T Γ ops E Af st/\Region.ready .any ops Af≠ []/\ ∀i∈Region.ready .any ops Af,∃o st',ops[i]?=some o/\En T Γ ops st o=some st'/\om Γ ops E K f (Af.setIfInBounds i true) st'
def UK (Γ:Env) (ops:Array Oper) (K:St->Prop) (n:Nat) (L0:Array Bool) (aM:St):Prop:=
 ∃E st1,bl ops E L0=true/\E.length<=n/\Fl T Γ ops E aM=some st1/\om T Γ ops E K (n-E.length) (Ec E L0) st1
def x7 (Γ:Env) (draw:Bool):Env:= λf=>match Γ f with
 |some (.b s m)=>some (if draw then .q s else .m m)
 |r=>r
inductive Kx where
 |normal
 |exit (id:Nat)
 |ret
def Hr (live:List Nat):Nat->List AV->List AV
 |_,[]=> []
 |i,v::r=>(if live.contains i then v else .undef)::Hr live (i+1) r
def AV.refs:AV->List Nat
 | .at a=>a.refs
 | .agg cs=>cs.flatMap AC.refs
 | .Zw _ _ _=> []
 | .Mb l=>l.flatMap λp=>p.2.flatMap AC.refs
def OB.refs:OB->List Nat
 | .var _ vs=>vs.flatMap AC.refs
 |_=> []
def Zl:List Nat->St->St
 | [],st=>st
 |l::r,st=>Zl r (st.forget l)
def mQ (l k m:Nat):Nat:=if m=l then k else m
def Tq (l k:Nat):AC->AC
 | .own m off len=> .own (mQ l k m) off len
 | .Gs m i=> .Gs (mQ l k m) i
 | .Jl m i=> .Jl (mQ l k m) i
 | .clo f Dy=> .clo f (Dy.map λp=>(mQ l k p.1,p.2))
 | .Jw m=> .Jw (mQ l k m)
 | .sub m i c=> .sub (mQ l k m) i c
 | .Ji m i c=> .Ji (mQ l k m) i c
 |a=>a
def St.rename (l k:Nat) (st:St):St:=
 match Aq st.heap k,Aq st.heap l with
 |none,some b=>if (Nat.blt l Bf&&Nat.blt k Bf)=true then
   (let s:=st.Kh (Tq l k); {s with heap:=Nj (Yn s.heap l) k (b.map (Tq l k))}) else st
 |_,_=>st
def Lx:Nat->Nat->St->St
 |0,_,st=>st
 |n+1,t,st=>Lx n (t+1) (match st.get t with
  | .at (.own l _ _)=>match Aq st.heap l with
   |some (.arr _ _ _ _ _)=>if (st.tmps.take t).any (λv=>v.refs.contains l) then st else st.rename l (700000+t)
   |_=>st
  |_=>st)
def bo:Nat:=1000000007
def AC.YU (flat:Bool):AC->AC
 | .data fr τ x=> .data (fr&&!(flat&&τ.flat)) τ x
 |c=>c
def OB.Io (flat all one:Bool):OB->OB
 | .arr fr tr e tid xs=> .arr (fr&&!(all||(one||(flat&&e.flat)))) (tr&&!all) e tid xs
 | .var tid vs=> .var tid (vs.map (AC.YU flat))
 |b=>b
def Sm:Nat:=1000000009
def hZ:Nat:=1100000000
def TQ:Nat:=1200000000
def St.Io (live:List Nat) (st:St):St:= {st with heap:=st.heap.map λp=>(p.1,p.2.Io (live.contains Sm) (live.contains (hZ+p.1)) (live.contains (TQ+p.1)))}
def aA:Nat:=900000000
def az (t:Nat) (st:St):St:=match st.get t with
 | .at (.own l off len)=>match Aq st.heap l with
  |some (.arr fr tr e tid xs)=>if Nat.blt l Bf=true then (st.new l (.arr fr tr e tid ((xs.drop off).take len))).put (some t) (.at (.own l 0 ((xs.drop off).take len).length)) else st
  |_=>st
 |_=>st
def Oc:Nat:=1900000000
def OH:Nat:=950000000
def Oy (c:Nat) (st:St):St:=match Aq st.heap Oc with
 |some (.var _ vs)=>match vs[c]? with
  |some (.own l off len)=>match Aq st.heap l with
   |some (.arr fr tr e te xs)=>if Nat.blt l Bf=true then match Aq (st.new l (.arr fr tr e te ((xs.drop off).take len))).heap Oc with
     |some (.var tid vs')=>(st.new l (.arr fr tr e te ((xs.drop off).take len))).Jh Oc (.var tid (vs'.set c (.own l 0 ((xs.drop off).take len).length)))
     |_=>st
    else st
   |_=>st
  |_=>st
 |_=>st
def On (live:List Nat):Nat->Nat->St->St
 |0,_,st=>st
 |n+1,c,st=>On live n (c+1) (if live.contains (OH+c) then Oy c st else st)
def Nx (live:List Nat):Nat->Nat->St->St
 |0,_,st=>On live 16 0 st
 |n+1,t,st=>Nx live n (t+1) (if live.contains (aA+t) then az t st else st)
def St.clean (live:List Nat) (st:St):St:=
 let s:St:= {st with tmps:=Hr live 0 st.tmps}
 let r1:=s.tmps.flatMap AV.refs
 let r2:=r1++(s.heap.filter λp=>r1.contains p.1).flatMap λp=>p.2.refs
 let s2:=Zl ((s.heap.map (·.1)).filter λl=>!r2.contains l&&Nat.blt l Bf) s
 let s2:=if live.any (λt=>Nat.ble aA t&&Nat.blt t bo) then Nx live s2.tmps.length 0 s2 else s2
 let s3:=if live.contains bo then Lx s2.tmps.length 0 s2 else s2
 if live.any (λt=>Nat.ble Sm t) then s3.Io live else s3
def Eo:Code->Nat
 | .region id _ _=>id
 | .seq a _=>Eo a
 | .cond _ a _=>Eo a
 | .block _ c=>Eo c
 | .loop c=>1000+Eo c
 |_=>0
def ZB (a b:List Nat):List Nat:=a++b.filter λt=>!a.contains t
def wB:List Oper->List Nat->List Nat
 | [],out=>out
 |o::r,out=>ZB (o.op.operands.toList.filterMap λ | .tmp t=>some t|_=>none) (match o.dst with|some d=>(wB r out).filter (·!=d)|none=>wB r out)
def CL:List (Nat×List Nat)->Nat->List Nat
 | [],_=> []
 |(k,l)::r,id=>if k=id then l else CL r id
def nO:Code->List (Nat×List Nat)->List Nat->List Nat->List Nat×List (Nat×List Nat)
 | .region _ ops _,_,_,out=>(wB ops.toList out,[])
 | .seq a b,env,ret,out=>let rb:=nO b env ret out;let ra:=nO a env ret rb.1;(ra.1,ra.2++rb.2)
 | .cond c a b,env,ret,out=>let ra:=nO a env ret out;let rb:=nO b env ret out
  (ZB (match c with| .tmp t=> [t]|_=> []) (ZB ra.1 rb.1),ra.2++rb.2)
 | .block id c,env,ret,out=>nO c ((id,out)::env) ret out
 | .exit id,env,_,_=>(CL env id,[])
 | .ret,_,ret,_=>(ret,[])
 | .loop c,env,ret,_=>let l:=(nO c env ret []).1;let r:=nO c env ret l;(l,(Eo c,l)::r.2)
 |_,_,_,out=>(out,[])
def wC:List ResultVar->List Nat
 | []=> []
 | .tmp t::r=>t::wC r
 | .cell p _::r=>p::wC r
def wA (marks:List Nat) (fn:Func) (c:Code):Nat->List Nat:=let ret:=wC fn.results.toList;let g:=CL (nO c [] ret ret).2;match marks with
 | []=>g
 |m=> λid=>g id++m
def St.Pk (dead:List Nat) (st:St):St:=
 let s:St:= {st with tmps:=Hr ((List.range st.tmps.length).filter λt=>!dead.contains t) 0 st.tmps}
 let r1:=s.tmps.flatMap AV.refs
 let r2:=r1++(s.heap.filter λp=>r1.contains p.1).flatMap λp=>p.2.refs
 Zl ((s.heap.map (·.1)).filter λl=>!r2.contains l&&Nat.blt l Bf) s
def Wv (ops:Array Oper) (t:Nat):Bool:=ops.toList.any λo=>o.dst==some t
def iP (Γ:Env) (ops:Array Oper) (draw:Bool) (st:St) (K:St->Prop):Prop:=
 (∃st',Qn T Γ ops draw st=some st'/\K st')\/
 (draw=true/\Region.noSelect ops=true/\ ∃aM,Fl T Γ ops (Jx ops) st=some aM/\
  (anyS T Γ ops K (ops.size-(Jx ops).length) (Ec (Jx ops) (Array.replicate ops.size false)) aM\/UK T Γ ops K (ops.size-(Jx ops).length) (Ec (Jx ops) (Array.replicate ops.size false)) aM))
def vu (Γ:Env) (ops:Array Oper) (draw:Bool) (st:St) (K:St->Prop):Prop:=
 iP T Γ ops draw st K\/ ∃dead:List Nat,(dead.all (Wv ops))=true/\iP T Γ ops draw st λs=>K (s.Pk dead)
def DY (K:St->Prop) (Q:Kx->St->Prop):Kx->St->Prop
 | .normal,s=>K s
 |e,s=>Q e s
def ue (id:Nat) (Q:Kx->St->Prop):Kx->St->Prop
 | .exit KC,s=>if KC=id then Q .normal s else Q (.exit KC) s
 |e,s=>Q e s
def RZ (ops:Array Oper) (t:Nat):Bool:=ops.toList.any λo=>match o.op with
 | .extract (.tmp s) _=>Nat.beq s t
 | .move (.tmp s)=>Nat.beq s t
 | .assign (.tmp s)=>Nat.beq s t
 |_=>false
def Np (ops:Array Oper):Nat->List AV->List AV
 |_,[]=> []
 |i, .Mb l::r=>(if RZ ops i=true then .Mb l else .undef)::Np ops (i+1) r
 |i,v::r=>v::Np ops (i+1) r
def St.kQ (ops:Array Oper) (st:St):St:= {st with tmps:=Np ops 0 st.tmps}
inductive Ni (Γ:Env) (live:Nat->List Nat):Code->St->(Kx->St->Prop)->Prop where
 |skip {st:St} {Q:Kx->St->Prop} :Q .normal st->Ni Γ live .skip st Q
 |label {l:Nat} {st:St} {Q:Kx->St->Prop} :Q .normal st->Ni Γ live (.label l) st Q
 |exit {id:Nat} {st:St} {Q:Kx->St->Prop} :Q (.exit id) st->Ni Γ live (.exit id) st Q
 |ret {st:St} {Q:Kx->St->Prop} :Q .ret st->Ni Γ live .ret st Q
 |region {id:Nat} {ops:Array Oper} {draw:Bool} {st:St} {Q:Kx->St->Prop} :vu T (x7 Γ draw) ops draw (st.kQ ops) (Q .normal)->Ni Γ live (.region id ops draw) st Q
 |seq {x y:Code} {st:St} {Q:Kx->St->Prop} (Q1:Kx->St->Prop):Ni Γ live x st Q1->(∀s,Q1 .normal s->Ni Γ live y s Q)->(∀e s,e≠ .normal->Q1 e s->Q e s)->Ni Γ live (.seq x y) st Q
 |cond {c:Operand} {x y:Code} {st:St} {fr t:Bool} {Q:Kx->St->Prop} :st.ev c= .at (.data fr .bool t)->(t=true->Ni Γ live x st Q)->(t=false->Ni Γ live y st Q)->Ni Γ live (.cond c x y) st Q
 |block {id:Nat} {c:Code} {st:St} {Q:Kx->St->Prop} (Q1:Kx->St->Prop):Ni Γ live c st Q1->(∀e s,Q1 e s->ue id Q e s)->Ni Γ live (.block id c) st Q
 |loop {c:Code} {st:St} {Q:Kx->St->Prop} (Q1:Kx->St->Prop):Ni Γ live c (st.clean (live (Eo c))) Q1->(∀s,Q1 .normal s->Ni Γ live (.loop c) s Q)->(∀e s,e≠ .normal->Q1 e s->Q e s)->Ni Γ live (.loop c) st Q
def bQ (st:St):List ResultVar->Option (List AV)
 | []=>some []
 | .tmp t::r=>(bQ st r).map λl=>st.get t::l
 | .cell p t::r=>match Pe T st t (st.get p),bQ st r with
  |some v,some l=>some (v::l)
  |_,_=>none
def l5 (s:Spec) (fn:Func) (st:St):Option (Bool×s.res.den):=
 match bQ T st fn.results.toList with
 |some [v]=>if s.Hx then none else Fe st s.res v
 |some [v,u]=>if s.Hx then Dr st s.res [v,u] else none
 |some [v,u,t]=>if s.Hx then Dr st s.res [v,u,t] else none
 |_=>none
def Rn:(τ:Ty)->τ.den->List AV
 | .pair a r,x=> .at (.data a.flat a x.1)::Rn r x.2
 |_,_=> []
def iL (st:St):(c:CK)->AC->Option (c.den×List Nat)
 | .Fp τ,a=>if τ.flat||a.settled then (Dj st τ a).map λp=>(p.2,[]) else none
 | .row e te, .own l off len=>match st.at l with
  |some (.arr _ _ e' Qg xs)=>if h:e'=e/\Qg=te then some ((((h.1▸xs:List e.den).drop off).take len),[l]) else none
  |_=>none
 | .row _ _, .Le=>some ([],[])
 | .Hb e te, .own l off len=>match st.at l with
  |some (.arr _ tr e' Qg xs)=>if h:e'=e/\Qg=te/\(tr||e.flat)=true then some ((((h.1▸xs:List e.den).drop off).take len),[l]) else none
  |some (.Gl e' Qg xs)=>if h:e'=e/\Qg=te then some ((((h.1▸xs:List e.den).drop off).take len),[l]) else none
  |_=>none
 | .Hb _ _, .Le=>some ([],[])
 | .Bm e te _, .own l off len=>match st.at l with
  |some (.Bm e' Qg rows none _)=>if h:e'=e/\Qg=te/\off=0/\len=rows.length then some ((h.1▸rows:List (List e.den)),[l]) else none
  |_=>none
 |_,_=>none
def To (st:St):(cs:List CK)->List AC->Option (CKs.den cs×List Nat)
 | [],[]=>some ((),[])
 |c::r,a::as=>match iL st c a,To st r as with
  |some (x,t1),some (y,t2)=>some ((x,y),t1++t2)
  |_,_=>none
 |_,_=>none
def nw (st:St) (l:Nat):(c:CK)->Option c.den
 | .Fp _=>none
 | .row e te=>match st.at l with
  |some (.arr _ _ e' Qg xs)=>if h:e'=e/\Qg=te then some (h.1▸xs) else none
  |_=>none
 | .Hb e te=>match st.at l with
  |some (.Gl e' Qg xs)=>if h:e'=e/\Qg=te then some (h.1▸xs) else none
  |_=>none
 | .part _ _=>none
 | .Bm _ _ _=>none
def No (st:St):(k:Nat)->(cs:List (Bool×CK))->Option (IOs.den cs)
 |_,[]=>some ()
 |k,(true, .Fp _)::r=>No st (k+1) r
 |k,(true, .Bm _ _ _)::r=>No st (k+1) r
 |k,(true, .row e te)::r=>match nw st (Ds true k) (.row e te),No st (k+1) r with
  |some x,some y=>some (x,y)
  |_,_=>none
 |k,(true, .Hb e te)::r=>match nw st (Ds true k) (.Hb e te),No st (k+1) r with
  |some x,some y=>some (x,y)
  |_,_=>none
 |k,(true, .part e te)::r=>match nw st (Ds true k) (.row e te),No st (k+1) r with
  |some x,some y=>some (x,y)
  |_,_=>none
 |k,(false,_)::r=>No st (k+1) r
def Ot:(k:Nat)->List (Bool×CK)->List Nat
 |_,[]=> []
 |k,(true, .Fp _)::r=>Ot (k+1) r
 |k,(true, .Bm _ _ _)::r=>Ot (k+1) r
 |k,(true,_)::r=>Ds true k::Ot (k+1) r
 |k,(false,_)::r=>Ot (k+1) r
def It:(k:Nat)->List (Bool×CK)->List AC->Option (List AC)
 |_,_,[]=>some []
 |k,(true, .row _ _)::r, .own l _ _::as=>if Nat.beq l (Ds true k) then It (k+1) r as else none
 |k,(true, .Hb _ _)::r, .own l _ _::as=>if Nat.beq l (Ds true k) then It (k+1) r as else none
 |k,(false,_)::r,a::as=>(It (k+1) r as).map λl=>a::l
 |_,_,_=>none
def gg (st:St):List AC->List (Bool×CK)->Prop
 | .own l off len::as,(true,_)::r=>(off=0/\match st.at l with
  |some (.arr _ _ _ _ xs)=>len=xs.length
  |some (.Gl _ _ xs)=>len=xs.length
  |_=>False)/\gg st as r
 |_::as,(false,_)::r=>gg st as r
 |_,_=>True
def EV (s:MSpec) (st:St) (l:List AV):Option (List AC×List Nat):=match s.rp with
 |none=>if s.Hx=Nat.blt 1 l.length then (ungroup s.Im l).map λas=>(as,[]) else none
 |some tid=>match l with
  | [.at (.Gs m i)]=>match st.at m with
   |some (.var Tf vs)=>if Tf=tid/\i=0/\Nat.blt m Bf=true then some (vs,[m]) else none
   |_=>none
  |_=>none
def uk (st:St) (n:Nat) (as:List AC):List (Nat×Nat)->Prop
 | []=>True
 |(k,j)::r=>(match as[j]? with
  |some (.own l _ _)=>match st.at l with
   |some (.Bm _ _ _ _ (some p))=>p.1=Ds false k/\n<=p.2/\Nat.blt k 1000=true
   |_=>False
  |_=>False)/\uk st n as r
def iB (s:MSpec) (fn:Func) (x:Ins.den s.ins) (st:St) (cs:List AC) (P:CKs.den s.outs×IOs.den s.ins->Prop):Prop:=
 match bQ T st fn.results.toList with
 |none=>False
 |some l=>match EV s st l with
  |none=>False
  |some (as,ml)=>match To st s.outs (cs++as),No st 0 s.ins with
   |some (r,ls),some o=>(Yh (ml++ls++Ot 0 s.ins)&&Nat.blt s.ins.length 1000&&Nat.blt s.outs.length 1000&&s.QU)=true/\uk st (s.Gg x) (cs++as) s.keeps/\P (r,o)
   |_,_=>False
def NW (s:MSpec) (fn:Func) (x:Ins.den s.ins) (st:St) (P:CKs.den s.outs×IOs.den s.ins->Prop):Prop:=
 match s.ptr with
 |none=>iB T s fn x st [] P
 |some p=> ∃vs cs,st.at Oc=some (.var p.1 vs)/\vs.length=p.2/\It 0 s.ins vs=some cs/\gg st vs s.ins/\iB T s fn x st cs P
def Yq (s:MSpec) (as:List AC):List AV:=match s.ptr with
 |none=>Rq s.Jn as
 |some p=> .at (.Gs Oc 0)::Rq s.Jn (as.drop p.2)
def nK (s:MSpec) (x:Ins.den s.ins):List (Nat×OB):=match s.ptr with
 |none=>Xo 0 s.ins x
 |some p=>Xo 0 s.ins x++ [(Oc, .var p.1 ((al 0 s.ins x).take p.2))]
def Xs:List (Bool×CK)->Bool
 | []=>true
 |(true, .Bm _ _ _)::_=>false
 |_::r=>Xs r
def wY (s:MSpec):Bool:=Xs s.ins&&match s.ptr with
 |none=>true
 |some p=>Nat.ble p.2 s.ins.length
def WY (Γ:Env) (s:MSpec) (fn:Func) (x:Ins.den s.ins) (P:CKs.den s.outs×IOs.den s.ins->Prop):Prop:=
 (Nat.blt s.ins.length 1000&&wY s)=true/\ ∃c,fn.body=some c/\Ni T Γ (wA T.marks fn c) c {tmps:=Yq s (al 0 s.ins x)++List.replicate (fn.ntmps-(Yq s (al 0 s.ins x)).length) .undef,heap:=nK s x}
  (λe st=>(∀id,e≠ .exit id)/\NW T s fn x st P)
def NX (Γ:Env) (s:Spec) (fn:Func) (x:s.arg.den) (P:s.res.den->Prop):Prop:=
 ∃c,fn.body=some c/\Ni T Γ (wA T.marks fn c) c {tmps:=Rn s.arg x++List.replicate (fn.ntmps-(Rn s.arg x).length) .undef,heap:= []}
  (λe st=>(∀id,e≠ .exit id)/\ ∃fr y,l5 T s fn st=some (fr,y)/\(fr||!s.fresh)=true/\P y)
end Go.Proofs.Ytkkdpknjohcekaa
