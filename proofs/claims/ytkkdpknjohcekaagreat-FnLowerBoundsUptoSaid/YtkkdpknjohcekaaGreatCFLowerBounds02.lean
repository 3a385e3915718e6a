/-
  Part 3 of the proof that the statement FnLowerBounds holds.
-/
import Derived.Test.YtkkdpknjohcekaaGreatCFLowerBounds01
namespace Go.Proofs.YtkkdpknjohcekaaGreat
open Go.RowKit
def Ic:Nat->St->List AC->Option (List AC×St)
 |0,st,cs=>if cs.all (·.settled) then some (cs,st) else none
 |n+1,st,cs=>
  match cs.find? (λc=>!c.settled) with
  |none=>some (cs,st)
  |some (.own l _ _)=>match st.at l with
   |some (.arr fr _ e _ xs)=>Ic n (st.freeze l fr e xs) (cs.map (Cw l fr e xs))
   |some (.Hi e _ xs)=>Ic n (st.freeze l false e xs) (cs.map (Cw l false e xs))
   |_=>none
  |some (.Ld l)=>match st.at l with
   |some (.Wm v m)=>Ic n (st.Jg l v m) (cs.map (Ho l v m))
   |_=>none
  |some _=>none
def settle (st:St):AV->Option (AV×St)
 | .at (.own l off len)=>match st.at l with
  |some (.arr fr _ e _ xs)=>some (.at (.data fr (.slice e) ((xs.drop off).take len)),st.freeze l fr e xs)
  |some (.Hi e _ xs)=>some (.at (.data false (.slice e) ((xs.drop off).take len)),st.freeze l false e xs)
  |_=>none
 | .at (.Ld l)=>match st.at l with
  |some (.Wm v m)=>some (.at (.data false (.smap v) m),st.Jg l v m)
  |_=>none
 | .at a=>if a.settled then some (.at a,st) else none
 | .agg cs=>(Ic cs.length st cs).map λp=>(.agg p.1,p.2)
 | .bF fr τ x=>some (.bF fr τ x,st)
 | .Ng _=>none
def AC.refs:AC->List Nat
 | .own l _ _| .Hv l _| .Kw l _| .Ld l| .sub l _ _| .Ks l _ _=> [l]
 | .clo _ Eh=>Eh.map (·.1)
 |_=> []
def aC:List Nat->Bool
 | []=>true
 |a::r=>!r.contains a&&aC r
def Ty.tree:Ty->Bool
 | .int _| .bool| .str| .unit=>true
 | .slice e=>e.tree
 | .pair a r=>a.tree&&r.tree
 |_=>false
def Th (st:St):AC->Bool
 | .data _ τ _=>τ.flat
 | .Mm=>true
 | .own l _ _=>match st.at l with
  |some (.arr _ tr e _ _)=>tr||e.flat
  |some (.Hi _ _ _)=>true
  |_=>false
 |_=>false
def Um (st:St):AV->Bool
 | .at a=>Th st a
 | .agg cs=>cs.all (Th st)&&aC (cs.flatMap AC.refs)
 |_=>false
def Bk:Nat:=1000000000
variable (T:Tab)
def OI (t:TypeId) (τ:Ty) (i:Nat):Option TypeId:=
 if τ.Ao then (List.range 24).findSome? λf=>match T.off t f with
  |some (o,u)=>if o=i then some u else none
  |none=>none
 else some t
def Tab.OT (te:TypeId):Option Ty:=if T.Aeh.contains te then (match T.ty te with
 |some (.slice e)=>some e
 |_=>none) else none
def dY (te:TypeId) (e:Ty):OB:=match T.OT te with
 |some e'=> .Bp e' te [] none none
 |none=> .arr (T.vd||e.flat) T.BI e te []
def Vo (b:OB) (key l i:Nat) (st:St):St:=
 match st.at l with
 |some (.var _ vs)=>match vs[i]? with
  |some .Mm=>
   let s1:=st.new key b
   match s1.at l with
   |some (.var tid vs')=>s1.Kr l (.var tid (Ts vs' i (.own key 0 0)))
   |_=>s1
  |_=>st
 |_=>st
def fL (l:Nat) (t:TypeId) (τ:Ty):Nat->Nat->St->St
 |0,_,st=>st
 |n+1,i,st=>
  fL l t τ n (i+1) (match ((OI T t τ i).bind T.elem).bind λte=>(T.ty te).map λe=>(te,e) with
   |some (te,e)=>Vo (dY T te e) (100000+l*100+i) l i st
   |none=>st)
def eF (l off:Nat) (t:TypeId) (τ:Ty):Nat->Nat->St->St
 |0,_,st=>st
 |n+1,i,st=>
  eF l off t τ n (i+1) (match ((OI T t τ i).bind T.elem).bind λte=>(T.ty te).map λe=>(te,e) with
   |some (te,e)=>Vo (dY T te e) (100000+l*100+(off+i)) l (off+i) st
   |none=>st)
def zeroCells:(τ:Ty)->List AC
 | .unit=> []
 | .pair a r=>zeroCells a++zeroCells r
 | .slice _=> [.Mm]
 | .oslice _=> [.Mm]
 | .ptr _=> [.Wl]
 | .optr _=> [.Wl]
 | .clo _ _=> [.undef]
 |τ=> [.data true τ τ.zero]
def cellsOf (τ:Ty):AV->Option (List AC)
 | .agg cs=>if τ.Ao&&cs.length==τ.size then some cs else none
 | .at (.data fr Pb x)=>if Pb=τ then some (Tm fr Pb x) else none
 | .at .undef=>none
 | .at .skip=>none
 | .at a=>if τ.Ao then none else some [a]
 |_=>none
def mkVar (st:St) (l:Nat) (t:TypeId) (τ:Ty) (cs:List AC):Option (AV×St):=
 if Bk<=100000+l*100+cs.length then none else
 let s:=fL T l t τ cs.length 0 (st.new l (.var t (cs.map (Cl l))))
 match s.at l with
 |some (.var _ _)=>some (.at (.Hv l 0),s)
 |_=>none
def Ra:(τ:Ty)->List AC
 | .unit=> []
 | .pair a r=>Ra a++Ra r
 | .slice e=> [.data false (.slice e) []]
 | .oslice _=> [.Mm]
 | .ptr _=> [.Wl]
 | .optr _=> [.Wl]
 | .clo _ _=> [.undef]
 |τ=> [.data false τ τ.zero]
def Ws:Nat:=1300000000
def fX:Nat:=1400000000
def tF (st:St) (l:Nat) (t:TypeId) (cs:List AC):Option (AV×St):=
 if Bk<=100000+l*100+cs.length then none else some (.at (.Hv l 0),st.new l (.var t (cs.map (Cl l))))
def Dy {α:Type} (xs:List α) (i:Nat) (ys:List α):List α:=xs.take i++ys++xs.drop (i+ys.length)
def WJ (st:St) (τ:Ty) (l:Nat) (v:AV):AV:=match T.marks.contains (Ws+l)&&v.settled with
 |true=>match Gc st τ v with
  |some p=> .at (.data false τ p.2)
  |none=>v
 |false=>v
def Vs (st:St) (t:TypeId) (p v:AV):Option St:=
 match T.ty t,p with
 |some τ, .at (.Hv l i)=>match st.at l,cellsOf τ (WJ T st τ l v) with
  |some (.var tid vs),some cs=>if i+cs.length<=vs.length then some (if τ.Ao&&Nat.blt (100000+l*100+(i+cs.length)) Bk then eF T l i t τ cs.length 0 (st.Kr l (.var tid (Dy vs i cs))) else st.Kr l (.var tid (Dy vs i cs))) else none
  |_,_=>none
 |some τ, .at (.Kw l j)=>match settle st v with
  |some (v',st')=>match st'.at l,Gc st' τ v' with
   |some (.arr fr tr e tid xs),some (Ww,x)=>if h:τ=e then (if j<xs.length then some (st'.Kr l (.arr (fr&&Ww) (tr&&(Um st v&&e.tree)) e tid (xs.set j (h▸x)))) else none) else none
   |_,_=>none
  |none=>none
 |_,_=>none
def Cn:Nat:=4294967296
def Oq (st:St) (dst:Nat) (t:TypeId) (x y:Operand):Option (AV×St):=
 match T.elem t with
 |none=>none
 |some te=>match T.ty te,settle st (st.ev y) with
  |some e,some (y',st')=>match Gc st' (.slice e) y' with
   |none=>none
   |some (rP,ys)=>
    let tr2:=e.flat||(Um st (st.ev y)&&e.tree)
    match st'.ev x with
    | .at .Mm=>if ys.length<=Cn/\dst<Bk then some (.at (.own dst 0 (0+ys.length)),(st'.new dst (.arr (T.vd||e.flat) T.BI e te [])).new dst (.arr ((T.vd||e.flat)&&(rP||e.flat)) (T.BI&&tr2) e te (((([]:List e.den).drop 0).take 0)++ys))) else none
    | .at (.own l off len)=>match st'.at l with
     |some (.arr fr tr e' tid xs)=>if h:e'=e/\tid=te then
       (if len+ys.length<=Cn/\l<Bk then
        some (.at (.own l 0 (len+ys.length)),st'.new l (.arr (fr&&(rP||e.flat)) (tr&&tr2) e te ((((h.1▸xs:List e.den).drop off).take len)++ys))) else none)
      else none
     |_=>none
    |_=>none
  |_,_=>none
def Rd (st:St) (l i m:Nat) (e:Ty) (te tid:TypeId) (rows:List (List e.den)) (kp:Option (Nat×Nat)):St:=
 (st.Kr l (.Bp e te rows (some i) kp)).new m (.arr false false e tid (rows.getD i []))
def Sq (st:St) (dst:Nat) (t:TypeId) (x y:Operand):Option (AV×St):=
 match x with
 | .tmp tx=>match st.get tx with
  | .at (.sub l i _)=>match st.at l,T.elem t with
   |some (.Bp e te rows none kp),some tid=>if (Nat.blt l Bk&&(Nat.blt dst Bk&&!Nat.beq dst l))=true then Oq T ((Rd st l i dst e te tid rows kp).put (some tx) (.at (.own dst 0 (rows.getD i []).length))) dst t x y else none
   |_,_=>none
  |_=>Oq T st dst t x y
 |_=>Oq T st dst t x y
def mH:Ty->Bool
 | .int _| .bool| .str| .slice _| .oslice _=>true
 |_=>false
def gn:Ty->Bool
 | .unit=>true
 | .pair a r=>gn a&&gn r
 |e=>mH e
def bT (st:St) (dst:Nat) (t:TypeId) (l c:AV):Option (AV×St):=
 match T.elem t,l,c with
 |some te, .at (.data _ (.int _) n), .at (.data _ (.int _) m)=>match T.ty te with
  |some e=>if inb n (Cn+1)=true/\n=m/\gn e=true/\dst<Bk then some (.at (.own dst 0 n.toNat),st.new dst (.arr (T.vd||e.flat) (T.BI&&e.tree) e te (List.replicate n.toNat e.zero))) else none
  |none=>none
 |_,_,_=>none
def Lx (e:Ty):Nat->List (Nat×Operand)->St->Option (Bool×Bool×List e.den×St)
 |_,[],st=>some (true,true,[],st)
 |i,(j,x)::r,st=>
  if i=j then match settle st (st.ev x) with
   |some (v,st')=>match Gc st' e v with
    |some (fr,y)=>match Lx e (i+1) r st' with
     |some (Ww,tr',ys,Ash)=>some (fr&&Ww,Um st (st.ev x)&&e.tree&&tr',y::ys,Ash)
     |none=>none
    |none=>none
   |none=>none
  else none
def My (st:St) (dst:Nat) (t:TypeId) (len:Nat) (parts:Array (Nat×Operand)):Option (AV×St):=
 match T.elem t with
 |none=>none
 |some te=>match T.ty te with
  |none=>none
  |some e=>if parts.size=len/\len<=64/\e.size<=64/\dst<Bk then (match Lx e 0 parts.toList st with
   |some (fr,tr,ys,st')=>some (.at (.own dst 0 len),st'.new dst (.arr ((T.vd||e.flat)&&fr) (T.BI&&tr) e te ys))
   |none=>none) else none
def Vr (st:St) (dst:Nat) (t:TypeId):Option (AV×St):=
 match T.mapOf t with
 |some v=>if dst<Bk then some (.at (.Ld dst),st.new dst (.Wm v λ_=>none)) else none
 |none=>none
def au {α:Type} (m:ByteArray->Option α) (k:ByteArray) (x:α):ByteArray->Option α:= λs=>if s=k then some x else m s
def Jt (st:St) (t:TypeId) (m k x:AV):Option St:=
 match T.mapOf t,m,k with
 |some v, .at (.Ld l), .at (.data _ .str s)=>match st.at l,Gc st v x with
  |some (.Wm v' f),some (_,y)=>if h:v'=v/\v.flat=true/\v.Ao=false then some (st.Kr l (.Wm v (au (h.1▸f:ByteArray->Option v.den) s y))) else none
  |_,_=>none
 |_,_,_=>none
def iJ (st:St) (t t':TypeId) (x y:AV):Option (AV×St):=
 match x,(T.elem t).bind T.ty with
 | .at (.own l off len),some e=>if T.elem t=T.elem t'/\e.flat=true/\e.size=1 then match st.at l,Gc st (.slice e) y with
  |some (.arr fr _ e' tid xs),some (_,ys)=>if h:e'=e/\T.elem t=some tid then
    some (.at (.data true (.int .i64) (min len ys.length:Nat)),st.Kr l (.arr fr false e tid (Dy (h.1▸xs:List e.den) off (ys.take len))))
   else none
  |_,_=>none
  else none
 |_,_=>none
def evalClear (st:St) (t:TypeId) (x:AV):Option St:=
 match x,(T.elem t).bind T.ty with
 | .at (.own l off len),some e=>if e.flat=true/\mH e=true then match st.at l with
  |some (.arr fr _ e' tid xs)=>if h:e'=e/\T.elem t=some tid then
    some (st.Kr l (.arr fr false e tid (Dy (h.1▸xs:List e.den) off (List.replicate len e.zero))))
   else none
  |_=>none
  else none
 |_,_=>none
def Mx (st:St) (t:TypeId):List (Nat×Operand)->List AC->Option (List AC)
 | [],cs=>some cs
 |(i,x)::r,cs=>
  match T.off t i with
  |some (o,u)=>match T.ty u with
   |some ρ=>match cellsOf ρ (st.ev x) with
    |some c=>if o+c.length<=cs.length then Mx st t r (Dy cs o c) else none
    |none=>none
   |none=>none
  |none=>none
def Yp (st:St) (t:TypeId) (parts:Array (Nat×Operand)):Option AV:=
 match T.ty t with
 |none=>none
 |some τ=>if τ.Ao then (Mx T st t parts.toList (zeroCells τ)).map .agg else none
def Ea (io:Bool) (k:Nat):Nat:=if io then 1000000000+k else 500000+k
def Kx (k:Nat):Nat:=600000+k
def YZ (dst:Nat) (k:Nat):Nat:=1000000*(dst+1)+k
def Uf:List (Option Nat)->List AC->List AV
 |none::s,a::as=> .at a::Uf s as
 |some n::s,as=> .agg (as.take n)::Uf s (as.drop n)
 |_,_=> []
def Lm:List (Option Nat)->List Value->List Value
 |none::s,u::us=>u::Lm s us
 |some n::s,us=> .agg (us.take n).toArray::Lm s (us.drop n)
 |_,_=> []
def ungroup:List (Option Nat)->List AV->Option (List AC)
 | [],[]=>some []
 |none::s, .at a::as=>(ungroup s as).map λr=>a::r
 |some n::s, .agg cs::as=>if cs.length=n then (ungroup s as).map λr=>cs++r else none
 |some n::s, .at (.data fr τ x)::as=>if τ.Ao=true/\(Tm fr τ x).length=n then (ungroup s as).map λr=>Tm fr τ x++r else none
 |_,_=>none
def kA (l:Nat):(c:CK)->c.den->Option OB
 | .Ft _,_=>none
 | .row e te,xs=>some (.arr false false e te xs)
 | .Ii e te,xs=>some (.Hi e te xs)
 | .part e te,x=>some (.arr false false e te x.1)
 | .Bp e te kp,xs=>some (.Bp e te xs none (if kp then some (l,List.length xs) else none))
def Apc (l:Nat):(c:CK)->c.den->AC
 | .Ft τ,x=> .data τ.flat τ x
 | .row _ _,xs=> .own l 0 (List.length xs)
 | .Ii _ _,xs=> .own l 0 (List.length xs)
 | .part _ _,x=> .own l x.2.1 x.2.2
 | .Bp _ _ _,xs=> .own l 0 (List.length xs)
def iC {α:Type} (l:Nat):Option α->List (Nat×α)->List (Nat×α)
 |none,r=>r
 |some b,r=>(l,b)::r
def ab:(k:Nat)->(cs:List (Bool×CK))->Ins.den cs->List (Nat×OB)
 |_,[],_=> []
 |k,p::r,x=>iC (Ea p.1 k) (kA (Ea p.1 k) p.2 x.1) (ab (k+1) r x.2)
def c6:(k:Nat)->(cs:List (Bool×CK))->Ins.den cs->List AC
 |_,[],_=> []
 |k,p::r,x=>Apc (Ea p.1 k) p.2 x.1::c6 (k+1) r x.2
inductive Loc where
 |row (l:Nat)
 |sub (l i c:Nat)
 |view (l:Nat)
 deriving DecidableEq
def Loc.Xy:Loc->Nat
 | .row l=>l
 | .sub l _ _=>l
 | .view l=>l
def Loc.reads:Loc->Bool
 | .view _=>true
 |_=>false
def cz (st:St) (ls:List Nat):Bool:=ls.all λl=>match st.at l with|some (.var _ vs)=>vs.all (·.settled)|_=>false
def views (k:Nat) (ls:List Nat):List (Nat×Loc):=ls.map λl=>(Ea false k, .view l)
def Ms (st:St) (io:Bool) (k:Nat):(c:CK)->AC->Option (c.den×List (Nat×Loc))
 | .Ft τ, .own l off len=>(Dr st τ (.own l off len)).map λp=>(p.2,[(Ea false k, .view l)])
 | .Ft τ, .clo g Eh=>if cz st (Eh.map (·.1))&&!τ.Ao then (Kp st τ (.clo g Eh)).map λp=>(p.2,views k (Eh.map (·.1))) else none
 | .Ft τ, .Hv l i=>if cz st [l]&&!τ.Ao then (Kp st τ (.Hv l i)).map λp=>(p.2,views k [l]) else none
 | .Ft τ, .sub l i c=>(Dr st τ (.sub l i c)).map λp=>(p.2,[(Ea false k, .view l)])
 | .Ft τ,a=>if τ.flat||a.settled then (Dr st τ a).map λp=>(p.2,[]) else none
 | .row e te, .own l off len=>match st.at l with
  |some (.arr _ _ e' Sj xs)=>if h:e'=e/\Sj=te/\off=0/\len=xs.length then some ((h.1▸xs:List e.den),[(Ea io k, .row l)]) else none
  |_=>none
 | .row e _, .sub l i c=>match st.at l with
  |some (.Hi e' _ xs)=>if h:e'= .slice e/\e.flat=true/\io=true/\c=0 then xs[i]?.map λy=>((h.1▸y:(Ty.slice e).den),[(Ea io k, .sub l i c)]) else none
  |_=>none
 | .row _ _, .Mm=>some ([],[])
 | .Ii e te, .own l off len=>match st.at l with
  |some (.Hi e' Sj xs)=>if h:e'=e/\Sj=te/\off=0/\len=xs.length then some ((h.1▸xs:List e.den),[(Ea io k, .row l)]) else none
  |_=>none
 | .Ii e _, .sub l i c=>match st.at l with
  |some (.Hi e' _ xs)=>if h:e'= .slice e/\io=true/\c=0 then xs[i]?.map λy=>((h.1▸y:(Ty.slice e).den),[(Ea io k, .sub l i c)]) else none
  |_=>none
 | .Ii _ _, .Mm=>some ([],[])
 | .part e te, .own l off len=>match st.at l with
  |some (.arr _ _ e' Sj xs)=>if h:e'=e/\Sj=te/\e.flat=true/\io=true then some (((h.1▸xs:List e.den),off,len),[(Ea io k, .row l)]) else none
  |_=>none
 | .Bp e te _, .own l off len=>match st.at l with
  |some (.Bp e' Sj rows none _)=>if h:e'=e/\Sj=te/\off=0/\len=rows.length/\io=false then some ((h.1▸rows:List (List e.den)),[(Ea io k, .row l)]) else none
  |_=>none
 |_,_=>none
def gi (st:St):(k:Nat)->(cs:List (Bool×CK))->List AC->Option (Ins.den cs×List (Nat×Loc))
 |_,[],[]=>some ((),[])
 |k,p::r,a::as=>match Ms st p.1 k p.2 a,gi st (k+1) r as with
  |some (x,t1),some (y,t2)=>some ((x,y),t1++t2)
  |_,_=>none
 |_,_,_=>none
def cH (st:St):(c:CK)->c.den->AC->Option St
 | .row e _,ys, .own l _ len=>match st.at l with
  |some (.arr fr tr e' te xs)=>if h:e=e'/\List.length ys=len/\xs.length=len then some (st.Kr l (.arr (fr&&e'.flat) (tr&&e'.flat) e' te (h.1▸ys))) else none
  |_=>none
 | .Ii e _,ys, .own l _ len=>match st.at l with
  |some (.Hi e' te xs)=>if h:e=e'/\List.length ys=len/\xs.length=len then some (st.Kr l (.Hi e' te (h.1▸ys))) else none
  |_=>none
 | .row e _,ys, .sub l i _=>match st.at l with
  |some (.Hi e' te xs)=>if h: .slice e=e' then (match xs[i]? with
   |some y=>if List.length ys=List.length (h▸y:(Ty.slice e).den) then some (st.Kr l (.Hi e' te (xs.set i (h▸(ys:(Ty.slice e).den))))) else none
   |none=>none) else none
  |_=>none
 | .Ii e _,ys, .sub l i _=>match st.at l with
  |some (.Hi e' te xs)=>if h: .slice e=e' then (match xs[i]? with
   |some y=>if List.length ys=List.length (h▸y:(Ty.slice e).den) then some (st.Kr l (.Hi e' te (xs.set i (h▸(ys:(Ty.slice e).den))))) else none
   |none=>none) else none
  |_=>none
 |_,_, .Mm=>some st
 |_,_,_=>none
def LX (st:St) (e:Ty) (ys:List e.den):AC->Option St
 | .own l _ _=>match st.at l with
  |some (.arr fr tr e' te xs)=>if h:e=e'/\List.length ys=xs.length then some (st.Kr l (.arr fr tr e' te (h.1▸ys))) else none
  |_=>none
 |_=>none
def Iu:(cs:List (Bool×CK))->IOs.den cs->List AC->St->Option St
 | [],_,_,st=>some st
 |(true, .Ft _)::r,x,_::as,st=>Iu r x as st
 |(true, .row e te)::r,x,a::as,st=>match cH st (.row e te) x.1 a with
  |some st'=>Iu r x.2 as st'
  |none=>none
 |(true, .Ii e te)::r,x,a::as,st=>match cH st (.Ii e te) x.1 a with
  |some st'=>Iu r x.2 as st'
  |none=>none
 |(true, .part e _)::r,x,a::as,st=>match LX st e x.1 a with
  |some st'=>Iu r x.2 as st'
  |none=>none
 |(true, .Bp _ _ _)::r,x,_::as,st=>Iu r x as st
 |(false,_)::r,x,_::as,st=>Iu r x as st
 |_,_,_,_=>none
def Cm (dead part:List Nat) (c:AC):AC:=if c.refs.any (λl=>dead.contains l) then .undef else match c with
 | .sub l i c=>if part.contains l then .undef else .sub l i c
 | .Ks l i c=>if part.contains l then .undef else .Ks l i c
 |c=>c
def Yn:List (Nat×OB)->List Nat->List (Nat×OB)
 | [],_=> []
 |(k,b)::r,dead=>if dead.contains k then Yn r dead else (k,b)::Yn r dead
def St.cP (st:St) (dead part:List Nat):St:=let s:=st.Ln (Cm dead part); {s with heap:=Yn s.heap dead}
def Us (st:St) (l j m:Nat) (e:Ty) (te:TypeId) (rows:List (List e.den)) (xs:List e.den) (kp:Option (Nat×Nat)):St:=
 (st.cP [m] [l]).Kr l (.Bp e te (rows.set j xs) none kp)
def ca (j:Nat):Option (Nat×Nat)->Option (Nat×Nat)
 |none=>none
 |some p=>some (p.1,min p.2 j)
def bV (st:St) (t:TypeId) (p v:AV):Option St:=
 match T.ty t,p with
 |some τ, .at (.Ks l i j)=>match settle st v with
  |some (v',st')=>match st'.at l,Gc st' τ v' with
   |some (.Bp e te rows none kp),some (_,x)=>if h:τ=e then some (st'.Kr l (.Bp e te (rows.set i ((rows.getD i []).set j (h▸x))) none kp)) else none
   |_,_=>none
  |none=>none
 |some τ, .at (.Kw l j)=>match st.at l,v with
  |some (.Bp e te rows out kp), .at (.own m off len)=>match st.at m with
   |some (.arr _ _ e' _ xs)=>if h:e'=e/\(Nat.blt l Bk&&(!Nat.beq m l&&!τ.Ao))=true/\off=0/\len=xs.length/\(out=none\/out=some j) then some (Us st l j m e te rows (h.1▸xs) (ca j kp)) else none
   |_=>none
  |_,_=>none
 |_,_=>none
def OU (st:St):AV->Bool
 | .at (.Ks _ _ _)=>true
 | .at (.Kw l _)=>match st.at l with
  |some (.Bp _ _ _ _ _)=>true
  |_=>false
 |_=>false
def Qq (st:St) (t:TypeId) (p v:AV):Option St:=match OU st p with
 |true=>bV T st t p v
 |false=>Vs T st t p v
def Rz (st:St) (k m:Nat) (b:OB):St:=let s:=st.cP [m,k] []; {s with heap:=Pd s.heap k b}
def ej (t:TypeId):Option (TypeId×Ty):=(T.elem t).bind λte=>(T.OT te).map λe=>(te,e)
def Ys (st:St) (dst:Nat) (t:TypeId) (l c:AV):Option (AV×St):=
 match ej T t with
 |none=>bT T st dst t l c
 |some (te,e)=>match l,c with
  | .at (.data _ (.int _) n), .at (.data _ (.int _) m)=>if inb n (Cn+1)=true/\n=m/\dst<Bk then some (.at (.own dst 0 n.toNat),Rz st dst dst (.Bp e te (List.replicate n.toNat []) none none)) else none
  |_,_=>none
def Jq (st:St) (dst:Nat) (t:TypeId) (len:Nat) (parts:Array (Nat×Operand)):Option (AV×St):=
 match ej T t with
 |none=>My T st dst t len parts
 |some (te,e)=>match parts.toList with
  | [(0,x)]=>match st.ev x with
   | .at (.own m off ln)=>match st.at m with
    |some (.arr _ _ e' _ xs)=>if h:e'=e/\(Nat.beq len 1&&(Nat.blt dst Bk&&Nat.blt m Bk))=true/\off=0/\ln=xs.length then some (.at (.own dst 0 1),Rz st dst m (.Bp e te [h.1▸xs] none none)) else none
    |_=>none
   |_=>none
  |_=>none
def Sr (st:St) (dst:Nat) (t:TypeId) (x y:Operand):Option (AV×St):=
 match ej T t with
 |none=>Sq T st dst t x y
 |some (te,e)=>match st.ev x,st.ev y with
  | .at (.own l off len), .at (.own m ZB tu)=>match st.at l,st.at m with
   |some (.Bp e1 te1 A none _),some (.Bp e2 wv B none _)=>
    if h:(e1=e/\e2=e)/\(decide (te1=te)&&decide (wv=te)&&(Nat.blt l Bk&&(Nat.blt m Bk&&!Nat.beq m l)))=true/\(off=0/\len=A.length)/\(ZB=0/\tu=B.length)/\0<B.length/\A.length+B.length<=Cn then
     some (.at (.own l 0 (A.length+B.length)),Rz st l m (.Bp e te ((h.1.1▸A:List (List e.den))++(h.1.2▸B:List (List e.den))) none none))
    else none
   |_,_=>none
  |_,_=>none
def vL (fr:Bool):(c:CK)->c.den->Option OB
 | .Ft _,_=>none
 | .row e te,xs=>some (.arr (fr&&e.flat) false e te xs)
 | .Ii e te,xs=>some (.Hi e te xs)
 | .part e te,x=>some (.arr (fr&&e.flat) false e te x.1)
 | .Bp e te _,xs=>some (.Bp e te xs none none)
def DT (H:List (Nat×OB)) (l:Nat):Option OB->List (Nat×OB)
 |some b=>Pd H l b
 |none=>H
def Zc (fr:Bool) (key:Nat->Nat):(k:Nat)->(cs:List CK)->CKs.den cs->List (Nat×OB)->List (Nat×OB)
 |_,[],_,H=>H
 |k,c::r,x,H=>Zc fr key (k+1) r x.2 (DT H (key k) (vL fr c x.1))
def cf (key:Nat->Nat):(k:Nat)->(cs:List CK)->CKs.den cs->List AC
 |_,[],_=> []
 |k,c::r,x=>(match c,x.1 with
  | .Ft τ,y=> .data τ.flat τ y
  | .row _ _,xs=> .own (key k) 0 (List.length xs)
  | .Ii _ _,xs=> .own (key k) 0 (List.length xs)
  | .Bp _ _ _,xs=> .own (key k) 0 (List.length xs)
  | .part _ _,_=> .undef)::cf key (k+1) r x.2
def aD:List (Option Nat)->List AC->List (Bool×List AC)
 |none::s,a::as=>(false,[a])::aD s as
 |some n::s,as=>(true,as.take n)::aD s (as.drop n)
 |_,_=> []
def An1 (Im:Bool) (sh:List (Option Nat)) (as:List AC):Option AV:=
 if Im then some (.Ng (aD sh as)) else match Uf sh as with
  | [v]=>some v
  | []=>some .undef
  |_=>none
def mY (tks:List (Nat×Loc)):List Nat:=(tks.filter λt=>Nat.blt t.1 Bk&&!t.2.reads).map λt=>t.2.Xy
def whole (tks:List (Nat×Loc)):List Nat:=tks.flatMap λt=>match t.2 with| .row l=> [l]|_=> []
def AW (tks:List (Nat×Loc)):List Nat:=(tks.filter λt=>t.2.reads).map λt=>t.2.Xy
def ED (ins:List (Bool×CK)) (te:TypeId) (used:List Nat):List (Nat×Loc)->Option Nat
 | []=>none
 |(k, .row l)::r=>if Nat.blt k Bk&&(!used.contains l&&(match ins[k-500000]? with
   |some (false, .row _ Sj)=>decide (Sj=te)
   |some (false, .Ii _ Sj)=>decide (Sj=te)
   |some (false, .Bp _ Sj _)=>decide (Sj=te)
   |_=>false)) then some l else ED ins te used r
 |_::r=>ED ins te used r
def KL (ins:List (Bool×CK)) (tks:List (Nat×Loc)) (d:Nat):(k:Nat)->(used:List Nat)->List CK->List Nat
 |_,_,[]=> []
 |k,used,c::r=>match (match c with
   | .row _ te=>ED ins te used tks
   | .Ii _ te=>ED ins te used tks
   | .Bp _ te _=>ED ins te used tks
   |_=>none) with
  |some l=>l::KL ins tks d (k+1) (l::used) r
  |none=>YZ d k::KL ins tks d (k+1) used r
def mT (s:MSpec) (tks:List (Nat×Loc)) (d:Nat):List Nat:=KL s.ins tks d 0 [] s.outs
def Ef (ks:List Nat) (j:Nat):Nat:=match ks[j]? with
 |some l=>l
 |none=>Bk+j
def z8 (ks:List Nat) (n:Nat):Bool:=Nat.beq ks.length n&&(aC ks&&ks.all λl=>Nat.blt l Bk)
def OP (st:St) (l:List Nat):Bool:=l.all λk=>match st.at k with|some (.arr fr _ _ _ _)=>fr|_=>false
def QD (st:St) (s:MSpec) (args:List AV):Option (List Nat×List AC×List AV):=
 match s.ptr with
 |none=>some ([],[],args)
 |some p=>match args with
  | .at (.Hv l i)::rest=>match st.at l with
   |some (.var tid vs)=>if tid=p.1/\vs.length=p.2/\i=0 then some ([l],vs,rest) else none
   |_=>none
  |_=>none
def Xa:List (Bool×CK)->List AC->Bool
 |(true, .row _ _)::r, .own _ _ _::as=>Xa r as
 |(true, .Ii _ _)::r, .own _ _ _::as=>Xa r as
 |(true,_)::_,_::_=>false
 |(false,_)::r,_::as=>Xa r as
 |_,as=>as.isEmpty
def gI {α:Type} :List (Bool×CK)->List α->List α->List α
 |(true,_)::r,v::vs,as=>v::gI r vs as
 |(false,_)::r,_::vs,a::as=>a::gI r vs as
 |_,vs,_=>vs
def ub:List (Bool×CK)->Nat->Nat
 |(true,_)::r,n+1=>ub r n
 |(false,_)::r,n+1=>ub r n+1
 |_,_=>0
def MSpec.aQ (s:MSpec):Nat:=match s.ptr with|none=>0|some p=>ub s.ins p.2
def rn (ins:List (Bool×CK)) (as:List AC) (pl:List Nat) (st:St):St:=
 match pl with
 | []=>st
 |l::_=>match st.at l with
  |some (.var tid vs)=>st.Kr l (.var tid (gI ins vs as))
  |_=>st
def Un (d:Nat):Nat:=YZ d 999
def my (s:MSpec) (d:Nat):List Nat:=match s.rp with|none=> []|some _=> [Un d]
def Tl (s:MSpec) (tks:List (Nat×Loc)) (d:Nat):List Nat:=mT s tks d++my s d
def nH (H:List (Nat×OB)) (l:Nat):Bool:=match At H l with
 |some (.Bp _ _ _ _ _)=>true
 |_=>false
def c9 (H:List (Nat×OB)) (ks:List Nat) (tks:List (Nat×Loc)):List (Nat×Nat)->List Nat
 | []=> []
 |(k,j)::r=>match tks.find? (λt=>Nat.beq t.1 (Ea false k)),ks[j]? with
  |some (_, .row l),some l'=>if Nat.beq l' l&&nH H l then l::c9 H ks tks r else c9 H ks tks r
  |_,_=>c9 H ks tks r
def rR (H:List (Nat×OB)) (l:Nat):Nat:=match At H l with
 |some (.Bp _ _ rows _ _)=>rows.length
 |_=>0
def dK (H:List (Nat×OB)) (ls:List Nat) (n:Nat):List AV->Bool
 | []=>true
 | .at (.sub l i _)::r=>(!ls.contains l||(Nat.blt i n&&Nat.blt i (rR H l)))&&dK H ls n r
 |_::r=>dK H ls n r
def Mf (ls:List Nat):List AV->List AV->List AV
 | .at (.sub l i c)::r,v::vs=>(if ls.contains l then .at (.sub l i c) else v)::Mf ls r vs
 |_::r,v::vs=>v::Mf ls r vs
 |_,vs=>vs
def Ahr:Option OB->Option (Nat×Nat)
 |some (.Bp _ _ _ _ kp)=>kp
 |_=>none
def OB.GK (b:OB) (kp:Option (Nat×Nat)):OB:=match b with
 | .Bp e te rows out _=> .Bp e te rows out kp
 |b=>b
def dA (H0:List (Nat×OB)) (ls:List Nat) (n:Nat):List (Nat×OB)->List (Nat×OB)
 | []=> []
 |(l,b)::r=>(l,if ls.contains l then b.GK (ca n (Ahr (At H0 l))) else b)::dA H0 ls n r
def mb (cC st:St) (ls:List Nat) (n:Nat):St:=match ls with
 | []=>st
 |_=> {tmps:=Mf ls cC.tmps st.tmps,heap:=dA cC.heap ls n st.heap}
def Adl (s:MSpec) (d:Nat) (as:List AC):Option AV:=match s.rp with
 |none=>An1 s.Im s.Ip as
 |some _=>some (.at (.Hv (Un d) 0))
def lN (st st1:St) (d:Nat) (s:MSpec) (pl:List Nat) (tks:List (Nat×Loc)) (r:CKs.den s.outs):St:=
 let ks:=Tl s tks d
 let key:=Ef ks
 let st2:=rn s.ins (cf key 0 s.outs r) pl (st1.cP (mY tks++ks++(if s.flat then [] else AW tks)) (whole tks))
 {st2 with heap:=Zc (OP st (mY tks)) key 0 s.outs r (DT st2.heap (Un d) (s.rp.map λtid=> .var tid ((cf key 0 s.outs r).drop s.aQ)))}
def Yq (st:St) (dst:Option Nat) (s:MSpec) (args:List AV):Option (AV×St):=
 match QD st s args with
 |none=>none
 |some (pl,vs,rest)=>match ungroup s.Jl rest with
 |none=>none
 |some oF=>match gi st 0 s.ins (vs++oF) with
  |none=>none
  |some (x,tks)=>if aC (tks.map λt=>t.2.Xy)&&z8 (Tl s tks (dst.getD 0)) (s.outs.length+(my s (dst.getD 0)).length)&&Nat.blt s.outs.length 1000&&Nat.blt s.ins.length 1000&&(Xa s.ins vs&&pl.all λl=>!((tks.map λt=>t.2.Xy)++Tl s tks (dst.getD 0)).contains l) then match s.fn x with
   |none=>none
   |some (r,o)=>match Iu s.ins o (vs++oF) st with
    |none=>none
    |some st1=>match Adl s (dst.getD 0) ((cf (Ef (Tl s tks (dst.getD 0))) 0 s.outs r).drop s.aQ) with
     |none=>none
     |some v=>if dK (lN st st1 (dst.getD 0) s pl tks r).heap (c9 st.heap (Tl s tks (dst.getD 0)) tks s.keeps) (s.Fw x) st.tmps=true then
       some (v,mb st (lN st st1 (dst.getD 0) s pl tks r) (c9 st.heap (Tl s tks (dst.getD 0)) tks s.keeps) (s.Fw x)) else none
   else none
def Ny:List Operand->St->Option St
 | [],st=>some st
 |x::r,st=>match settle st (st.ev x) with
  |some (_,st')=>Ny r st'
  |none=>none
def Pk (st:St) (p x:Operand):St:=match st.ev p with
 | .at (.Hv l _)=>match T.marks.contains (fX+l) with
  |true=>match Ny [x] st with
   |some s0=>s0
   |none=>st
  |false=>st
 |_=>st
def fG (s:Spec) (args:List AV):Bool:=!(s.fresh||s.res.flat||args.all (·.settled))
def evalOp (Γ:Env) (st:St) (o:Oper):Option (AV×St):=
 match o.op with
 | .assign x=>match st.ev x,o.dst,(T.elem o.type).bind λte=>(T.ty te).map λe=>(te,e) with
  | .at .Mm,some d,some (te,e)=>if d<Bk then some (.at (.own d 0 0),st.new d (.arr (T.vd||e.flat) T.BI e te [])) else none
  |v,_,_=>some (v,st)
 | .alloc t=>match o.dst,T.ty t with
  |some d,some τ=>match T.marks.contains (Ws+d) with
   |true=>tF st d t (Ra τ)
   |false=>mkVar T st d t τ (zeroCells τ)
  |_,_=>none
 | .box t x=>match o.dst,T.ty t with
  |some d,some τ=>match cellsOf τ (st.ev x) with
   |some cs=>match T.marks.contains (Ws+d) with
    |true=>if cs.all (·.settled)=true then (Ff st τ cs).map λp=>(.at (.data false (.optr τ) (some p.2)),st) else none
    |false=>mkVar T st d t τ cs
   |none=>none
  |_,_=>none
 | .store t p x=>(Qq T (Pk T st p x) t ((Pk T st p x).ev p) ((Pk T st p x).ev x)).map λs=>(.undef,s)
 | .makeSlice t l c=>match o.dst with
  |some d=>Ys T st d t (st.ev l) (st.ev c)
  |none=>none
 | .makeMap t none=>match o.dst with
  |some d=>Vr T st d t
  |none=>none
 | .mapUpdate t m k x=>(Jt T st t (st.ev m) (st.ev k) (st.ev x)).map λs=>(.undef,s)
 | .insert t m k x=>(Jt T st t (st.ev m) (st.ev k) (st.ev x)).map λs=>(.undef,s)
 | .buildSlice t len parts=>match o.dst with
  |some d=>Jq T st d t len parts
  |none=>none
 | .build t parts=>(Yp T st t parts).map λv=>(v,st)
 | .call {callee:= .builtin .append,args,argTypes} =>match o.dst,args.toList,argTypes.toList with
  |some d,[x,y],[t,t']=>if t=t' then Sr T st d t x y else none
  |_,_,_=>none
 | .call {callee:= .builtin .copy,args,argTypes} =>match args.toList,argTypes.toList with
  | [x,y],[t,t']=>iJ T st t t' (st.ev x) (st.ev y)
  |_,_=>none
 | .call {callee:= .builtin .clear,args,argTypes} =>match args.toList,argTypes.toList with
  | [x],[t]=>(evalClear T st t (st.ev x)).map λs=>(.undef,s)
  |_,_=>none
 | .call {callee:= .value (.func f),args, .. } =>match Γ f with
  |some (.m s)=>Yq st o.dst s (args.toList.map st.ev)
  |some (.q s)=>if fG s (args.toList.map st.ev) then (match Ny args.toList st with
   |some st1=>(Fh T Γ st1 o).map λv=>(v,st1)
   |none=>none) else (Fh T Γ st o).map λv=>(v,st)
  |_=>(Fh T Γ st o).map λv=>(v,st)
 |_=>(Fh T Γ st o).map λv=>(v,st)
def fJ (e:Ty):Nat->List (Nat×Operand)->St->Option (Bool×List e.den)
 |_,[],_=>some (true,[])
 |i,(j,x)::r,st=>
  if i=j/\(st.ev x).settled=true then match Gc st e (st.ev x),fJ e (i+1) r st with
   |some (fr,y),some (Ww,ys)=>some (fr&&Ww,y::ys)
   |_,_=>none
  else none
def bS (st:St) (t:TypeId) (len:Nat) (parts:Array (Nat×Operand)):Option AV:=
 match T.elem t with
 |none=>none
 |some te=>match T.ty te with
  |none=>none
  |some e=>if parts.size=len/\len<=64/\e.size<=64 then (fJ e 0 parts.toList st).map λp=> .at (.data p.1 (.slice e) p.2) else none
def Yc (Γ:Env) (st:St) (o:Oper):Option AV:=
 match o.op with
 | .buildSlice t len parts=>bS T st t len parts
 | .build t parts=>Yp T st t parts
 |_=>Fh T Γ st o
def YO (q:Bool) (Γ:Env) (o:Oper):Bool:=
 match o.op with
 | .buildSlice _ _ _| .build _ _=>!q
 | .alloc _| .box _ _| .store _ _ _| .makeSlice _ _ _| .makeMap _ _| .mapUpdate _ _ _ _| .insert _ _ _ _=>true
 | .assign (.const _)=>true
 | .call {callee:= .builtin .append, .. } =>true
 | .call {callee:= .builtin .copy, .. } =>true
 | .call {callee:= .builtin .clear, .. } =>true
 | .call {callee:= .value (.func f), .. } =>match Γ f with
  |some (.m _)=>true
  |_=>false
 |_=>false
def Fb (Γ:Env) (ops:Array Oper) (st:St) (o:Oper):Option St:=
 match o.guard with
 |none=>(evalOp T Γ st o).map λr=>r.2.put o.dst r.1
 |some (j,want)=>match Yk st ((ops[j]?).bind (·.dst)) with
  |some (some b)=>if b==want then (evalOp T Γ st o).map λr=>r.2.put o.dst r.1 else some (st.put o.dst (.at .skip))
  |some none=>some (st.put o.dst (.at .skip))
  |none=>none
def aX (Γ:Env) (ops:Array Oper):List Oper->St->Option St
 | [],st=>some st
 |o::r,st=>match Fb T Γ ops st o with
  |some st'=>aX Γ ops r st'
  |none=>none
def Kc (q:Bool) (Γ:Env) (ops:Array Oper):List Nat:=
 (List.range ops.size).foldl (init:= []) λacc i=>match ops[i]? with
  |some o=>if YO q Γ o||o.after.any (λe=>Region.binds .any e&&acc.contains e.on) then acc++ [i] else acc
  |none=>acc
def cR (q:Bool) (Γ:Env) (ops:Array Oper):List Nat:=(List.range ops.size).filter λi=>!(Kc q Γ ops).contains i
def nG (ops:Array Oper) (hd tl:List Nat) (i:Nat):Bool:=
 match ops[i]? with
 |some o=>(match o.op,o.guard with
  | .move (.tmp _),none=>true
  |_,_=>false)&&!((tl.take 1++hd).any λj=>decide (i<j)&&Region.waitsFor .any ops j i)
 |none=>false
def Wv (q:Bool) (Γ:Env) (ops:Array Oper):List Nat:=(cR q Γ ops).filter λi=>nG ops (cR q Γ ops) (Kc q Γ ops) i
def Wy (q:Bool) (Γ:Env) (ops:Array Oper):List Nat:=(cR q Γ ops).filter λi=>!nG ops (cR q Γ ops) (Kc q Γ ops) i
def jS (q:Bool) (Γ:Env) (ops:Array Oper):List Nat:=Wv q Γ ops++Wy q Γ ops
def YG (ops:Array Oper) (i:Nat):Bool:=match ops[i]? with
 |some o=>(match o.op,o.guard with
  | .extract _ _,none=>true
  |_,_=>false)
 |none=>false
def o8 (ops:Array Oper):List Nat->Array Bool->Bool
 | [],Ag=>(Region.ready .any ops Ag).isEmpty
 |k::r,Ag=>(decide (Region.ready .any ops Ag= [k])||(YG ops k&&((Region.ready .any ops Ag).contains k&&Region.free .any ops Ag k)))&&o8 ops r (Ag.setIfInBounds k true)
def p7 (ops:Array Oper) (tl:List Nat):List Nat->Array Bool->Bool
 | [],Ag=>o8 ops tl Ag
 |k::r,Ag=>(Region.ready .any ops Ag).contains k&&Region.free .any ops Ag k&&p7 ops tl r (Ag.setIfInBounds k true)
def uk (ops:Array Oper) (hd:List Nat):List Nat->Bool
 | []=>true
 |f::r=>(hd.all λi=>(f::hd).any λj=>decide (i<j)&&Region.waitsFor .any ops j i)&&r.all λt=>(f::r).any λk=>Region.waitsFor .any ops t k
def nt (ops:Array Oper) (tl hd:List Nat):List Nat->Array Bool->Bool
 | [],Ag=>p7 ops tl hd Ag
 |k::r,Ag=>(Region.ready .any ops Ag).contains k&&Region.free .any ops Ag k&&nt ops tl hd r (Ag.setIfInBounds k true)
def cX (q:Bool) (Γ:Env) (ops:Array Oper):Bool:=
 Region.noSelect ops&&((Wv q Γ ops).length+((Wy q Γ ops).length+(Kc q Γ ops).length)==ops.size)&&nt ops (Kc q Γ ops) (Wy q Γ ops) (Wv q Γ ops) (Array.replicate ops.size false)&&uk ops (Wy q Γ ops) (Kc q Γ ops)
def Xz (Γ:Env) (ops:Array Oper) (st:St) (o:Oper):Option AV:=
 match o.guard with
 |none=>Yc T Γ st o
 |some (j,want)=>match Yk st ((ops[j]?).bind (·.dst)) with
  |some (some b)=>if b==want then Yc T Γ st o else some (.at .skip)
  |some none=>some (.at .skip)
  |none=>none
def Gj (Γ:Env) (ops:Array Oper):List Nat->St->Option St
 | [],st=>some st
 |i::r,st=>match ops[i]? with
  |none=>none
  |some o=>match Xz T Γ ops st o with
   |some v=>Gj Γ ops r (st.put o.dst v)
   |none=>none
def Nj (Γ:Env) (ops:Array Oper):List Nat->St->Option St
 | [],st=>some st
 |i::r,st=>match ops[i]? with
  |none=>none
  |some o=>match Fb T Γ ops st o with
   |some st'=>Nj Γ ops r st'
   |none=>none
def Su (Γ:Env) (ops:Array Oper) (draw:Bool) (st:St):Option St:=
 if draw then (if cX false Γ ops then (match Gj T Γ ops (jS false Γ ops) st with
  |some st'=>Nj T Γ ops (Kc false Γ ops) st'
  |none=>none) else if cX true Γ ops then (match Gj T Γ ops (jS true Γ ops) st with
  |some st'=>Nj T Γ ops (Kc true Γ ops) st'
  |none=>none) else none)
 else aX T Γ ops ops.toList st
def yX (ops:Array Oper) (i:Nat):Bool:=match ops[i]? with
 |some o=>(match o.op,o.guard with
  | .move (.tmp _),none=>true
  |_,_=>false)
 |none=>false
def jX (ops:Array Oper) (i:Nat):Bool:=match ops[i]? with
 |some o=>(match o.op,o.guard with
  | .move (.tmp _),none=>true
  | .nilCheck _,none=>true
  | .fieldAddr _ _ _,none=>true
  |_,_=>false)
 |none=>false
def An9 (q:Bool) (ops:Array Oper) (i:Nat):Bool:=match q with
 |true=>jX ops i
 |false=>yX ops i
def Kb (q:Bool) (ops:Array Oper):List Nat->Array Bool->List Nat
 | [],_=> []
 |i::r,Ag=>if An9 q ops i&&((Region.ready .any ops Ag).contains i&&Region.free .any ops Ag i) then i::Kb q ops r (Ag.setIfInBounds i true) else Kb q ops r Ag
def YW (q:Bool) (ops:Array Oper):List Nat:=Kb q ops (List.range ops.size) (Array.replicate ops.size false)
def jO (q:Bool) (ops:Array Oper):Bool:=Nat.ble (ops.size-(YW q ops).length) 8
def Le (ops:Array Oper):List Nat:=YW (!jO false ops) ops
def Em:List Nat->Array Bool->Array Bool
 | [],Ag=>Ag
 |i::r,Ag=>Em r (Ag.setIfInBounds i true)
def anyS (Γ:Env) (ops:Array Oper) (K:St->Prop):Nat->Array Bool->St->Prop
 |0,Ag,st=>Region.ready .any ops Ag= []/\K st
 |f+1,Ag,st=>Region.ready .any ops Ag≠ []/\ ∀i∈Region.ready .any ops Ag,∃o st',ops[i]?=some o/\Fb T Γ ops st o=some st'/\anyS Γ ops K f (Ag.setIfInBounds i true) st'
def jY (ops:Array Oper) (i:Nat):Bool:=match ops[i]? with
 |some o=>(match o.op,o.guard with
  | .move _,none=>true
  | .load _ _,none=>true
  | .indexAddr _ _ _,none=>true
  | .fieldAddr _ _ _,none=>true
  |_,_=>false)
 |none=>false
def kh (ops:Array Oper):List Nat->Array Bool->List Nat
 | [],_=> []
 |i::r,Ag=>if jY ops i&&((Region.ready .any ops Ag).contains i&&Region.free .any ops Ag i) then i::kh ops r (Ag.setIfInBounds i true) else kh ops r Ag
def pQ (ops:Array Oper) (i j:Nat) (p:Oper->Oper->Bool):Bool:=match ops[i]?,ops[j]? with
 |some x,some y=>p x y
 |_,_=>false
def oC (ops:Array Oper) (x y:Oper):Bool:=match x.dst with
 |some d=>!(y.looksAt ops).contains d
 |none=>true
def JF (x y:Oper):Bool:=match x.dst with
 |some d=>y.dst !=some d
 |none=>true
def jl (ops:Array Oper):List Nat->Array Bool->Bool
 | [],_=>true
 |r::E,Ag=>(Region.ready .any ops Ag).contains r&&jl ops E (Ag.setIfInBounds r true)
def zy (ops:Array Oper):List Nat->Bool
 | []=>true
 |r::E=>(pQ ops r r (oC ops)&&E.all λq=>pQ ops r q (λx y=>JF x y&&oC ops y x)&&(Region.waitsFor .any ops q r||pQ ops r q (oC ops)))&&zy ops E
def Ac0 (ops:Array Oper) (E:List Nat) (L0:Array Bool):Bool:=E.all λr=>(List.range ops.size).all λj=>E.contains j||L0.getD j false||Region.waitsFor .any ops j r||pQ ops r j (λx y=>x.apart ops y)
def cY (ops:Array Oper) (E:List Nat) (L0:Array Bool):Bool:=(E.all (jY ops)&&jl ops E L0)&&(zy ops E&&Ac0 ops E L0)
def s8 (ops:Array Oper) (E:List Nat) (Ag:Array Bool) (r:Nat):Bool:=(List.range ops.size).any λj=>!E.contains j&&(Ag.getD j false&&Region.waitsFor .any ops j r)
def Aa7 (Γ:Env) (ops:Array Oper) (E:List Nat) (Ag:Array Bool) (st:St):Prop:=
 ∀r∈E,s8 ops E Ag r=true\/ ∃o v,ops[r]?=some o/\Xz T Γ ops st o=some v/\ ∀d,o.dst=some d->st.get d=v
def qU (Γ:Env) (ops:Array Oper) (E:List Nat) (K:St->Prop):Nat->Array Bool->St->Prop
 |0,Ag,st=>Aa7 T Γ ops E Ag st/\Region.ready .any ops Ag= []/\K st
 |f+1,Ag,st=>Aa7 T Γ ops E Ag st/\Region.ready .any ops Ag≠ []/\ ∀i∈Region.ready .any ops Ag,∃o st',ops[i]?=some o/\Fb T Γ ops st o=some st'/\qU Γ ops E K f (Ag.setIfInBounds i true) st'
def Abz (Γ:Env) (ops:Array Oper) (K:St->Prop) (n:Nat) (L0:Array Bool) (cC:St):Prop:=
 ∃E st1,cY ops E L0=true/\E.length<=n/\Gj T Γ ops E cC=some st1/\qU T Γ ops E K (n-E.length) (Em E L0) st1
def zI (Γ:Env) (draw:Bool):Env:= λf=>match Γ f with
 |some (.b s m)=>some (if draw then .q s else .m m)
 |r=>r
inductive Ma where
 |normal
 |exit (id:Nat)
 |ret
def Iz (live:List Nat):Nat->List AV->List AV
 |_,[]=> []
 |i,v::r=>(if live.contains i then v else .undef)::Iz live (i+1) r
def AV.refs:AV->List Nat
 | .at a=>a.refs
 | .agg cs=>cs.flatMap AC.refs
 | .bF _ _ _=> []
 | .Ng l=>l.flatMap λp=>p.2.flatMap AC.refs
def OB.refs:OB->List Nat
 | .var _ vs=>vs.flatMap AC.refs
 |_=> []
def bq:List Nat->St->St
 | [],st=>st
 |l::r,st=>bq r (st.forget l)
def pz (l k m:Nat):Nat:=if m=l then k else m
def Wa (l k:Nat):AC->AC
 | .own m off len=> .own (pz l k m) off len
 | .Hv m i=> .Hv (pz l k m) i
 | .Kw m i=> .Kw (pz l k m) i
 | .clo f Eh=> .clo f (Eh.map λp=>(pz l k p.1,p.2))
 | .Ld m=> .Ld (pz l k m)
 | .sub m i c=> .sub (pz l k m) i c
 | .Ks m i c=> .Ks (pz l k m) i c
 |a=>a
def St.rename (l k:Nat) (st:St):St:=
 match At st.heap k,At st.heap l with
 |none,some b=>if (Nat.blt l Bk&&Nat.blt k Bk)=true then
   (let s:=st.Ln (Wa l k); {s with heap:=Pd (aK s.heap l) k (b.map (Wa l k))}) else st
 |_,_=>st
def Nf:Nat->Nat->St->St
 |0,_,st=>st
 |n+1,t,st=>Nf n (t+1) (match st.get t with
  | .at (.own l _ _)=>match At st.heap l with
   |some (.arr _ _ _ _ _)=>if (st.tmps.take t).any (λv=>v.refs.contains l) then st else st.rename l (700000+t)
   |_=>st
  |_=>st)
def db:Nat:=1000000007
def AC.Aft (flat:Bool):AC->AC
 | .data fr τ x=> .data (fr&&!(flat&&τ.flat)) τ x
 |c=>c
def OB.Jn (flat all one:Bool):OB->OB
 | .arr fr tr e tid xs=> .arr (fr&&!(all||(one||(flat&&e.flat)))) (tr&&!all) e tid xs
 | .var tid vs=> .var tid (vs.map (AC.Aft flat))
 |b=>b
def Qa:Nat:=1000000009
def Om:Nat:=1100000000
def Abb:Nat:=1200000000
def St.Jn (live:List Nat) (st:St):St:= {st with heap:=st.heap.map λp=>(p.1,p.2.Jn (live.contains Qa) (live.contains (Om+p.1)) (live.contains (Abb+p.1)))}
def Td:Nat:=900000000
def cg (t:Nat) (st:St):St:=match st.get t with
 | .at (.own l off len)=>match At st.heap l with
  |some (.arr fr tr e tid xs)=>if Nat.blt l Bk=true then (st.new l (.arr fr tr e tid ((xs.drop off).take len))).put (some t) (.at (.own l 0 ((xs.drop off).take len).length)) else st
  |_=>st
 |_=>st
def Pz:Nat:=1900000000
def WD:Nat:=950000000
def Qv (c:Nat) (st:St):St:=match At st.heap Pz with
 |some (.var _ vs)=>match vs[c]? with
  |some (.own l off len)=>match At st.heap l with
   |some (.arr fr tr e te xs)=>if Nat.blt l Bk=true then match At (st.new l (.arr fr tr e te ((xs.drop off).take len))).heap Pz with
     |some (.var tid vs')=>(st.new l (.arr fr tr e te ((xs.drop off).take len))).Kr Pz (.var tid (vs'.set c (.own l 0 ((xs.drop off).take len).length)))
     |_=>st
    else st
   |_=>st
  |_=>st
 |_=>st
def Qo (live:List Nat):Nat->Nat->St->St
 |0,_,st=>st
 |n+1,c,st=>Qo live n (c+1) (if live.contains (WD+c) then Qv c st else st)
def Pw (live:List Nat):Nat->Nat->St->St
 |0,_,st=>Qo live 16 0 st
 |n+1,t,st=>Pw live n (t+1) (if live.contains (Td+t) then cg t st else st)
def St.clean (live:List Nat) (st:St):St:=
 let s:St:= {st with tmps:=Iz live 0 st.tmps}
 let r1:=s.tmps.flatMap AV.refs
 let r2:=r1++(s.heap.filter λp=>r1.contains p.1).flatMap λp=>p.2.refs
 let s2:=bq ((s.heap.map (·.1)).filter λl=>!r2.contains l&&Nat.blt l Bk) s
 let s2:=if live.any (λt=>Nat.ble Td t&&Nat.blt t db) then Pw live s2.tmps.length 0 s2 else s2
 let s3:=if live.contains db then Nf s2.tmps.length 0 s2 else s2
 if live.any (λt=>Nat.ble Qa t) then s3.Jn live else s3
def Fc:Code->Nat
 | .region id _ _=>id
 | .seq a _=>Fc a
 | .cond _ a _=>Fc a
 | .block _ c=>Fc c
 | .loop c=>1000+Fc c
 |_=>0
def Afz (a b:List Nat):List Nat:=a++b.filter λt=>!a.contains t
def zd:List Oper->List Nat->List Nat
 | [],out=>out
 |o::r,out=>Afz (o.op.operands.toList.filterMap λ | .tmp t=>some t|_=>none) (match o.dst with|some d=>(zd r out).filter (·!=d)|none=>zd r out)
def JG:List (Nat×List Nat)->Nat->List Nat
 | [],_=> []
 |(k,l)::r,id=>if k=id then l else JG r id
def qn:Code->List (Nat×List Nat)->List Nat->List Nat->List Nat×List (Nat×List Nat)
 | .region _ ops _,_,_,out=>(zd ops.toList out,[])
 | .seq a b,env,ret,out=>let rb:=qn b env ret out;let ra:=qn a env ret rb.1;(ra.1,ra.2++rb.2)
 | .cond c a b,env,ret,out=>let ra:=qn a env ret out;let rb:=qn b env ret out
  (Afz (match c with| .tmp t=> [t]|_=> []) (Afz ra.1 rb.1),ra.2++rb.2)
 | .block id c,env,ret,out=>qn c ((id,out)::env) ret out
 | .exit id,env,_,_=>(JG env id,[])
 | .ret,_,ret,_=>(ret,[])
 | .loop c,env,ret,_=>let l:=(qn c env ret []).1;let r:=qn c env ret l;(l,(Fc c,l)::r.2)
 |_,_,_,out=>(out,[])
def ze:List ResultVar->List Nat
 | []=> []
 | .tmp t::r=>t::ze r
 | .cell p _::r=>p::ze r
def zc (marks:List Nat) (fn:Func) (c:Code):Nat->List Nat:=let ret:=ze fn.results.toList;let g:=JG (qn c [] ret ret).2;match marks with
 | []=>g
 |m=> λid=>g id++m
def St.Ri (dead:List Nat) (st:St):St:=
 let s:St:= {st with tmps:=Iz ((List.range st.tmps.length).filter λt=>!dead.contains t) 0 st.tmps}
 let r1:=s.tmps.flatMap AV.refs
 let r2:=r1++(s.heap.filter λp=>r1.contains p.1).flatMap λp=>p.2.refs
 bq ((s.heap.map (·.1)).filter λl=>!r2.contains l&&Nat.blt l Bk) s
def Zp (ops:Array Oper) (t:Nat):Bool:=ops.toList.any λo=>o.dst==some t
def kJ (Γ:Env) (ops:Array Oper) (draw:Bool) (st:St) (K:St->Prop):Prop:=
 (∃st',Su T Γ ops draw st=some st'/\K st')\/
 (draw=true/\Region.noSelect ops=true/\ ∃cC,Gj T Γ ops (Le ops) st=some cC/\
  (anyS T Γ ops K (ops.size-(Le ops).length) (Em (Le ops) (Array.replicate ops.size false)) cC\/Abz T Γ ops K (ops.size-(Le ops).length) (Em (Le ops) (Array.replicate ops.size false)) cC))
def yk (Γ:Env) (ops:Array Oper) (draw:Bool) (st:St) (K:St->Prop):Prop:=
 kJ T Γ ops draw st K\/ ∃dead:List Nat,(dead.all (Zp ops))=true/\kJ T Γ ops draw st λs=>K (s.Ri dead)
def KZ (K:St->Prop) (Q:Ma->St->Prop):Ma->St->Prop
 | .normal,s=>K s
 |e,s=>Q e s
def xe (id:Nat) (Q:Ma->St->Prop):Ma->St->Prop
 | .exit RW,s=>if RW=id then Q .normal s else Q (.exit RW) s
 |e,s=>Q e s
def ZW (ops:Array Oper) (t:Nat):Bool:=ops.toList.any λo=>match o.op with
 | .extract (.tmp s) _=>Nat.beq s t
 | .move (.tmp s)=>Nat.beq s t
 | .assign (.tmp s)=>Nat.beq s t
 |_=>false
def Pq (ops:Array Oper):Nat->List AV->List AV
 |_,[]=> []
 |i, .Ng l::r=>(if ZW ops i=true then .Ng l else .undef)::Pq ops (i+1) r
 |i,v::r=>v::Pq ops (i+1) r
def St.mX (ops:Array Oper) (st:St):St:= {st with tmps:=Pq ops 0 st.tmps}
inductive Pc (Γ:Env) (live:Nat->List Nat):Code->St->(Ma->St->Prop)->Prop where
 |skip {st:St} {Q:Ma->St->Prop} :Q .normal st->Pc Γ live .skip st Q
 |label {l:Nat} {st:St} {Q:Ma->St->Prop} :Q .normal st->Pc Γ live (.label l) st Q
 |exit {id:Nat} {st:St} {Q:Ma->St->Prop} :Q (.exit id) st->Pc Γ live (.exit id) st Q
 |ret {st:St} {Q:Ma->St->Prop} :Q .ret st->Pc Γ live .ret st Q
 |region {id:Nat} {ops:Array Oper} {draw:Bool} {st:St} {Q:Ma->St->Prop} :yk T (zI Γ draw) ops draw (st.mX ops) (Q .normal)->Pc Γ live (.region id ops draw) st Q
 |seq {x y:Code} {st:St} {Q:Ma->St->Prop} (Q1:Ma->St->Prop):Pc Γ live x st Q1->(∀s,Q1 .normal s->Pc Γ live y s Q)->(∀e s,e≠ .normal->Q1 e s->Q e s)->Pc Γ live (.seq x y) st Q
 |cond {c:Operand} {x y:Code} {st:St} {fr t:Bool} {Q:Ma->St->Prop} :st.ev c= .at (.data fr .bool t)->(t=true->Pc Γ live x st Q)->(t=false->Pc Γ live y st Q)->Pc Γ live (.cond c x y) st Q
 |block {id:Nat} {c:Code} {st:St} {Q:Ma->St->Prop} (Q1:Ma->St->Prop):Pc Γ live c st Q1->(∀e s,Q1 e s->xe id Q e s)->Pc Γ live (.block id c) st Q
 |loop {c:Code} {st:St} {Q:Ma->St->Prop} (Q1:Ma->St->Prop):Pc Γ live c (st.clean (live (Fc c))) Q1->(∀s,Q1 .normal s->Pc Γ live (.loop c) s Q)->(∀e s,e≠ .normal->Q1 e s->Q e s)->Pc Γ live (.loop c) st Q
def dF (st:St):List ResultVar->Option (List AV)
 | []=>some []
 | .tmp t::r=>(dF st r).map λl=>st.get t::l
 | .cell p t::r=>match Re T st t (st.get p),dF st r with
  |some v,some l=>some (v::l)
  |_,_=>none
def nm (s:Spec) (fn:Func) (st:St):Option (Bool×s.res.den):=
 match dF T st fn.results.toList with
 |some [v]=>if s.Im then none else Gc st s.res v
 |some [v,u]=>if s.Im then Dz st s.res [v,u] else none
 |some [v,u,t]=>if s.Im then Dz st s.res [v,u,t] else none
 |_=>none
def Uc:(τ:Ty)->τ.den->List AV
 | .pair a r,x=> .at (.data a.flat a x.1)::Uc r x.2
 |_,_=> []
def kG (st:St):(c:CK)->AC->Option (c.den×List Nat)
 | .Ft τ,a=>if τ.flat||a.settled then (Dr st τ a).map λp=>(p.2,[]) else none
 | .row e te, .own l off len=>match st.at l with
  |some (.arr _ _ e' Sj xs)=>if h:e'=e/\Sj=te then some ((((h.1▸xs:List e.den).drop off).take len),[l]) else none
  |_=>none
 | .row _ _, .Mm=>some ([],[])
 | .Ii e te, .own l off len=>match st.at l with
  |some (.arr _ tr e' Sj xs)=>if h:e'=e/\Sj=te/\(tr||e.flat)=true then some ((((h.1▸xs:List e.den).drop off).take len),[l]) else none
  |some (.Hi e' Sj xs)=>if h:e'=e/\Sj=te then some ((((h.1▸xs:List e.den).drop off).take len),[l]) else none
  |_=>none
 | .Ii _ _, .Mm=>some ([],[])
 | .Bp e te _, .own l off len=>match st.at l with
  |some (.Bp e' Sj rows none _)=>if h:e'=e/\Sj=te/\off=0/\len=rows.length then some ((h.1▸rows:List (List e.den)),[l]) else none
  |_=>none
 |_,_=>none
def Vy (st:St):(cs:List CK)->List AC->Option (CKs.den cs×List Nat)
 | [],[]=>some ((),[])
 |c::r,a::as=>match kG st c a,Vy st r as with
  |some (x,t1),some (y,t2)=>some ((x,y),t1++t2)
  |_,_=>none
 |_,_=>none
def pW (st:St) (l:Nat):(c:CK)->Option c.den
 | .Ft _=>none
 | .row e te=>match st.at l with
  |some (.arr _ _ e' Sj xs)=>if h:e'=e/\Sj=te then some (h.1▸xs) else none
  |_=>none
 | .Ii e te=>match st.at l with
  |some (.Hi e' Sj xs)=>if h:e'=e/\Sj=te then some (h.1▸xs) else none
  |_=>none
 | .part _ _=>none
 | .Bp _ _ _=>none
def Po (st:St):(k:Nat)->(cs:List (Bool×CK))->Option (IOs.den cs)
 |_,[]=>some ()
 |k,(true, .Ft _)::r=>Po st (k+1) r
 |k,(true, .Bp _ _ _)::r=>Po st (k+1) r
 |k,(true, .row e te)::r=>match pW st (Ea true k) (.row e te),Po st (k+1) r with
  |some x,some y=>some (x,y)
  |_,_=>none
 |k,(true, .Ii e te)::r=>match pW st (Ea true k) (.Ii e te),Po st (k+1) r with
  |some x,some y=>some (x,y)
  |_,_=>none
 |k,(true, .part e te)::r=>match pW st (Ea true k) (.row e te),Po st (k+1) r with
  |some x,some y=>some (x,y)
  |_,_=>none
 |k,(false,_)::r=>Po st (k+1) r
def Qs:(k:Nat)->List (Bool×CK)->List Nat
 |_,[]=> []
 |k,(true, .Ft _)::r=>Qs (k+1) r
 |k,(true, .Bp _ _ _)::r=>Qs (k+1) r
 |k,(true,_)::r=>Ea true k::Qs (k+1) r
 |k,(false,_)::r=>Qs (k+1) r
def Jy:(k:Nat)->List (Bool×CK)->List AC->Option (List AC)
 |_,_,[]=>some []
 |k,(true, .row _ _)::r, .own l _ _::as=>if Nat.beq l (Ea true k) then Jy (k+1) r as else none
 |k,(true, .Ii _ _)::r, .own l _ _::as=>if Nat.beq l (Ea true k) then Jy (k+1) r as else none
 |k,(false,_)::r,a::as=>(Jy (k+1) r as).map λl=>a::l
 |_,_,_=>none
def j4 (st:St):List AC->List (Bool×CK)->Prop
 | .own l off len::as,(true,_)::r=>(off=0/\match st.at l with
  |some (.arr _ _ _ _ xs)=>len=xs.length
  |some (.Hi _ _ xs)=>len=xs.length
  |_=>False)/\j4 st as r
 |_::as,(false,_)::r=>j4 st as r
 |_,_=>True
def MD (s:MSpec) (st:St) (l:List AV):Option (List AC×List Nat):=match s.rp with
 |none=>if s.Im=Nat.blt 1 l.length then (ungroup s.Ip l).map λas=>(as,[]) else none
 |some tid=>match l with
  | [.at (.Hv m i)]=>match st.at m with
   |some (.var Vq vs)=>if Vq=tid/\i=0/\Nat.blt m Bk=true then some (vs,[m]) else none
   |_=>none
  |_=>none
def xk (st:St) (n:Nat) (as:List AC):List (Nat×Nat)->Prop
 | []=>True
 |(k,j)::r=>(match as[j]? with
  |some (.own l _ _)=>match st.at l with
   |some (.Bp _ _ _ _ (some p))=>p.1=Ea false k/\n<=p.2/\Nat.blt k 1000=true
   |_=>False
  |_=>False)/\xk st n as r
def kl (s:MSpec) (fn:Func) (x:Ins.den s.ins) (st:St) (cs:List AC) (P:CKs.den s.outs×IOs.den s.ins->Prop):Prop:=
 match dF T st fn.results.toList with
 |none=>False
 |some l=>match MD s st l with
  |none=>False
  |some (as,ml)=>match Vy st s.outs (cs++as),Po st 0 s.ins with
   |some (r,ls),some o=>(aC (ml++ls++Qs 0 s.ins)&&Nat.blt s.ins.length 1000&&Nat.blt s.outs.length 1000&&s.YV)=true/\xk st (s.Fw x) (cs++as) s.keeps/\P (r,o)
   |_,_=>False
def VT (s:MSpec) (fn:Func) (x:Ins.den s.ins) (st:St) (P:CKs.den s.outs×IOs.den s.ins->Prop):Prop:=
 match s.ptr with
 |none=>kl T s fn x st [] P
 |some p=> ∃vs cs,st.at Pz=some (.var p.1 vs)/\vs.length=p.2/\Jy 0 s.ins vs=some cs/\j4 st vs s.ins/\kl T s fn x st cs P
def aN (s:MSpec) (as:List AC):List AV:=match s.ptr with
 |none=>Uf s.Jl as
 |some p=> .at (.Hv Pz 0)::Uf s.Jl (as.drop p.2)
def qh (s:MSpec) (x:Ins.den s.ins):List (Nat×OB):=match s.ptr with
 |none=>ab 0 s.ins x
 |some p=>ab 0 s.ins x++ [(Pz, .var p.1 ((c6 0 s.ins x).take p.2))]
def ai:List (Bool×CK)->Bool
 | []=>true
 |(true, .Bp _ _ _)::_=>false
 |_::r=>ai r
def zD (s:MSpec):Bool:=ai s.ins&&match s.ptr with
 |none=>true
 |some p=>Nat.ble p.2 s.ins.length
def Ae9 (Γ:Env) (s:MSpec) (fn:Func) (x:Ins.den s.ins) (P:CKs.den s.outs×IOs.den s.ins->Prop):Prop:=
 (Nat.blt s.ins.length 1000&&zD s)=true/\ ∃c,fn.body=some c/\Pc T Γ (zc T.marks fn c) c {tmps:=aN s (c6 0 s.ins x)++List.replicate (fn.ntmps-(aN s (c6 0 s.ins x)).length) .undef,heap:=qh s x}
  (λe st=>(∀id,e≠ .exit id)/\VT T s fn x st P)
def VU (Γ:Env) (s:Spec) (fn:Func) (x:s.arg.den) (P:s.res.den->Prop):Prop:=
 ∃c,fn.body=some c/\Pc T Γ (zc T.marks fn c) c {tmps:=Uc s.arg x++List.replicate (fn.ntmps-(Uc s.arg x).length) .undef,heap:= []}
  (λe st=>(∀id,e≠ .exit id)/\ ∃fr y,nm T s fn st=some (fr,y)/\(fr||!s.fresh)=true/\P y)
end Go.Proofs.YtkkdpknjohcekaaGreat
