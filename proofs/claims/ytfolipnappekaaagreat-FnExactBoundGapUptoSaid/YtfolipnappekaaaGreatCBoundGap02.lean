/-
  Part 3 of the proof that the statement FnExactBoundGap holds.
-/
import Derived.Test.YtfolipnappekaaaGreatCBoundGap01
namespace Go.Proofs.YtfolipnappekaaaGreat
open Go.RowKit
def Dy:Nat->St->List AC->Option (List AC×St)
 |0,st,cs=>if cs.all (·.settled) then some (cs,st) else none
 |n+1,st,cs=>
  match cs.find? (λc=>!c.settled) with
  |none=>some (cs,st)
  |some (.own l _ _)=>match st.at l with
   |some (.arr fr _ e _ xs)=>Dy n (st.freeze l fr e xs) (cs.map (Be l fr e xs))
   |some (.Dn e _ xs)=>Dy n (st.freeze l false e xs) (cs.map (Be l false e xs))
   |_=>none
  |some (.Gm l)=>match st.at l with
   |some (.Qc v m)=>Dy n (st.Eu l v m) (cs.map (Ds l v m))
   |_=>none
  |some _=>none
def settle (st:St):AV->Option (AV×St)
 | .at (.own l off len)=>match st.at l with
  |some (.arr fr _ e _ xs)=>some (.at (.data fr (.slice e) ((xs.drop off).take len)),st.freeze l fr e xs)
  |some (.Dn e _ xs)=>some (.at (.data false (.slice e) ((xs.drop off).take len)),st.freeze l false e xs)
  |_=>none
 | .at (.Gm l)=>match st.at l with
  |some (.Qc v m)=>some (.at (.data false (.smap v) m),st.Eu l v m)
  |_=>none
 | .at a=>if a.settled then some (.at a,st) else none
 | .agg cs=>(Dy cs.length st cs).map λp=>(.agg p.1,p.2)
 | .Vu fr τ x=>some (.Vu fr τ x,st)
 | .Il _=>none
def AC.refs:AC->List Nat
 | .own l _ _| .Ea l _| .Gi l _| .Gm l| .sub l _ _| .Gf l _ _=> [l]
 | .clo _ Bz=>Bz.map (·.1)
 |_=> []
def Ue:List Nat->Bool
 | []=>true
 |a::r=>!r.contains a&&Ue r
def Ty.tree:Ty->Bool
 | .int _| .bool| .str| .unit=>true
 | .slice e=>e.tree
 | .pair a r=>a.tree&&r.tree
 |_=>false
def Mn (st:St):AC->Bool
 | .data _ τ _=>τ.flat
 | .Hx=>true
 | .own l _ _=>match st.at l with
  |some (.arr _ tr e _ _)=>tr||e.flat
  |some (.Dn _ _ _)=>true
  |_=>false
 |_=>false
def Nw (st:St):AV->Bool
 | .at a=>Mn st a
 | .agg cs=>cs.all (Mn st)&&Ue (cs.flatMap AC.refs)
 |_=>false
def Am:Nat:=1000000000
variable (T:Tab)
def GI (t:TypeId) (τ:Ty) (i:Nat):Option TypeId:=
 if τ.Ab then (List.range 24).findSome? λf=>match T.off t f with
  |some (o,u)=>if o=i then some u else none
  |none=>none
 else some t
def Tab.GR (te:TypeId):Option Ty:=if T.OC.contains te then (match T.ty te with
 |some (.slice e)=>some e
 |_=>none) else none
def Zr (te:TypeId) (e:Ty):OB:=match T.GR te with
 |some e'=> .Ak e' te [] none none
 |none=> .arr (T.ou||e.flat) T.wI e te []
def Oy (b:OB) (key l i:Nat) (st:St):St:=
 match st.at l with
 |some (.var _ vs)=>match vs[i]? with
  |some .Hx=>
   let s1:=st.new key b
   match s1.at l with
   |some (.var tid vs')=>s1.Ge l (.var tid (Pd vs' i (.own key 0 0)))
   |_=>s1
  |_=>st
 |_=>st
def bq (l:Nat) (t:TypeId) (τ:Ty):Nat->Nat->St->St
 |0,_,st=>st
 |n+1,i,st=>
  bq l t τ n (i+1) (match ((GI T t τ i).bind T.elem).bind λte=>(T.ty te).map λe=>(te,e) with
   |some (te,e)=>Oy (Zr T te e) (100000+l*100+i) l i st
   |none=>st)
def ak (l off:Nat) (t:TypeId) (τ:Ty):Nat->Nat->St->St
 |0,_,st=>st
 |n+1,i,st=>
  ak l off t τ n (i+1) (match ((GI T t τ i).bind T.elem).bind λte=>(T.ty te).map λe=>(te,e) with
   |some (te,e)=>Oy (Zr T te e) (100000+l*100+(off+i)) l (off+i) st
   |none=>st)
def zeroCells:(τ:Ty)->List AC
 | .unit=> []
 | .pair a r=>zeroCells a++zeroCells r
 | .slice _=> [.Hx]
 | .oslice _=> [.Hx]
 | .ptr _=> [.Rg]
 | .optr _=> [.Rg]
 | .clo _ _=> [.undef]
 |τ=> [.data true τ τ.zero]
def cellsOf (τ:Ty):AV->Option (List AC)
 | .agg cs=>if τ.Ab&&cs.length==τ.size then some cs else none
 | .at (.data fr Jj x)=>if Jj=τ then some (Ms fr Jj x) else none
 | .at .undef=>none
 | .at .skip=>none
 | .at a=>if τ.Ab then none else some [a]
 |_=>none
def mkVar (st:St) (l:Nat) (t:TypeId) (τ:Ty) (cs:List AC):Option (AV×St):=
 if Am<=100000+l*100+cs.length then none else
 let s:=bq T l t τ cs.length 0 (st.new l (.var t (cs.map (Ba l))))
 match s.at l with
 |some (.var _ _)=>some (.at (.Ea l 0),s)
 |_=>none
def Bt {α:Type} (xs:List α) (i:Nat) (ys:List α):List α:=xs.take i++ys++xs.drop (i+ys.length)
def Ph (st:St) (t:TypeId) (p v:AV):Option St:=
 match T.ty t,p with
 |some τ, .at (.Ea l i)=>match st.at l,cellsOf τ v with
  |some (.var tid vs),some cs=>if i+cs.length<=vs.length then some (if τ.Ab&&Nat.blt (100000+l*100+(i+cs.length)) Am then ak T l i t τ cs.length 0 (st.Ge l (.var tid (Bt vs i cs))) else st.Ge l (.var tid (Bt vs i cs))) else none
  |_,_=>none
 |some τ, .at (.Gi l j)=>match settle st v with
  |some (v',st')=>match st'.at l,Cx st' τ v' with
   |some (.arr fr tr e tid xs),some (Qk,x)=>if h:τ=e then (if j<xs.length then some (st'.Ge l (.arr (fr&&Qk) (tr&&(Nw st v&&e.tree)) e tid (xs.set j (h▸x)))) else none) else none
   |_,_=>none
  |none=>none
 |_,_=>none
def Bh:Nat:=4294967296
def Jd (st:St) (dst:Nat) (t:TypeId) (x y:Operand):Option (AV×St):=
 match T.elem t with
 |none=>none
 |some te=>match T.ty te,settle st (st.ev y) with
  |some e,some (y',st')=>match Cx st' (.slice e) y' with
   |none=>none
   |some (nw,ys)=>
    let tr2:=e.flat||(Nw st (st.ev y)&&e.tree)
    match st'.ev x with
    | .at .Hx=>if ys.length<=Bh/\dst<Am then some (.at (.own dst 0 (0+ys.length)),(st'.new dst (.arr (T.ou||e.flat) T.wI e te [])).new dst (.arr ((T.ou||e.flat)&&(nw||e.flat)) (T.wI&&tr2) e te (((([]:List e.den).drop 0).take 0)++ys))) else none
    | .at (.own l off len)=>match st'.at l with
     |some (.arr fr tr e' tid xs)=>if h:e'=e/\tid=te then
       (if len+ys.length<=Bh/\l<Am then
        some (.at (.own l 0 (len+ys.length)),st'.new l (.arr (fr&&(nw||e.flat)) (tr&&tr2) e te ((((h.1▸xs:List e.den).drop off).take len)++ys))) else none)
      else none
     |_=>none
    |_=>none
  |_,_=>none
def Ky (st:St) (l i m:Nat) (e:Ty) (te tid:TypeId) (rows:List (List e.den)) (kp:Option (Nat×Nat)):St:=
 (st.Ge l (.Ak e te rows (some i) kp)).new m (.arr false false e tid (rows.getD i []))
def Lz (st:St) (dst:Nat) (t:TypeId) (x y:Operand):Option (AV×St):=
 match x with
 | .tmp tx=>match st.get tx with
  | .at (.sub l i _)=>match st.at l,T.elem t with
   |some (.Ak e te rows none kp),some tid=>if (Nat.blt l Am&&(Nat.blt dst Am&&!Nat.beq dst l))=true then Jd T ((Ky st l i dst e te tid rows kp).put (some tx) (.at (.own dst 0 (rows.getD i []).length))) dst t x y else none
   |_,_=>none
  |_=>Jd T st dst t x y
 |_=>Jd T st dst t x y
def iu:Ty->Bool
 | .int _| .bool| .str| .slice _| .oslice _=>true
 |_=>false
def bN:Ty->Bool
 | .unit=>true
 | .pair a r=>bN a&&bN r
 |e=>iu e
def Wg (st:St) (dst:Nat) (t:TypeId) (l c:AV):Option (AV×St):=
 match T.elem t,l,c with
 |some te, .at (.data _ (.int _) n), .at (.data _ (.int _) m)=>match T.ty te with
  |some e=>if YN n (Bh+1)=true/\n=m/\bN e=true/\dst<Am then some (.at (.own dst 0 n.toNat),st.new dst (.arr (T.ou||e.flat) (T.wI&&e.tree) e te (List.replicate n.toNat e.zero))) else none
  |none=>none
 |_,_,_=>none
def Ha (e:Ty):Nat->List (Nat×Operand)->St->Option (Bool×Bool×List e.den×St)
 |_,[],st=>some (true,true,[],st)
 |i,(j,x)::r,st=>
  if i=j then match settle st (st.ev x) with
   |some (v,st')=>match Cx st' e v with
    |some (fr,y)=>match Ha e (i+1) r st' with
     |some (Qk,SW,ys,Al5)=>some (fr&&Qk,Nw st (st.ev x)&&e.tree&&SW,y::ys,Al5)
     |none=>none
    |none=>none
   |none=>none
  else none
def Hz (st:St) (dst:Nat) (t:TypeId) (len:Nat) (parts:Array (Nat×Operand)):Option (AV×St):=
 match T.elem t with
 |none=>none
 |some te=>match T.ty te with
  |none=>none
  |some e=>if parts.size=len/\len<=64/\e.size<=64/\dst<Am then (match Ha e 0 parts.toList st with
   |some (fr,tr,ys,st')=>some (.at (.own dst 0 len),st'.new dst (.arr ((T.ou||e.flat)&&fr) (T.wI&&tr) e te ys))
   |none=>none) else none
def Pg (st:St) (dst:Nat) (t:TypeId):Option (AV×St):=
 match T.mapOf t with
 |some v=>if dst<Am then some (.at (.Gm dst),st.new dst (.Qc v λ_=>none)) else none
 |none=>none
def Tt {α:Type} (m:ByteArray->Option α) (k:ByteArray) (x:α):ByteArray->Option α:= λs=>if s=k then some x else m s
def Fa (st:St) (t:TypeId) (m k x:AV):Option St:=
 match T.mapOf t,m,k with
 |some v, .at (.Gm l), .at (.data _ .str s)=>match st.at l,Cx st v x with
  |some (.Qc v' f),some (_,y)=>if h:v'=v/\v.flat=true/\v.Ab=false then some (st.Ge l (.Qc v (Tt (h.1▸f:ByteArray->Option v.den) s y))) else none
  |_,_=>none
 |_,_,_=>none
def dc (st:St) (t t':TypeId) (x y:AV):Option (AV×St):=
 match x,(T.elem t).bind T.ty with
 | .at (.own l off len),some e=>if T.elem t=T.elem t'/\e.flat=true/\e.size=1 then match st.at l,Cx st (.slice e) y with
  |some (.arr fr _ e' tid xs),some (_,ys)=>if h:e'=e/\T.elem t=some tid then
    some (.at (.data true (.int .i64) (min len ys.length:Nat)),st.Ge l (.arr fr false e tid (Bt (h.1▸xs:List e.den) off (ys.take len))))
   else none
  |_,_=>none
  else none
 |_,_=>none
def evalClear (st:St) (t:TypeId) (x:AV):Option St:=
 match x,(T.elem t).bind T.ty with
 | .at (.own l off len),some e=>if e.flat=true/\iu e=true then match st.at l with
  |some (.arr fr _ e' tid xs)=>if h:e'=e/\T.elem t=some tid then
    some (st.Ge l (.arr fr false e tid (Bt (h.1▸xs:List e.den) off (List.replicate len e.zero))))
   else none
  |_=>none
  else none
 |_,_=>none
def Hy (st:St) (t:TypeId):List (Nat×Operand)->List AC->Option (List AC)
 | [],cs=>some cs
 |(i,x)::r,cs=>
  match T.off t i with
  |some (o,u)=>match T.ty u with
   |some ρ=>match cellsOf ρ (st.ev x) with
    |some c=>if o+c.length<=cs.length then Hy st t r (Bt cs o c) else none
    |none=>none
   |none=>none
  |none=>none
def Rt (st:St) (t:TypeId) (parts:Array (Nat×Operand)):Option AV:=
 match T.ty t with
 |none=>none
 |some τ=>if τ.Ab then (Hy T st t parts.toList (zeroCells τ)).map .agg else none
def Bv (io:Bool) (k:Nat):Nat:=if io then 1000000000+k else 500000+k
def Gj (k:Nat):Nat:=600000+k
def QQ (dst:Nat) (k:Nat):Nat:=1000000*(dst+1)+k
def No:List (Option Nat)->List AC->List AV
 |none::s,a::as=> .at a::No s as
 |some n::s,as=> .agg (as.take n)::No s (as.drop n)
 |_,_=> []
def Gu:List (Option Nat)->List Value->List Value
 |none::s,u::us=>u::Gu s us
 |some n::s,us=> .agg (us.take n).toArray::Gu s (us.drop n)
 |_,_=> []
def ungroup:List (Option Nat)->List AV->Option (List AC)
 | [],[]=>some []
 |none::s, .at a::as=>(ungroup s as).map λr=>a::r
 |some n::s, .agg cs::as=>if cs.length=n then (ungroup s as).map λr=>cs++r else none
 |some n::s, .at (.data fr τ x)::as=>if τ.Ab=true/\(Ms fr τ x).length=n then (ungroup s as).map λr=>Ms fr τ x++r else none
 |_,_=>none
def fi (l:Nat):(c:CK)->c.den->Option OB
 | .Er _,_=>none
 | .row e te,xs=>some (.arr false false e te xs)
 | .Eb e te,xs=>some (.Dn e te xs)
 | .part e te,x=>some (.arr false false e te x.1)
 | .Ak e te kp,xs=>some (.Ak e te xs none (if kp then some (l,List.length xs) else none))
def Ai6 (l:Nat):(c:CK)->c.den->AC
 | .Er τ,x=> .data τ.flat τ x
 | .row _ _,xs=> .own l 0 (List.length xs)
 | .Eb _ _,xs=> .own l 0 (List.length xs)
 | .part _ _,x=> .own l x.2.1 x.2.2
 | .Ak _ _ _,xs=> .own l 0 (List.length xs)
def cW {α:Type} (l:Nat):Option α->List (Nat×α)->List (Nat×α)
 |none,r=>r
 |some b,r=>(l,b)::r
def Tl:(k:Nat)->(cs:List (Bool×CK))->Ins.den cs->List (Nat×OB)
 |_,[],_=> []
 |k,p::r,x=>cW (Bv p.1 k) (fi (Bv p.1 k) p.2 x.1) (Tl (k+1) r x.2)
def Wo:(k:Nat)->(cs:List (Bool×CK))->Ins.den cs->List AC
 |_,[],_=> []
 |k,p::r,x=>Ai6 (Bv p.1 k) p.2 x.1::Wo (k+1) r x.2
inductive Loc where
 |row (l:Nat)
 |sub (l i c:Nat)
 |view (l:Nat)
 deriving DecidableEq
def Loc.Rf:Loc->Nat
 | .row l=>l
 | .sub l _ _=>l
 | .view l=>l
def Loc.reads:Loc->Bool
 | .view _=>true
 |_=>false
def Xh (st:St) (ls:List Nat):Bool:=ls.all λl=>match st.at l with|some (.var _ vs)=>vs.all (·.settled)|_=>false
def views (k:Nat) (ls:List Nat):List (Nat×Loc):=ls.map λl=>(Bv false k, .view l)
def Hr (st:St) (io:Bool) (k:Nat):(c:CK)->AC->Option (c.den×List (Nat×Loc))
 | .Er τ, .own l off len=>(Bo st τ (.own l off len)).map λp=>(p.2,[(Bv false k, .view l)])
 | .Er τ, .clo g Bz=>if Xh st (Bz.map (·.1))&&!τ.Ab then (Ga st τ (.clo g Bz)).map λp=>(p.2,views k (Bz.map (·.1))) else none
 | .Er τ, .Ea l i=>if Xh st [l]&&!τ.Ab then (Ga st τ (.Ea l i)).map λp=>(p.2,views k [l]) else none
 | .Er τ, .sub l i c=>(Bo st τ (.sub l i c)).map λp=>(p.2,[(Bv false k, .view l)])
 | .Er τ,a=>if τ.flat||a.settled then (Bo st τ a).map λp=>(p.2,[]) else none
 | .row e te, .own l off len=>match st.at l with
  |some (.arr _ _ e' Lu xs)=>if h:e'=e/\Lu=te/\off=0/\len=xs.length then some ((h.1▸xs:List e.den),[(Bv io k, .row l)]) else none
  |_=>none
 | .row e _, .sub l i c=>match st.at l with
  |some (.Dn e' _ xs)=>if h:e'= .slice e/\e.flat=true/\io=true/\c=0 then xs[i]?.map λy=>((h.1▸y:(Ty.slice e).den),[(Bv io k, .sub l i c)]) else none
  |_=>none
 | .row _ _, .Hx=>some ([],[])
 | .Eb e te, .own l off len=>match st.at l with
  |some (.Dn e' Lu xs)=>if h:e'=e/\Lu=te/\off=0/\len=xs.length then some ((h.1▸xs:List e.den),[(Bv io k, .row l)]) else none
  |_=>none
 | .Eb e _, .sub l i c=>match st.at l with
  |some (.Dn e' _ xs)=>if h:e'= .slice e/\io=true/\c=0 then xs[i]?.map λy=>((h.1▸y:(Ty.slice e).den),[(Bv io k, .sub l i c)]) else none
  |_=>none
 | .Eb _ _, .Hx=>some ([],[])
 | .part e te, .own l off len=>match st.at l with
  |some (.arr _ _ e' Lu xs)=>if h:e'=e/\Lu=te/\e.flat=true/\io=true then some (((h.1▸xs:List e.den),off,len),[(Bv io k, .row l)]) else none
  |_=>none
 | .Ak e te _, .own l off len=>match st.at l with
  |some (.Ak e' Lu rows none _)=>if h:e'=e/\Lu=te/\off=0/\len=rows.length/\io=false then some ((h.1▸rows:List (List e.den)),[(Bv io k, .row l)]) else none
  |_=>none
 |_,_=>none
def bK (st:St):(k:Nat)->(cs:List (Bool×CK))->List AC->Option (Ins.den cs×List (Nat×Loc))
 |_,[],[]=>some ((),[])
 |k,p::r,a::as=>match Hr st p.1 k p.2 a,bK st (k+1) r as with
  |some (x,t1),some (y,t2)=>some ((x,y),t1++t2)
  |_,_=>none
 |_,_,_=>none
def Xn (st:St):(c:CK)->c.den->AC->Option St
 | .row e _,ys, .own l _ len=>match st.at l with
  |some (.arr fr tr e' te xs)=>if h:e=e'/\List.length ys=len/\xs.length=len then some (st.Ge l (.arr (fr&&e'.flat) (tr&&e'.flat) e' te (h.1▸ys))) else none
  |_=>none
 | .Eb e _,ys, .own l _ len=>match st.at l with
  |some (.Dn e' te xs)=>if h:e=e'/\List.length ys=len/\xs.length=len then some (st.Ge l (.Dn e' te (h.1▸ys))) else none
  |_=>none
 | .row e _,ys, .sub l i _=>match st.at l with
  |some (.Dn e' te xs)=>if h: .slice e=e' then (match xs[i]? with
   |some y=>if List.length ys=List.length (h▸y:(Ty.slice e).den) then some (st.Ge l (.Dn e' te (xs.set i (h▸(ys:(Ty.slice e).den))))) else none
   |none=>none) else none
  |_=>none
 | .Eb e _,ys, .sub l i _=>match st.at l with
  |some (.Dn e' te xs)=>if h: .slice e=e' then (match xs[i]? with
   |some y=>if List.length ys=List.length (h▸y:(Ty.slice e).den) then some (st.Ge l (.Dn e' te (xs.set i (h▸(ys:(Ty.slice e).den))))) else none
   |none=>none) else none
  |_=>none
 |_,_, .Hx=>some st
 |_,_,_=>none
def DX (st:St) (e:Ty) (ys:List e.den):AC->Option St
 | .own l _ _=>match st.at l with
  |some (.arr fr tr e' te xs)=>if h:e=e'/\List.length ys=xs.length then some (st.Ge l (.arr fr tr e' te (h.1▸ys))) else none
  |_=>none
 |_=>none
def Em:(cs:List (Bool×CK))->IOs.den cs->List AC->St->Option St
 | [],_,_,st=>some st
 |(true, .Er _)::r,x,_::as,st=>Em r x as st
 |(true, .row e te)::r,x,a::as,st=>match Xn st (.row e te) x.1 a with
  |some st'=>Em r x.2 as st'
  |none=>none
 |(true, .Eb e te)::r,x,a::as,st=>match Xn st (.Eb e te) x.1 a with
  |some st'=>Em r x.2 as st'
  |none=>none
 |(true, .part e _)::r,x,a::as,st=>match DX st e x.1 a with
  |some st'=>Em r x.2 as st'
  |none=>none
 |(true, .Ak _ _ _)::r,x,_::as,st=>Em r x as st
 |(false,_)::r,x,_::as,st=>Em r x as st
 |_,_,_,_=>none
def Az (dead part:List Nat) (c:AC):AC:=if c.refs.any (λl=>dead.contains l) then .undef else match c with
 | .sub l i c=>if part.contains l then .undef else .sub l i c
 | .Gf l i c=>if part.contains l then .undef else .Gf l i c
 |c=>c
def Rq:List (Nat×OB)->List Nat->List (Nat×OB)
 | [],_=> []
 |(k,b)::r,dead=>if dead.contains k then Rq r dead else (k,b)::Rq r dead
def St.Xv (st:St) (dead part:List Nat):St:=let s:=st.Gv (Az dead part); {s with heap:=Rq s.heap dead}
def Oa (st:St) (l j m:Nat) (e:Ty) (te:TypeId) (rows:List (List e.den)) (xs:List e.den) (kp:Option (Nat×Nat)):St:=
 (st.Xv [m] [l]).Ge l (.Ak e te (rows.set j xs) none kp)
def Ws (j:Nat):Option (Nat×Nat)->Option (Nat×Nat)
 |none=>none
 |some p=>some (p.1,min p.2 j)
def Wj (st:St) (t:TypeId) (p v:AV):Option St:=
 match T.ty t,p with
 |some τ, .at (.Gf l i j)=>match settle st v with
  |some (v',st')=>match st'.at l,Cx st' τ v' with
   |some (.Ak e te rows none kp),some (_,x)=>if h:τ=e then some (st'.Ge l (.Ak e te (rows.set i ((rows.getD i []).set j (h▸x))) none kp)) else none
   |_,_=>none
  |none=>none
 |some τ, .at (.Gi l j)=>match st.at l,v with
  |some (.Ak e te rows out kp), .at (.own m off len)=>match st.at m with
   |some (.arr _ _ e' _ xs)=>if h:e'=e/\(Nat.blt l Am&&(!Nat.beq m l&&!τ.Ab))=true/\off=0/\len=xs.length/\(out=none\/out=some j) then some (Oa st l j m e te rows (h.1▸xs) (Ws j kp)) else none
   |_=>none
  |_,_=>none
 |_,_=>none
def GS (st:St):AV->Bool
 | .at (.Gf _ _ _)=>true
 | .at (.Gi l _)=>match st.at l with
  |some (.Ak _ _ _ _ _)=>true
  |_=>false
 |_=>false
def Ko (st:St) (t:TypeId) (p v:AV):Option St:=match GS st p with
 |true=>Wj T st t p v
 |false=>Ph T st t p v
def Lq (st:St) (k m:Nat) (b:OB):St:=let s:=st.Xv [m,k] []; {s with heap:=Jl s.heap k b}
def Zz (t:TypeId):Option (TypeId×Ty):=(T.elem t).bind λte=>(T.GR te).map λe=>(te,e)
def Rw (st:St) (dst:Nat) (t:TypeId) (l c:AV):Option (AV×St):=
 match Zz T t with
 |none=>Wg T st dst t l c
 |some (te,e)=>match l,c with
  | .at (.data _ (.int _) n), .at (.data _ (.int _) m)=>if YN n (Bh+1)=true/\n=m/\dst<Am then some (.at (.own dst 0 n.toNat),Lq st dst dst (.Ak e te (List.replicate n.toNat []) none none)) else none
  |_,_=>none
def Ey (st:St) (dst:Nat) (t:TypeId) (len:Nat) (parts:Array (Nat×Operand)):Option (AV×St):=
 match Zz T t with
 |none=>Hz T st dst t len parts
 |some (te,e)=>match parts.toList with
  | [(0,x)]=>match st.ev x with
   | .at (.own m off ln)=>match st.at m with
    |some (.arr _ _ e' _ xs)=>if h:e'=e/\(Nat.beq len 1&&(Nat.blt dst Am&&Nat.blt m Am))=true/\off=0/\ln=xs.length then some (.at (.own dst 0 1),Lq st dst m (.Ak e te [h.1▸xs] none none)) else none
    |_=>none
   |_=>none
  |_=>none
def Ma (st:St) (dst:Nat) (t:TypeId) (x y:Operand):Option (AV×St):=
 match Zz T t with
 |none=>Lz T st dst t x y
 |some (te,e)=>match st.ev x,st.ev y with
  | .at (.own l off len), .at (.own m QR oX)=>match st.at l,st.at m with
   |some (.Ak e1 te1 A none _),some (.Ak e2 sj B none _)=>
    if h:(e1=e/\e2=e)/\(decide (te1=te)&&decide (sj=te)&&(Nat.blt l Am&&(Nat.blt m Am&&!Nat.beq m l)))=true/\(off=0/\len=A.length)/\(QR=0/\oX=B.length)/\0<B.length/\A.length+B.length<=Bh then
     some (.at (.own l 0 (A.length+B.length)),Lq st l m (.Ak e te ((h.1.1▸A:List (List e.den))++(h.1.2▸B:List (List e.den))) none none))
    else none
   |_,_=>none
  |_,_=>none
def rm (fr:Bool):(c:CK)->c.den->Option OB
 | .Er _,_=>none
 | .row e te,xs=>some (.arr (fr&&e.flat) false e te xs)
 | .Eb e te,xs=>some (.Dn e te xs)
 | .part e te,x=>some (.arr (fr&&e.flat) false e te x.1)
 | .Ak e te _,xs=>some (.Ak e te xs none none)
def yq (H:List (Nat×OB)) (l:Nat):Option OB->List (Nat×OB)
 |some b=>Jl H l b
 |none=>H
def Se (fr:Bool) (key:Nat->Nat):(k:Nat)->(cs:List CK)->CKs.den cs->List (Nat×OB)->List (Nat×OB)
 |_,[],_,H=>H
 |k,c::r,x,H=>Se fr key (k+1) r x.2 (yq H (key k) (rm fr c x.1))
def Ww (key:Nat->Nat):(k:Nat)->(cs:List CK)->CKs.den cs->List AC
 |_,[],_=> []
 |k,c::r,x=>(match c,x.1 with
  | .Er τ,y=> .data τ.flat τ y
  | .row _ _,xs=> .own (key k) 0 (List.length xs)
  | .Eb _ _,xs=> .own (key k) 0 (List.length xs)
  | .Ak _ _ _,xs=> .own (key k) 0 (List.length xs)
  | .part _ _,_=> .undef)::Ww key (k+1) r x.2
def Uf:List (Option Nat)->List AC->List (Bool×List AC)
 |none::s,a::as=>(false,[a])::Uf s as
 |some n::s,as=>(true,as.take n)::Uf s (as.drop n)
 |_,_=> []
def Ag0 (Dv:Bool) (sh:List (Option Nat)) (as:List AC):Option AV:=
 if Dv then some (.Il (Uf sh as)) else match No sh as with
  | [v]=>some v
  | []=>some .undef
  |_=>none
def iK (tks:List (Nat×Loc)):List Nat:=(tks.filter λt=>Nat.blt t.1 Am&&!t.2.reads).map λt=>t.2.Rf
def whole (tks:List (Nat×Loc)):List Nat:=tks.flatMap λt=>match t.2 with| .row l=> [l]|_=> []
def wN (tks:List (Nat×Loc)):List Nat:=(tks.filter λt=>t.2.reads).map λt=>t.2.Rf
def yC (ins:List (Bool×CK)) (te:TypeId) (used:List Nat):List (Nat×Loc)->Option Nat
 | []=>none
 |(k, .row l)::r=>if Nat.blt k Am&&(!used.contains l&&(match ins[k-500000]? with
   |some (false, .row _ Lu)=>decide (Lu=te)
   |some (false, .Eb _ Lu)=>decide (Lu=te)
   |some (false, .Ak _ Lu _)=>decide (Lu=te)
   |_=>false)) then some l else yC ins te used r
 |_::r=>yC ins te used r
def CP (ins:List (Bool×CK)) (tks:List (Nat×Loc)) (d:Nat):(k:Nat)->(used:List Nat)->List CK->List Nat
 |_,_,[]=> []
 |k,used,c::r=>match (match c with
   | .row _ te=>yC ins te used tks
   | .Eb _ te=>yC ins te used tks
   | .Ak _ te _=>yC ins te used tks
   |_=>none) with
  |some l=>l::CP ins tks d (k+1) (l::used) r
  |none=>QQ d k::CP ins tks d (k+1) used r
def iH (s:MSpec) (tks:List (Nat×Loc)) (d:Nat):List Nat:=CP s.ins tks d 0 [] s.outs
def Bx (ks:List Nat) (j:Nat):Nat:=match ks[j]? with
 |some l=>l
 |none=>Am+j
def vr (ks:List Nat) (n:Nat):Bool:=Nat.beq ks.length n&&(Ue ks&&ks.all λl=>Nat.blt l Am)
def GN (st:St) (l:List Nat):Bool:=l.all λk=>match st.at k with|some (.arr fr _ _ _ _)=>fr|_=>false
def HO (st:St) (s:MSpec) (args:List AV):Option (List Nat×List AC×List AV):=
 match s.ptr with
 |none=>some ([],[],args)
 |some p=>match args with
  | .at (.Ea l i)::rest=>match st.at l with
   |some (.var tid vs)=>if tid=p.1/\vs.length=p.2/\i=0 then some ([l],vs,rest) else none
   |_=>none
  |_=>none
def Qn:List (Bool×CK)->List AC->Bool
 |(true, .row _ _)::r, .own _ _ _::as=>Qn r as
 |(true, .Eb _ _)::r, .own _ _ _::as=>Qn r as
 |(true,_)::_,_::_=>false
 |(false,_)::r,_::as=>Qn r as
 |_,as=>as.isEmpty
def cc {α:Type} :List (Bool×CK)->List α->List α->List α
 |(true,_)::r,v::vs,as=>v::cc r vs as
 |(false,_)::r,_::vs,a::as=>a::cc r vs as
 |_,vs,_=>vs
def pH:List (Bool×CK)->Nat->Nat
 |(true,_)::r,n+1=>pH r n
 |(false,_)::r,n+1=>pH r n+1
 |_,_=>0
def MSpec.Un (s:MSpec):Nat:=match s.ptr with|none=>0|some p=>pH s.ins p.2
def mV (ins:List (Bool×CK)) (as:List AC) (pl:List Nat) (st:St):St:=
 match pl with
 | []=>st
 |l::_=>match st.at l with
  |some (.var tid vs)=>st.Ge l (.var tid (cc ins vs as))
  |_=>st
def Nx (d:Nat):Nat:=QQ d 999
def ib (s:MSpec) (d:Nat):List Nat:=match s.rp with|none=> []|some _=> [Nx d]
def Mr (s:MSpec) (tks:List (Nat×Loc)) (d:Nat):List Nat:=iH s tks d++ib s d
def jb (H:List (Nat×OB)) (l:Nat):Bool:=match Ad H l with
 |some (.Ak _ _ _ _ _)=>true
 |_=>false
def Wr (H:List (Nat×OB)) (ks:List Nat) (tks:List (Nat×Loc)):List (Nat×Nat)->List Nat
 | []=> []
 |(k,j)::r=>match tks.find? (λt=>Nat.beq t.1 (Bv false k)),ks[j]? with
  |some (_, .row l),some l'=>if Nat.beq l' l&&jb H l then l::Wr H ks tks r else Wr H ks tks r
  |_,_=>Wr H ks tks r
def ny (H:List (Nat×OB)) (l:Nat):Nat:=match Ad H l with
 |some (.Ak _ _ rows _ _)=>rows.length
 |_=>0
def Zh (H:List (Nat×OB)) (ls:List Nat) (n:Nat):List AV->Bool
 | []=>true
 | .at (.sub l i _)::r=>(!ls.contains l||(Nat.blt i n&&Nat.blt i (ny H l)))&&Zh H ls n r
 |_::r=>Zh H ls n r
def Hj (ls:List Nat):List AV->List AV->List AV
 | .at (.sub l i c)::r,v::vs=>(if ls.contains l then .at (.sub l i c) else v)::Hj ls r vs
 |_::r,v::vs=>v::Hj ls r vs
 |_,vs=>vs
def Ab7:Option OB->Option (Nat×Nat)
 |some (.Ak _ _ _ _ kp)=>kp
 |_=>none
def OB.zq (b:OB) (kp:Option (Nat×Nat)):OB:=match b with
 | .Ak e te rows out _=> .Ak e te rows out kp
 |b=>b
def Yz (H0:List (Nat×OB)) (ls:List Nat) (n:Nat):List (Nat×OB)->List (Nat×OB)
 | []=> []
 |(l,b)::r=>(l,if ls.contains l then b.zq (Ws n (Ab7 (Ad H0 l))) else b)::Yz H0 ls n r
def gU (ck st:St) (ls:List Nat) (n:Nat):St:=match ls with
 | []=>st
 |_=> {tmps:=Hj ls ck.tmps st.tmps,heap:=Yz ck.heap ls n st.heap}
def WA (s:MSpec) (d:Nat) (as:List AC):Option AV:=match s.rp with
 |none=>Ag0 s.Dv s.Es as
 |some _=>some (.at (.Ea (Nx d) 0))
def gD (st st1:St) (d:Nat) (s:MSpec) (pl:List Nat) (tks:List (Nat×Loc)) (r:CKs.den s.outs):St:=
 let ks:=Mr s tks d
 let key:=Bx ks
 let st2:=mV s.ins (Ww key 0 s.outs r) pl (st1.Xv (iK tks++ks++(if s.flat then [] else wN tks)) (whole tks))
 {st2 with heap:=Se (GN st (iK tks)) key 0 s.outs r (yq st2.heap (Nx d) (s.rp.map λtid=> .var tid ((Ww key 0 s.outs r).drop s.Un)))}
def Ru (st:St) (dst:Option Nat) (s:MSpec) (args:List AV):Option (AV×St):=
 match HO st s args with
 |none=>none
 |some (pl,vs,rest)=>match ungroup s.Fz rest with
 |none=>none
 |some jS=>match bK st 0 s.ins (vs++jS) with
  |none=>none
  |some (x,tks)=>if Ue (tks.map λt=>t.2.Rf)&&vr (Mr s tks (dst.getD 0)) (s.outs.length+(ib s (dst.getD 0)).length)&&Nat.blt s.outs.length 1000&&Nat.blt s.ins.length 1000&&(Qn s.ins vs&&pl.all λl=>!((tks.map λt=>t.2.Rf)++Mr s tks (dst.getD 0)).contains l) then match s.fn x with
   |none=>none
   |some (r,o)=>match Em s.ins o (vs++jS) st with
    |none=>none
    |some st1=>match WA s (dst.getD 0) ((Ww (Bx (Mr s tks (dst.getD 0))) 0 s.outs r).drop s.Un) with
     |none=>none
     |some v=>if Zh (gD st st1 (dst.getD 0) s pl tks r).heap (Wr st.heap (Mr s tks (dst.getD 0)) tks s.keeps) (s.Cs x) st.tmps=true then
       some (v,gU st (gD st st1 (dst.getD 0) s pl tks r) (Wr st.heap (Mr s tks (dst.getD 0)) tks s.keeps) (s.Cs x)) else none
   else none
def Jz:List Operand->St->Option St
 | [],st=>some st
 |x::r,st=>match settle st (st.ev x) with
  |some (_,st')=>Jz r st'
  |none=>none
def bl (s:Spec) (args:List AV):Bool:=!(s.fresh||s.res.flat||args.all (·.settled))
def evalOp (Γ:Env) (st:St) (o:Oper):Option (AV×St):=
 match o.op with
 | .assign x=>match st.ev x,o.dst,(T.elem o.type).bind λte=>(T.ty te).map λe=>(te,e) with
  | .at .Hx,some d,some (te,e)=>if d<Am then some (.at (.own d 0 0),st.new d (.arr (T.ou||e.flat) T.wI e te [])) else none
  |v,_,_=>some (v,st)
 | .alloc t=>match o.dst,T.ty t with
  |some d,some τ=>mkVar T st d t τ (zeroCells τ)
  |_,_=>none
 | .box t x=>match o.dst,T.ty t with
  |some d,some τ=>match cellsOf τ (st.ev x) with
   |some cs=>mkVar T st d t τ cs
   |none=>none
  |_,_=>none
 | .store t p x=>(Ko T st t (st.ev p) (st.ev x)).map λs=>(.undef,s)
 | .makeSlice t l c=>match o.dst with
  |some d=>Rw T st d t (st.ev l) (st.ev c)
  |none=>none
 | .makeMap t none=>match o.dst with
  |some d=>Pg T st d t
  |none=>none
 | .mapUpdate t m k x=>(Fa T st t (st.ev m) (st.ev k) (st.ev x)).map λs=>(.undef,s)
 | .insert t m k x=>(Fa T st t (st.ev m) (st.ev k) (st.ev x)).map λs=>(.undef,s)
 | .buildSlice t len parts=>match o.dst with
  |some d=>Ey T st d t len parts
  |none=>none
 | .build t parts=>(Rt T st t parts).map λv=>(v,st)
 | .call {callee:= .builtin .append,args,argTypes} =>match o.dst,args.toList,argTypes.toList with
  |some d,[x,y],[t,t']=>if t=t' then Ma T st d t x y else none
  |_,_,_=>none
 | .call {callee:= .builtin .copy,args,argTypes} =>match args.toList,argTypes.toList with
  | [x,y],[t,t']=>dc T st t t' (st.ev x) (st.ev y)
  |_,_=>none
 | .call {callee:= .builtin .clear,args,argTypes} =>match args.toList,argTypes.toList with
  | [x],[t]=>(evalClear T st t (st.ev x)).map λs=>(.undef,s)
  |_,_=>none
 | .call {callee:= .value (.func f),args, .. } =>match Γ f with
  |some (.m s)=>Ru st o.dst s (args.toList.map st.ev)
  |some (.q s)=>if bl s (args.toList.map st.ev) then (match Jz args.toList st with
   |some st1=>(Cq T Γ st1 o).map λv=>(v,st1)
   |none=>none) else (Cq T Γ st o).map λv=>(v,st)
  |_=>(Cq T Γ st o).map λv=>(v,st)
 |_=>(Cq T Γ st o).map λv=>(v,st)
def bo (e:Ty):Nat->List (Nat×Operand)->St->Option (Bool×List e.den)
 |_,[],_=>some (true,[])
 |i,(j,x)::r,st=>
  if i=j/\(st.ev x).settled=true then match Cx st e (st.ev x),bo e (i+1) r st with
   |some (fr,y),some (Qk,ys)=>some (fr&&Qk,y::ys)
   |_,_=>none
  else none
def Wf (st:St) (t:TypeId) (len:Nat) (parts:Array (Nat×Operand)):Option AV:=
 match T.elem t with
 |none=>none
 |some te=>match T.ty te with
  |none=>none
  |some e=>if parts.size=len/\len<=64/\e.size<=64 then (bo e 0 parts.toList st).map λp=> .at (.data p.1 (.slice e) p.2) else none
def Tf (Γ:Env) (st:St) (o:Oper):Option AV:=
 match o.op with
 | .buildSlice t len parts=>Wf T st t len parts
 | .build t parts=>Rt T st t parts
 |_=>Cq T Γ st o
def QE (q:Bool) (Γ:Env) (o:Oper):Bool:=
 match o.op with
 | .buildSlice _ _ _| .build _ _=>!q
 | .alloc _| .box _ _| .store _ _ _| .makeSlice _ _ _| .makeMap _ _| .mapUpdate _ _ _ _| .insert _ _ _ _=>true
 | .assign (.const _)=>true
 | .call {callee:= .builtin .append, .. } =>true
 | .call {callee:= .builtin .copy, .. } =>true
 | .call {callee:= .builtin .clear, .. } =>true
 | .call {callee:= .value (.func f), .. } =>match Γ f with
  |some (.m _)=>true
  |_=>false
 |_=>false
def Cr (Γ:Env) (ops:Array Oper) (st:St) (o:Oper):Option St:=
 match o.guard with
 |none=>(evalOp T Γ st o).map λr=>r.2.put o.dst r.1
 |some (j,want)=>match Rn st ((ops[j]?).bind (·.dst)) with
  |some (some b)=>if b==want then (evalOp T Γ st o).map λr=>r.2.put o.dst r.1 else some (st.put o.dst (.at .skip))
  |some none=>some (st.put o.dst (.at .skip))
  |none=>none
def Uv (Γ:Env) (ops:Array Oper):List Oper->St->Option St
 | [],st=>some st
 |o::r,st=>match Cr T Γ ops st o with
  |some st'=>Uv Γ ops r st'
  |none=>none
def Fo (q:Bool) (Γ:Env) (ops:Array Oper):List Nat:=
 (List.range ops.size).foldl (init:= []) λacc i=>match ops[i]? with
  |some o=>if QE q Γ o||o.after.any (λe=>Region.binds .any e&&acc.contains e.on) then acc++ [i] else acc
  |none=>acc
def Xy (q:Bool) (Γ:Env) (ops:Array Oper):List Nat:=(List.range ops.size).filter λi=>!(Fo q Γ ops).contains i
def ja (ops:Array Oper) (hd tl:List Nat) (i:Nat):Bool:=
 match ops[i]? with
 |some o=>(match o.op,o.guard with
  | .move (.tmp _),none=>true
  |_,_=>false)&&!((tl.take 1++hd).any λj=>decide (i<j)&&Region.waitsFor .any ops j i)
 |none=>false
def Qj (q:Bool) (Γ:Env) (ops:Array Oper):List Nat:=(Xy q Γ ops).filter λi=>ja ops (Xy q Γ ops) (Fo q Γ ops) i
def Ql (q:Bool) (Γ:Env) (ops:Array Oper):List Nat:=(Xy q Γ ops).filter λi=>!ja ops (Xy q Γ ops) (Fo q Γ ops) i
def eE (q:Bool) (Γ:Env) (ops:Array Oper):List Nat:=Qj q Γ ops++Ql q Γ ops
def PV (ops:Array Oper) (i:Nat):Bool:=match ops[i]? with
 |some o=>(match o.op,o.guard with
  | .extract _ _,none=>true
  |_,_=>false)
 |none=>false
def jA (ops:Array Oper):List Nat->Array Bool->Bool
 | [],Ac=>(Region.ready .any ops Ac).isEmpty
 |k::r,Ac=>(decide (Region.ready .any ops Ac= [k])||(PV ops k&&((Region.ready .any ops Ac).contains k&&Region.free .any ops Ac k)))&&jA ops r (Ac.setIfInBounds k true)
def kC (ops:Array Oper) (tl:List Nat):List Nat->Array Bool->Bool
 | [],Ac=>jA ops tl Ac
 |k::r,Ac=>(Region.ready .any ops Ac).contains k&&Region.free .any ops Ac k&&kC ops tl r (Ac.setIfInBounds k true)
def pR (ops:Array Oper) (hd:List Nat):List Nat->Bool
 | []=>true
 |f::r=>(hd.all λi=>(f::hd).any λj=>decide (i<j)&&Region.waitsFor .any ops j i)&&r.all λt=>(f::r).any λk=>Region.waitsFor .any ops t k
def iU (ops:Array Oper) (tl hd:List Nat):List Nat->Array Bool->Bool
 | [],Ac=>kC ops tl hd Ac
 |k::r,Ac=>(Region.ready .any ops Ac).contains k&&Region.free .any ops Ac k&&iU ops tl hd r (Ac.setIfInBounds k true)
def eQ (q:Bool) (Γ:Env) (ops:Array Oper):Bool:=
 Region.noSelect ops&&((Qj q Γ ops).length+((Ql q Γ ops).length+(Fo q Γ ops).length)==ops.size)&&iU ops (Fo q Γ ops) (Ql q Γ ops) (Qj q Γ ops) (Array.replicate ops.size false)&&pR ops (Ql q Γ ops) (Fo q Γ ops)
def cB (Γ:Env) (ops:Array Oper) (st:St) (o:Oper):Option AV:=
 match o.guard with
 |none=>Tf T Γ st o
 |some (j,want)=>match Rn st ((ops[j]?).bind (·.dst)) with
  |some (some b)=>if b==want then Tf T Γ st o else some (.at .skip)
  |some none=>some (.at .skip)
  |none=>none
def El (Γ:Env) (ops:Array Oper):List Nat->St->Option St
 | [],st=>some st
 |i::r,st=>match ops[i]? with
  |none=>none
  |some o=>match cB T Γ ops st o with
   |some v=>El Γ ops r (st.put o.dst v)
   |none=>none
def Jm (Γ:Env) (ops:Array Oper):List Nat->St->Option St
 | [],st=>some st
 |i::r,st=>match ops[i]? with
  |none=>none
  |some o=>match Cr T Γ ops st o with
   |some st'=>Jm Γ ops r st'
   |none=>none
def Mb (Γ:Env) (ops:Array Oper) (draw:Bool) (st:St):Option St:=
 if draw then (if eQ false Γ ops then (match El T Γ ops (eE false Γ ops) st with
  |some st'=>Jm T Γ ops (Fo false Γ ops) st'
  |none=>none) else if eQ true Γ ops then (match El T Γ ops (eE true Γ ops) st with
  |some st'=>Jm T Γ ops (Fo true Γ ops) st'
  |none=>none) else none)
 else Uv T Γ ops ops.toList st
def vf (ops:Array Oper) (i:Nat):Bool:=match ops[i]? with
 |some o=>(match o.op,o.guard with
  | .move (.tmp _),none=>true
  |_,_=>false)
 |none=>false
def eL (ops:Array Oper) (i:Nat):Bool:=match ops[i]? with
 |some o=>(match o.op,o.guard with
  | .move (.tmp _),none=>true
  | .nilCheck _,none=>true
  | .fieldAddr _ _ _,none=>true
  |_,_=>false)
 |none=>false
def Ag9 (q:Bool) (ops:Array Oper) (i:Nat):Bool:=match q with
 |true=>eL ops i
 |false=>vf ops i
def Fh (q:Bool) (ops:Array Oper):List Nat->Array Bool->List Nat
 | [],_=> []
 |i::r,Ac=>if Ag9 q ops i&&((Region.ready .any ops Ac).contains i&&Region.free .any ops Ac i) then i::Fh q ops r (Ac.setIfInBounds i true) else Fh q ops r Ac
def QL (q:Bool) (ops:Array Oper):List Nat:=Fh q ops (List.range ops.size) (Array.replicate ops.size false)
def eA (q:Bool) (ops:Array Oper):Bool:=Nat.ble (ops.size-(QL q ops).length) 8
def Ks (ops:Array Oper):List Nat:=QL (!eA false ops) ops
def Eo:List Nat->Array Bool->Array Bool
 | [],Ac=>Ac
 |i::r,Ac=>Eo r (Ac.setIfInBounds i true)
def anyS (Γ:Env) (ops:Array Oper) (K:St->Prop):Nat->Array Bool->St->Prop
 |0,Ac,st=>Region.ready .any ops Ac= []/\K st
 |f+1,Ac,st=>Region.ready .any ops Ac≠ []/\ ∀i∈Region.ready .any ops Ac,∃o st',ops[i]?=some o/\Cr T Γ ops st o=some st'/\anyS Γ ops K f (Ac.setIfInBounds i true) st'
def uh (Γ:Env) (ops:Array Oper) (draw:Bool) (st:St) (K:St->Prop):Prop:=
 (∃st',Mb T Γ ops draw st=some st'/\K st')\/
 (draw=true/\Region.noSelect ops=true/\ ∃ck,El T Γ ops (Ks ops) st=some ck/\anyS T Γ ops K (ops.size-(Ks ops).length) (Eo (Ks ops) (Array.replicate ops.size false)) ck)
def vY (Γ:Env) (draw:Bool):Env:= λf=>match Γ f with
 |some (.b s m)=>some (if draw then .q s else .m m)
 |r=>r
inductive Hf where
 |normal
 |exit (id:Nat)
 |ret
def Gk (live:List Nat):Nat->List AV->List AV
 |_,[]=> []
 |i,v::r=>(if live.contains i then v else .undef)::Gk live (i+1) r
def AV.refs:AV->List Nat
 | .at a=>a.refs
 | .agg cs=>cs.flatMap AC.refs
 | .Vu _ _ _=> []
 | .Il l=>l.flatMap λp=>p.2.flatMap AC.refs
def OB.refs:OB->List Nat
 | .var _ vs=>vs.flatMap AC.refs
 |_=> []
def Zx:List Nat->St->St
 | [],st=>st
 |l::r,st=>Zx r (st.forget l)
def kX (l k m:Nat):Nat:=if m=l then k else m
def Pq (l k:Nat):AC->AC
 | .own m off len=> .own (kX l k m) off len
 | .Ea m i=> .Ea (kX l k m) i
 | .Gi m i=> .Gi (kX l k m) i
 | .clo f Bz=> .clo f (Bz.map λp=>(kX l k p.1,p.2))
 | .Gm m=> .Gm (kX l k m)
 | .sub m i c=> .sub (kX l k m) i c
 | .Gf m i c=> .Gf (kX l k m) i c
 |a=>a
def St.rename (l k:Nat) (st:St):St:=
 match Ad st.heap k,Ad st.heap l with
 |none,some b=>if (Nat.blt l Am&&Nat.blt k Am)=true then
   (let s:=st.Gv (Pq l k); {s with heap:=Jl (Uk s.heap l) k (b.map (Pq l k))}) else st
 |_,_=>st
def Ii:Nat->Nat->St->St
 |0,_,st=>st
 |n+1,t,st=>Ii n (t+1) (match st.get t with
  | .at (.own l _ _)=>match Ad st.heap l with
   |some (.arr _ _ _ _ _)=>if (st.tmps.take t).any (λv=>v.refs.contains l) then st else st.rename l (700000+t)
   |_=>st
  |_=>st)
def Yg:Nat:=1000000007
def OB.Ex (flat all one:Bool):OB->OB
 | .arr fr tr e tid xs=> .arr (fr&&!(all||(one||(flat&&e.flat)))) (tr&&!all) e tid xs
 |b=>b
def Tw:Nat:=1000000009
def Tv:Nat:=1100000000
def qG:Nat:=1200000000
def St.Ex (live:List Nat) (st:St):St:= {st with heap:=st.heap.map λp=>(p.1,p.2.Ex (live.contains Tw) (live.contains (Tv+p.1)) (live.contains (qG+p.1)))}
def Mj:Nat:=900000000
def Wy (t:Nat) (st:St):St:=match st.get t with
 | .at (.own l off len)=>match Ad st.heap l with
  |some (.arr fr tr e tid xs)=>if Nat.blt l Am=true then (st.new l (.arr fr tr e tid ((xs.drop off).take len))).put (some t) (.at (.own l 0 ((xs.drop off).take len).length)) else st
  |_=>st
 |_=>st
def Kb:Nat:=1900000000
def NT:Nat:=950000000
def Ku (c:Nat) (st:St):St:=match Ad st.heap Kb with
 |some (.var _ vs)=>match vs[c]? with
  |some (.own l off len)=>match Ad st.heap l with
   |some (.arr fr tr e te xs)=>if Nat.blt l Am=true then match Ad (st.new l (.arr fr tr e te ((xs.drop off).take len))).heap Kb with
     |some (.var tid vs')=>(st.new l (.arr fr tr e te ((xs.drop off).take len))).Ge Kb (.var tid (vs'.set c (.own l 0 ((xs.drop off).take len).length)))
     |_=>st
    else st
   |_=>st
  |_=>st
 |_=>st
def Kl (live:List Nat):Nat->Nat->St->St
 |0,_,st=>st
 |n+1,c,st=>Kl live n (c+1) (if live.contains (NT+c) then Ku c st else st)
def Jy (live:List Nat):Nat->Nat->St->St
 |0,_,st=>Kl live 16 0 st
 |n+1,t,st=>Jy live n (t+1) (if live.contains (Mj+t) then Wy t st else st)
def St.clean (live:List Nat) (st:St):St:=
 let s:St:= {st with tmps:=Gk live 0 st.tmps}
 let r1:=s.tmps.flatMap AV.refs
 let r2:=r1++(s.heap.filter λp=>r1.contains p.1).flatMap λp=>p.2.refs
 let s2:=Zx ((s.heap.map (·.1)).filter λl=>!r2.contains l&&Nat.blt l Am) s
 let s2:=if live.any (λt=>Nat.ble Mj t&&Nat.blt t Yg) then Jy live s2.tmps.length 0 s2 else s2
 let s3:=if live.contains Yg then Ii s2.tmps.length 0 s2 else s2
 if live.any (λt=>Nat.ble Tw t) then s3.Ex live else s3
def Cm:Code->Nat
 | .region id _ _=>id
 | .seq a _=>Cm a
 | .cond _ a _=>Cm a
 | .block _ c=>Cm c
 | .loop c=>1000+Cm c
 |_=>0
def ZH (a b:List Nat):List Nat:=a++b.filter λt=>!a.contains t
def vC:List Oper->List Nat->List Nat
 | [],out=>out
 |o::r,out=>ZH (o.op.operands.toList.filterMap λ | .tmp t=>some t|_=>none) (match o.dst with|some d=>(vC r out).filter (·!=d)|none=>vC r out)
def BJ:List (Nat×List Nat)->Nat->List Nat
 | [],_=> []
 |(k,l)::r,id=>if k=id then l else BJ r id
def m7:Code->List (Nat×List Nat)->List Nat->List Nat->List Nat×List (Nat×List Nat)
 | .region _ ops _,_,_,out=>(vC ops.toList out,[])
 | .seq a b,env,ret,out=>let rb:=m7 b env ret out;let ra:=m7 a env ret rb.1;(ra.1,ra.2++rb.2)
 | .cond c a b,env,ret,out=>let ra:=m7 a env ret out;let rb:=m7 b env ret out
  (ZH (match c with| .tmp t=> [t]|_=> []) (ZH ra.1 rb.1),ra.2++rb.2)
 | .block id c,env,ret,out=>m7 c ((id,out)::env) ret out
 | .exit id,env,_,_=>(BJ env id,[])
 | .ret,_,ret,_=>(ret,[])
 | .loop c,env,ret,_=>let l:=(m7 c env ret []).1;let r:=m7 c env ret l;(l,(Cm c,l)::r.2)
 |_,_,_,out=>(out,[])
def vD:List ResultVar->List Nat
 | []=> []
 | .tmp t::r=>t::vD r
 | .cell p _::r=>p::vD r
def vB (marks:List Nat) (fn:Func) (c:Code):Nat->List Nat:=let ret:=vD fn.results.toList;let g:=BJ (m7 c [] ret ret).2;match marks with
 | []=>g
 |m=> λid=>g id++m
def DG (K:St->Prop) (Q:Hf->St->Prop):Hf->St->Prop
 | .normal,s=>K s
 |e,s=>Q e s
def tf (id:Nat) (Q:Hf->St->Prop):Hf->St->Prop
 | .exit JH,s=>if JH=id then Q .normal s else Q (.exit JH) s
 |e,s=>Q e s
def RM (ops:Array Oper) (t:Nat):Bool:=ops.toList.any λo=>match o.op with
 | .extract (.tmp s) _=>Nat.beq s t
 | .move (.tmp s)=>Nat.beq s t
 | .assign (.tmp s)=>Nat.beq s t
 |_=>false
def Jt (ops:Array Oper):Nat->List AV->List AV
 |_,[]=> []
 |i, .Il l::r=>(if RM ops i=true then .Il l else .undef)::Jt ops (i+1) r
 |i,v::r=>v::Jt ops (i+1) r
def St.iJ (ops:Array Oper) (st:St):St:= {st with tmps:=Jt ops 0 st.tmps}
inductive Jk (Γ:Env) (live:Nat->List Nat):Code->St->(Hf->St->Prop)->Prop where
 |skip {st:St} {Q:Hf->St->Prop} :Q .normal st->Jk Γ live .skip st Q
 |label {l:Nat} {st:St} {Q:Hf->St->Prop} :Q .normal st->Jk Γ live (.label l) st Q
 |exit {id:Nat} {st:St} {Q:Hf->St->Prop} :Q (.exit id) st->Jk Γ live (.exit id) st Q
 |ret {st:St} {Q:Hf->St->Prop} :Q .ret st->Jk Γ live .ret st Q
 |region {id:Nat} {ops:Array Oper} {draw:Bool} {st:St} {Q:Hf->St->Prop} :uh T (vY Γ draw) ops draw (st.iJ ops) (Q .normal)->Jk Γ live (.region id ops draw) st Q
 |seq {x y:Code} {st:St} {Q:Hf->St->Prop} (Q1:Hf->St->Prop):Jk Γ live x st Q1->(∀s,Q1 .normal s->Jk Γ live y s Q)->(∀e s,e≠ .normal->Q1 e s->Q e s)->Jk Γ live (.seq x y) st Q
 |cond {c:Operand} {x y:Code} {st:St} {fr t:Bool} {Q:Hf->St->Prop} :st.ev c= .at (.data fr .bool t)->(t=true->Jk Γ live x st Q)->(t=false->Jk Γ live y st Q)->Jk Γ live (.cond c x y) st Q
 |block {id:Nat} {c:Code} {st:St} {Q:Hf->St->Prop} (Q1:Hf->St->Prop):Jk Γ live c st Q1->(∀e s,Q1 e s->tf id Q e s)->Jk Γ live (.block id c) st Q
 |loop {c:Code} {st:St} {Q:Hf->St->Prop} (Q1:Hf->St->Prop):Jk Γ live c (st.clean (live (Cm c))) Q1->(∀s,Q1 .normal s->Jk Γ live (.loop c) s Q)->(∀e s,e≠ .normal->Q1 e s->Q e s)->Jk Γ live (.loop c) st Q
def Zd (st:St):List ResultVar->Option (List AV)
 | []=>some []
 | .tmp t::r=>(Zd st r).map λl=>st.get t::l
 | .cell p t::r=>match Kz T st t (st.get p),Zd st r with
  |some v,some l=>some (v::l)
  |_,_=>none
def iS (s:Spec) (fn:Func) (st:St):Option (Bool×s.res.den):=
 match Zd T st fn.results.toList with
 |some [v]=>if s.Dv then none else Cx st s.res v
 |some [v,u]=>if s.Dv then Bu st s.res [v,u] else none
 |some [v,u,t]=>if s.Dv then Bu st s.res [v,u,t] else none
 |_=>none
def Nl:(τ:Ty)->τ.den->List AV
 | .pair a r,x=> .at (.data a.flat a x.1)::Nl r x.2
 |_,_=> []
def fm (st:St):(c:CK)->AC->Option (c.den×List Nat)
 | .Er τ,a=>if τ.flat||a.settled then (Bo st τ a).map λp=>(p.2,[]) else none
 | .row e te, .own l off len=>match st.at l with
  |some (.arr _ _ e' Lu xs)=>if h:e'=e/\Lu=te then some ((((h.1▸xs:List e.den).drop off).take len),[l]) else none
  |_=>none
 | .row _ _, .Hx=>some ([],[])
 | .Eb e te, .own l off len=>match st.at l with
  |some (.arr _ tr e' Lu xs)=>if h:e'=e/\Lu=te/\(tr||e.flat)=true then some ((((h.1▸xs:List e.den).drop off).take len),[l]) else none
  |some (.Dn e' Lu xs)=>if h:e'=e/\Lu=te then some ((((h.1▸xs:List e.den).drop off).take len),[l]) else none
  |_=>none
 | .Eb _ _, .Hx=>some ([],[])
 | .Ak e te _, .own l off len=>match st.at l with
  |some (.Ak e' Lu rows none _)=>if h:e'=e/\Lu=te/\off=0/\len=rows.length then some ((h.1▸rows:List (List e.den)),[l]) else none
  |_=>none
 |_,_=>none
def Pp (st:St):(cs:List CK)->List AC->Option (CKs.den cs×List Nat)
 | [],[]=>some ((),[])
 |c::r,a::as=>match fm st c a,Pp st r as with
  |some (x,t1),some (y,t2)=>some ((x,y),t1++t2)
  |_,_=>none
 |_,_=>none
def lJ (st:St) (l:Nat):(c:CK)->Option c.den
 | .Er _=>none
 | .row e te=>match st.at l with
  |some (.arr _ _ e' Lu xs)=>if h:e'=e/\Lu=te then some (h.1▸xs) else none
  |_=>none
 | .Eb e te=>match st.at l with
  |some (.Dn e' Lu xs)=>if h:e'=e/\Lu=te then some (h.1▸xs) else none
  |_=>none
 | .part _ _=>none
 | .Ak _ _ _=>none
def Jr (st:St):(k:Nat)->(cs:List (Bool×CK))->Option (IOs.den cs)
 |_,[]=>some ()
 |k,(true, .Er _)::r=>Jr st (k+1) r
 |k,(true, .Ak _ _ _)::r=>Jr st (k+1) r
 |k,(true, .row e te)::r=>match lJ st (Bv true k) (.row e te),Jr st (k+1) r with
  |some x,some y=>some (x,y)
  |_,_=>none
 |k,(true, .Eb e te)::r=>match lJ st (Bv true k) (.Eb e te),Jr st (k+1) r with
  |some x,some y=>some (x,y)
  |_,_=>none
 |k,(true, .part e te)::r=>match lJ st (Bv true k) (.row e te),Jr st (k+1) r with
  |some x,some y=>some (x,y)
  |_,_=>none
 |k,(false,_)::r=>Jr st (k+1) r
def Kr:(k:Nat)->List (Bool×CK)->List Nat
 |_,[]=> []
 |k,(true, .Er _)::r=>Kr (k+1) r
 |k,(true, .Ak _ _ _)::r=>Kr (k+1) r
 |k,(true,_)::r=>Bv true k::Kr (k+1) r
 |k,(false,_)::r=>Kr (k+1) r
def Fe:(k:Nat)->List (Bool×CK)->List AC->Option (List AC)
 |_,_,[]=>some []
 |k,(true, .row _ _)::r, .own l _ _::as=>if Nat.beq l (Bv true k) then Fe (k+1) r as else none
 |k,(true, .Eb _ _)::r, .own l _ _::as=>if Nat.beq l (Bv true k) then Fe (k+1) r as else none
 |k,(false,_)::r,a::as=>(Fe (k+1) r as).map λl=>a::l
 |_,_,_=>none
def dv (st:St):List AC->List (Bool×CK)->Prop
 | .own l off len::as,(true,_)::r=>(off=0/\match st.at l with
  |some (.arr _ _ _ _ xs)=>len=xs.length
  |some (.Dn _ _ xs)=>len=xs.length
  |_=>False)/\dv st as r
 |_::as,(false,_)::r=>dv st as r
 |_,_=>True
def ED (s:MSpec) (st:St) (l:List AV):Option (List AC×List Nat):=match s.rp with
 |none=>if s.Dv=Nat.blt 1 l.length then (ungroup s.Es l).map λas=>(as,[]) else none
 |some tid=>match l with
  | [.at (.Ea m i)]=>match st.at m with
   |some (.var Pe vs)=>if Pe=tid/\i=0/\Nat.blt m Am=true then some (vs,[m]) else none
   |_=>none
  |_=>none
def tp (st:St) (n:Nat) (as:List AC):List (Nat×Nat)->Prop
 | []=>True
 |(k,j)::r=>(match as[j]? with
  |some (.own l _ _)=>match st.at l with
   |some (.Ak _ _ _ _ (some p))=>p.1=Bv false k/\n<=p.2/\Nat.blt k 1000=true
   |_=>False
  |_=>False)/\tp st n as r
def eS (s:MSpec) (fn:Func) (x:Ins.den s.ins) (st:St) (cs:List AC) (P:CKs.den s.outs×IOs.den s.ins->Prop):Prop:=
 match Zd T st fn.results.toList with
 |none=>False
 |some l=>match ED s st l with
  |none=>False
  |some (as,ml)=>match Pp st s.outs (cs++as),Jr st 0 s.ins with
   |some (r,ls),some o=>(Ue (ml++ls++Kr 0 s.ins)&&Nat.blt s.ins.length 1000&&Nat.blt s.outs.length 1000&&s.QK)=true/\tp st (s.Cs x) (cs++as) s.keeps/\P (r,o)
   |_,_=>False
def NG (s:MSpec) (fn:Func) (x:Ins.den s.ins) (st:St) (P:CKs.den s.outs×IOs.den s.ins->Prop):Prop:=
 match s.ptr with
 |none=>eS T s fn x st [] P
 |some p=> ∃vs cs,st.at Kb=some (.var p.1 vs)/\vs.length=p.2/\Fe 0 s.ins vs=some cs/\dv st vs s.ins/\eS T s fn x st cs P
def Um (s:MSpec) (as:List AC):List AV:=match s.ptr with
 |none=>No s.Fz as
 |some p=> .at (.Ea Kb 0)::No s.Fz (as.drop p.2)
def lZ (s:MSpec) (x:Ins.den s.ins):List (Nat×OB):=match s.ptr with
 |none=>Tl 0 s.ins x
 |some p=>Tl 0 s.ins x++ [(Kb, .var p.1 ((Wo 0 s.ins x).take p.2))]
def To:List (Bool×CK)->Bool
 | []=>true
 |(true, .Ak _ _ _)::_=>false
 |_::r=>To r
def vU (s:MSpec):Bool:=To s.ins&&match s.ptr with
 |none=>true
 |some p=>Nat.ble p.2 s.ins.length
def XB (Γ:Env) (s:MSpec) (fn:Func) (x:Ins.den s.ins) (P:CKs.den s.outs×IOs.den s.ins->Prop):Prop:=
 (Nat.blt s.ins.length 1000&&vU s)=true/\ ∃c,fn.body=some c/\Jk T Γ (vB T.marks fn c) c {tmps:=Um s (Wo 0 s.ins x)++List.replicate (fn.ntmps-(Um s (Wo 0 s.ins x)).length) .undef,heap:=lZ s x}
  (λe st=>(∀id,e≠ .exit id)/\NG T s fn x st P)
def NH (Γ:Env) (s:Spec) (fn:Func) (x:s.arg.den) (P:s.res.den->Prop):Prop:=
 ∃c,fn.body=some c/\Jk T Γ (vB T.marks fn c) c {tmps:=Nl s.arg x++List.replicate (fn.ntmps-(Nl s.arg x).length) .undef,heap:= []}
  (λe st=>(∀id,e≠ .exit id)/\ ∃fr y,iS T s fn st=some (fr,y)/\(fr||!s.fresh)=true/\P y)
end Go.Proofs.YtfolipnappekaaaGreat
