/-
  Part 31 of the proof that the statement FnExactSolutionsAtDepth holds.
-/
import Derived.Test.YtfolipnappekaaaGreatCSolutionsAtDepth29
namespace Go.Proofs.YtfolipnappekaaaGreat
open Go.RowKit
inductive Br (b:Bool) (A B:Prop):Prop
 |mk (t:b=true->A) (f:b=false->B)
inductive Bk {V:Type} (step:V->(V->Prop)->Prop) (v0:V):Prop
 |mk (I:V->Prop) (μ:V->Nat) (h0:I v0) (h: ∀v,I v->step v (λv'=>I v'/\μ v'<μ v))
structure WS where
 kn:List (Nat×Bool)
 st:St
def sr:List (Nat×Bool)->Nat->Option Bool
 | [],_=>none
 |(k,b)::r,t=>if k=t then some b else sr r t
def uj:List (Nat×Bool)->Nat->List (Nat×Bool)
 | [],_=> []
 |(k,b)::r,t=>if k=t then uj r t else (k,b)::uj r t
def WS.put (w:WS) (dst:Option Tmp) (v:AV):WS:=
 match dst with
 |some d=> {kn:=uj w.kn d,st:=w.st.put (some d) v}
 |none=>w
def Qz (kn:List (Nat×Bool)):Operand->Option Bool
 | .const (.bool b)=>some b
 | .tmp t=>sr kn t
 |_=>none
def Dq (kn:List (Nat×Bool)) (o:Oper):Option Bool:=
 match o.op with
 | .assign x=>Qz kn x
 | .move x=>Qz kn x
 | .unOp .not _ x=>(Qz kn x).map (!·)
 | .pick c a b=>match Qz kn c with
  |some true=>Qz kn a
  |some false=>Qz kn b
  |none=>none
 |_=>none
def WS.sL (w:WS) (o:Oper) (v:AV):WS:=
 match o.dst,Dq w.kn o with
 |some d,some b=>match (w.st.put (some d) v).get d with
  | .at (.data _ .bool _)=> {kn:=(d,b)::uj w.kn d,st:=w.st.put (some d) v}
  |_=>w.put (some d) v
 |dst,_=>w.put dst v
def WS.to (w:WS) (st:St):WS:= {kn:=w.kn,st:=st}
def brT (w:WS) (t:Nat) (K:Bool->WS->Prop):Prop:=
 match sr w.kn t with
 |some b=>K b w
 |none=>match w.st.get t with
  | .at (.data _ .bool b)=>Br b (K true {kn:=(t,true)::w.kn,st:=w.st}) (K false {kn:=(t,false)::w.kn,st:=w.st})
  |_=>False
def brO (w:WS) (c:Operand) (K:Bool->WS->Prop):Prop:=
 match c with
 | .tmp t=>brT w t K
 | .const (.bool b)=>K b w
 |_=>False
def Ea {α:Type} (o:Option α) (K:α->Prop):Prop:=match o with|some x=>K x|none=>False
def Ae5 (T:Tab) (st:St) (t:TypeId) (x:AV) (l h:Int):Option AV:=
 match x with
 | .at (.data fr (.slice e) xs)=>if (T.elem t).bind T.ty=some e then some (.at (.data fr (.slice e) ((xs.take h.toNat).drop l.toNat))) else none
 | .at (.own k off _)=>match st.at k with
  |some (.arr _ _ e tid _)=>if T.elem t=some tid/\T.ty tid=some e then some (.at (.own k (off+l.toNat) (h.toNat-l.toNat))) else none
  |_=>none
 | .at (.data _ .str s)=>if T.ty t=some .str then some (.at (.data true .str (s.extract l.toNat h.toNat))) else none
 |_=>none
variable (T:Tab) (Γ:Env)
def Abg (op:BinOp) (t:TypeId) (x y:AV) (K:AV->Prop):Prop:=
 match op,x,y with
 | .quo, .at (.data _ (.int k) a), .at (.data _ (.int k') b)=>if k=k' then b≠0/\K (.at (.data true (.int k) (k.wrap (a.tdiv b)))) else False
 | .rem, .at (.data _ (.int k) a), .at (.data _ (.int k') b)=>if k=k' then b≠0/\K (.at (.data true (.int k) (a.tmod b))) else False
 | .shl, .at (.data _ (.int k) a), .at (.data _ (.int _) b)=> ¬b<0/\K (.at (.data true (.int k) (k.wrap (a*2^(min b.toNat k.bits)))))
 | .shr, .at (.data _ (.int k) a), .at (.data _ (.int _) b)=> ¬b<0/\K (.at (.data true (.int k) (a.fdiv (2^(min b.toNat k.bits)))))
 | .add, .at (.data _ .str a), .at (.data _ .str b)=>a.size+b.size<=4294967296/\K (.at (.data true .str (a++b)))
 |op,x,y=>Ea (Of T op t x y) K
def SU (st:St) (t:TypeId) (p:AV) (K:AV->Prop):Prop:=
 match p with
 | .at (.Fw l i)=>Ea (T.ty t) λτ=>match st.at l with
  |some (.arr fr _ e _ xs)=>if e=τ then ∃x,xs[i]?=some x/\K (.at (.data (fr||e.flat) e x)) else False
  |some (.Dg e _ xs)=>if e=τ then ∃x,xs[i]?=some x/\K (if e.Ac then .agg (c9 l i 0 e x) else .at ((c9 l i 0 e x).headD .undef)) else False
  |some (.Al _ _ _ none _)=>if τ.Ac then False else K (.at (.sub l i 0))
  |_=>False
 | .at (.data fr (.optr Jp) x)=>Ea (T.ty t) λτ=>if Jp=τ then ∃y,x=some y/\K (.at (.data (fr||Jp.flat) Jp y)) else False
 |p=>Ea (Le T st t p) K
def iy (s:TypeId) (x:AV) (f:Nat) (K:AV->Prop):Prop:=
 match x with
 | .at (.data fr (.optr τ) x)=> ∃y,x=some y/\Ea (Ji T s (.at (.data fr (.ptr τ) y)) f) K
 |x=>Ea (Ji T s x f) K
def uy (st:St) (x:Operand) (K:AV->Prop) (d:Option AV):Prop:=
 match st.ev x with
 | .at (.data fr (.optr τ) x)=> ∃y,x=some y/\K (.at (.data fr (.ptr τ) y))
 |_=>Ea d K
def GO (st:St) (t:TypeId) (x:AV) (lo hi:Option AV) (K:AV->Prop):Prop:=
 Ea (zk x) λn=>Ea (PE lo 0) λl=>Ea (PE hi n) λh=>(0<=l/\l<=h/\h<=n)/\Ea (Ae5 T st t x l h) K
def iJ (st:St) (t:TypeId) (x i:AV) (K:AV->Prop):Prop:=
 match x,i with
 | .at (.data fr (.slice e) xs), .at (.data _ (.int _) n)=>if (T.elem t).bind T.ty=some e then ∃x,idx xs n=some x/\K (.at (.data fr (.ptr e) x)) else False
 | .at (.own l off len), .at (.data _ (.int _) n)=>match st.at l with
  |some (.arr _ _ e tid _)=>if T.elem t=some tid/\T.ty tid=some e then (0<=n/\n<len)/\K (.at (.Fw l (off+n.toNat))) else False
  |some (.Dg e tid _)=>if T.elem t=some tid/\T.ty tid=some e then (0<=n/\n<len)/\K (.at (.Fw l (off+n.toNat))) else False
  |some (.Al _ te _ _ _)=>if T.elem t=some te/\(T.ty te).map Ty.size=some 1 then (0<=n/\n<len)/\K (.at (.Fw l (off+n.toNat))) else False
  |_=>False
 | .at (.sub l i _), .at (.data _ (.int _) n)=>match st.at l with
  |some (.Al e _ rows none _)=>if ((T.elem t).bind T.ty).map Ty.size=some e.size then (0<=n/\n<(rows.getD i []).length)/\K (.at (.Ft l i n.toNat)) else False
  |_=>False
 |_,_=>False
def EG (t:TypeId) (x i:AV) (K:AV->Prop):Prop:=
 match x,i with
 | .at (.data _ .str s), .at (.data _ (.int _) n)=>if T.ty t=some .str then 0<=n/\ ∃b,s[n.toNat]?=some b/\K (.at (.data true (.int .u8) b.toNat)) else False
 |_,_=>False
def tS (st:St) (f:FuncId) (args:List AV) (K:AV->Prop):Prop:=
 Ea (match Γ f with|some (.q s)=>some s|_=>none) λs=>match s.fresh||s.res.flat||args.all (·.settled) with
  |true=>Ea (Bt st s.arg args) λp=> ∃y,s.fn p.2=some y/\K (if s.Cs then .Wv (s.fresh||s.res.flat) s.res y else .at (.data (s.fresh||s.res.flat) s.res y))
  |false=>False
def DB (st:St) (v:AV) (args:List AV) (K:AV->Prop):Prop:=
 match v with
 | .at (.data fr (.clo f τ) x)=>match τ.chain with|true=>(match Nat.blt f 1000000000 with|true=>tS Γ st f (args++Xb fr τ x) K|false=>tS Γ st (f-1000000000) (Xb fr τ x++args) K)|false=>False
 | .at (.clo f Ca)=>tS Γ st f (args++Ca.map λp=> .at (.Du p.1 p.2)) K
 |_=>False
def qW (w:WS) (o:Oper) (K:AV->WS->Prop):Prop:=
 match o.op with
 | .pick c a b=>brO w c λt w'=>match t with|true=>K (w'.st.ev a) w'|false=>K (w'.st.ev b) w'
 | .load t a=>SU T w.st t (w.st.ev a) λv=>K v w
 | .binOp op t x y _=>Abg T op t (w.st.ev x) (w.st.ev y) λv=>K v w
 | .slice t x lo hi mx=>match mx with
  |none=>GO T w.st t (w.st.ev x) (lo.map w.st.ev) (hi.map w.st.ev) λv=>K v w
  |some _=>False
 | .indexAddr t x i=>iJ T w.st t (lV (w.st.ev x)) (w.st.ev i) λv=>K v w
 | .index t x i=>EG T t (w.st.ev x) (w.st.ev i) λv=>K v w
 | .call {callee:= .value (.func f),args, .. } =>tS Γ w.st f (args.toList.map w.st.ev) λv=>K v w
 | .call {callee:= .value (.tmp t),args, .. } =>DB Γ w.st (w.st.get t) (args.toList.map w.st.ev) λv=>K v w
 | .fieldAddr s x f=>iy T s (w.st.ev x) f λv=>K v w
 | .nilCheck x=>uy w.st x (λv=>K v w) (Cm T Γ w.st o)
 |_=>Ea (Cm T Γ w.st o) λv=>K v w
def HI (st:St) (t:TypeId) (p v:AV) (K:St->Prop):Prop:=
 match p with
 | .at (.Fw l j)=>Ea (T.ty t) λτ=>Ea (settle st v) λq=>match q.2.at l with
  |some (.arr fr tr e tid xs)=>Ea (Cv q.2 τ q.1) λu=>if h:τ=e then j<xs.length/\K (q.2.Fq l (.arr (fr&&u.1) (tr&&(Oa st v&&e.tree)) e tid (xs.set j (h▸u.2)))) else False
  |_=>False
 |p=>Ea (Pq T st t p v) K
def KI (st:St) (t:TypeId) (p v:AV) (K:St->Prop):Prop:=
 match p with
 | .at (.Ft l i j)=>Ea (T.ty t) λτ=>Ea (settle st v) λq=>match q.2.at l with
  |some (.Al e te rows none kp)=>Ea (Cv q.2 τ q.1) λu=>if h:τ=e then K (q.2.Fq l (.Al e te (rows.set i ((rows.getD i []).set j (h▸u.2))) none kp)) else False
  |_=>False
 | .at (.Fw l j)=>Ea (T.ty t) λτ=>match st.at l,v with
  |some (.Al e te rows out kp), .at (.own m off len)=>match st.at m with
   |some (.arr _ _ e' _ xs)=>if h:e'=e/\(Nat.blt l Am&&(!Nat.beq m l&&!τ.Ac))=true then
     off=0/\len=xs.length/\(match out with|none=>True|some i=>i=j)/\K (Oe st l j m e te rows (h.1▸xs) (Xm j kp))
    else False
   |_=>False
  |_,_=>False
 |_=>False
def xo (st:St) (t:TypeId) (p v:AV) (K:St->Prop):Prop:=match JD st p with
 |true=>KI T st t p v K
 |false=>HI T st t p v K
def jk (st:St) (dst:Nat) (t:TypeId) (x y:Operand) (K:AV->St->Prop):Prop:=
 Ea (T.elem t) λte=>Ea (T.ty te) λe=>Ea (settle st (st.ev y)) λq=>Ea (Cv q.2 (.slice e) q.1) λu=>match q.2.ev x with
  | .at .Hr=>match Nat.blt dst Am with
   |true=>List.length u.2<=Be/\K (.at (.own dst 0 (List.length u.2))) ((q.2.new dst (.arr (T.pC||e.flat) T.xB e te [])).new dst (.arr ((T.pC||e.flat)&&(u.1||e.flat)) (T.xB&&(e.flat||(Oa st (st.ev y)&&e.tree))) e te u.2))
   |false=>False
  | .at (.own l off len)=>match q.2.at l with
   |some (.arr fr tr e' tid xs)=>if h:e'=e/\tid=te/\Nat.blt l Am=true then
     off=0/\len=xs.length/\len+List.length u.2<=Be/\K (.at (.own l 0 (List.length ((h.1▸xs:List e.den)++u.2)))) (q.2.new l (.arr (fr&&(u.1||e.flat)) (tr&&(e.flat||(Oa st (st.ev y)&&e.tree))) e te ((h.1▸xs:List e.den)++u.2)))
    else False
   |_=>False
  |_=>False
def oX (st:St) (dst:Nat) (t:TypeId) (x y:Operand) (K:AV->St->Prop):Prop:=
 match x with
 | .tmp tx=>match st.get tx with
  | .at (.sub l i _)=>Ea (T.elem t) λtid=>match st.at l with
   |some (.Al e te rows none kp)=>match Nat.blt l Am&&(Nat.blt dst Am&&!Nat.beq dst l) with
    |true=>jk T ((Ld st l i dst e te tid rows kp).put (some tx) (.at (.own dst 0 (rows.getD i []).length))) dst t x y K
    |false=>False
   |_=>False
  |_=>jk T st dst t x y K
 |_=>jk T st dst t x y K
def TA (st:St) (dst:Nat) (t:TypeId) (l c:AV) (K:AV->St->Prop):Prop:=
 match l,c with
 | .at (.data _ (.int _) n), .at (.data _ (.int _) m)=>Ea (T.elem t) λte=>Ea (T.ty te) λe=>match cj e&&Nat.blt dst Am with
  |true=>(0<=n/\n<Be+1)/\n=m/\K (.at (.own dst 0 (List.replicate n.toNat e.zero).length)) (st.new dst (.arr (T.pC||e.flat) (T.xB&&e.tree) e te (List.replicate n.toNat e.zero)))
  |false=>False
 |_,_=>False
def EV (st:St) (dst:Nat) (t:TypeId) (l c:AV) (K:AV->St->Prop):Prop:=
 match aC T t with
 |none=>TA T st dst t l c K
 |some p=>match l,c with
  | .at (.data _ (.int _) n), .at (.data _ (.int _) m)=>match Nat.blt dst Am with
   |true=>(0<=n/\n<Be+1)/\n=m/\K (.at (.own dst 0 (List.replicate n.toNat ([]:List p.2.den)).length)) (Lw st dst dst (.Al p.2 p.1 (List.replicate n.toNat []) none none))
   |false=>False
  |_,_=>False
def bp (st:St) (dst:Nat) (t:TypeId) (len:Nat) (parts:Array (Nat×Operand)) (K:AV->St->Prop):Prop:=
 match aC T t with
 |none=>Ea (Hv T st dst t len parts) λr=>K r.1 r.2
 |some p=>match parts.toList with
  | [(0,x)]=>match st.ev x with
   | .at (.own m off ln)=>match st.at m with
    |some (.arr _ _ e' _ xs)=>if h:e'=p.2/\(Nat.beq len 1&&(Nat.blt dst Am&&Nat.blt m Am))=true then off=0/\ln=xs.length/\K (.at (.own dst 0 1)) (Lw st dst m (.Al p.2 p.1 [h.1▸xs] none none)) else False
    |_=>False
   |_=>False
  |_=>False
def oZ (st:St) (dst:Nat) (t:TypeId) (x y:Operand) (K:AV->St->Prop):Prop:=
 match aC T t with
 |none=>oX T st dst t x y K
 |some p=>match st.ev x,st.ev y with
  | .at (.own l off len), .at (.own m TJ q9)=>match st.at l,st.at m with
   |some (.Al e1 te1 A none _),some (.Al e2 tj B none _)=>
    if h:(e1=p.2/\e2=p.2)/\(decide (te1=p.1)&&decide (tj=p.1)&&(Nat.blt l Am&&(Nat.blt m Am&&!Nat.beq m l)))=true then
     (off=0/\len=A.length)/\(TJ=0/\q9=B.length)/\0<B.length/\A.length+B.length<=Be/\
      K (.at (.own l 0 (List.length ((h.1.1▸A:List (List p.2.den))++(h.1.2▸B:List (List p.2.den)))))) (Lw st l m (.Al p.2 p.1 ((h.1.1▸A:List (List p.2.den))++(h.1.2▸B:List (List p.2.den))) none none))
    else False
   |_,_=>False
  |_,_=>False
def cb (st:St) (io:Bool) (k:Nat):(c:CK)->AC->(c.den->List (Nat×Loc)->Prop)->Prop
 | .Dn τ, .own l off len,K=>Ea (Bp st τ (.own l off len)) λp=>K p.2 [(Bu false k, .view l)]
 | .Dn τ, .clo g Ca,K=>match Yb st (Ca.map (·.1))&&!τ.Ac with
  |true=>Ea (Fo st τ (.clo g Ca)) λp=>K p.2 (views k (Ca.map (·.1)))
  |false=>False
 | .Dn τ, .Du l i,K=>match Yb st [l]&&!τ.Ac with
  |true=>Ea (Fo st τ (.Du l i)) λp=>K p.2 (views k [l])
  |false=>False
 | .Dn τ, .sub l i c,K=>Ea (Bp st τ (.sub l i c)) λp=>K p.2 [(Bu false k, .view l)]
 | .Dn τ,a,K=>match τ.flat||a.settled with
  |true=>Ea (Bp st τ a) λp=>K p.2 []
  |false=>False
 | .row e te, .own l off len,K=>match st.at l with
  |some (.arr _ _ e' Mc xs)=>if h:e'=e/\Mc=te then off=0/\len=xs.length/\K (h.1▸xs:List e.den) [(Bu io k, .row l)] else False
  |_=>False
 | .row e _, .sub l i c,K=>match st.at l with
  |some (.Dg e' _ xs)=>if h:e'= .slice e/\e.flat=true/\io=true/\c=0 then ∃y,xs[i]?=some y/\K (h.1▸y:(Ty.slice e).den) [(Bu io k, .sub l i c)] else False
  |_=>False
 | .row _ _, .Hr,K=>K [] []
 | .Dv e te, .own l off len,K=>match st.at l with
  |some (.Dg e' Mc xs)=>if h:e'=e/\Mc=te then off=0/\len=xs.length/\K (h.1▸xs:List e.den) [(Bu io k, .row l)] else False
  |_=>False
 | .Dv e _, .sub l i c,K=>match st.at l with
  |some (.Dg e' _ xs)=>if h:e'= .slice e/\io=true/\c=0 then ∃y,xs[i]?=some y/\K (h.1▸y:(Ty.slice e).den) [(Bu io k, .sub l i c)] else False
  |_=>False
 | .Dv _ _, .Hr,K=>K [] []
 | .part e te, .own l off len,K=>match st.at l with
  |some (.arr _ _ e' Mc xs)=>if h:e'=e/\Mc=te/\e.flat=true/\io=true then K ((h.1▸xs:List e.den),off,len) [(Bu io k, .row l)] else False
  |_=>False
 | .Al e te _, .own l off len,K=>match st.at l with
  |some (.Al e' Mc rows none _)=>if h:e'=e/\Mc=te/\io=false then off=0/\len=rows.length/\K (h.1▸rows:List (List e.den)) [(Bu io k, .row l)] else False
  |_=>False
 |_,_,_=>False
def xA (st:St):(k:Nat)->(cs:List (Bool×CK))->List AC->(Ins.den cs->List (Nat×Loc)->Prop)->Prop
 |_,[],[],K=>K () []
 |k,p::r,a::as,K=>cb st p.1 k p.2 a λx t1=>xA st (k+1) r as λy t2=>K (x,y) (t1++t2)
 |_,_,_,_=>False
def nm (st:St):(c:CK)->c.den->AC->(St->Prop)->Prop
 | .row e _,ys, .own l _ len,K=>match st.at l with
  |some (.arr fr tr e' te xs)=>if h:e=e' then (List.length ys=len/\xs.length=len)/\K (st.Fq l (.arr (fr&&e'.flat) (tr&&e'.flat) e' te (h▸ys))) else False
  |_=>False
 | .Dv e _,ys, .own l _ len,K=>match st.at l with
  |some (.Dg e' te xs)=>if h:e=e' then (List.length ys=len/\xs.length=len)/\K (st.Fq l (.Dg e' te (h▸ys))) else False
  |_=>False
 | .row e _,ys, .sub l i _,K=>match st.at l with
  |some (.Dg e' te xs)=>if h: .slice e=e' then ∃y,xs[i]?=some y/\List.length ys=List.length (h▸y:(Ty.slice e).den)/\K (st.Fq l (.Dg e' te (xs.set i (h▸(ys:(Ty.slice e).den))))) else False
  |_=>False
 | .Dv e _,ys, .sub l i _,K=>match st.at l with
  |some (.Dg e' te xs)=>if h: .slice e=e' then ∃y,xs[i]?=some y/\List.length ys=List.length (h▸y:(Ty.slice e).den)/\K (st.Fq l (.Dg e' te (xs.set i (h▸(ys:(Ty.slice e).den))))) else False
  |_=>False
 |_,_, .Hr,K=>K st
 |_,_,_,_=>False
def TX (st:St) (e:Ty) (ys:List e.den):AC->(St->Prop)->Prop
 | .own l _ _,K=>match st.at l with
  |some (.arr fr tr e' te xs)=>if h:e=e' then List.length ys=xs.length/\K (st.Fq l (.arr fr tr e' te (h▸ys))) else False
  |_=>False
 |_,_=>False
def ec:(cs:List (Bool×CK))->IOs.den cs->List AC->St->(St->Prop)->Prop
 | [],_,_,st,K=>K st
 |(true, .Dn _)::r,x,_::as,st,K=>ec r x as st K
 |(true, .row e te)::r,x,a::as,st,K=>nm st (.row e te) x.1 a λst'=>ec r x.2 as st' K
 |(true, .Dv e te)::r,x,a::as,st,K=>nm st (.Dv e te) x.1 a λst'=>ec r x.2 as st' K
 |(true, .part e _)::r,x,a::as,st,K=>TX st e x.1 a λst'=>ec r x.2 as st' K
 |(true, .Al _ _ _)::r,x,_::as,st,K=>ec r x as st K
 |(false,_)::r,x,_::as,st,K=>ec r x as st K
 |_,_,_,_,_=>False
def ry (H:List (Nat×OB)) (ls:List Nat) (n:Nat):List AV->Prop->Prop
 | [],K=>K
 | .at (.sub l i _)::r,K=>match ls.contains l with
  |true=>(i<n/\i<oB H l)/\ry H ls n r K
  |false=>ry H ls n r K
 |_::r,K=>ry H ls n r K
def DA (st:St) (dst:Option Nat) (s:MSpec) (args:List AV) (K:AV->St->Prop):Prop:=
 Ea (KD st s args) λq=>Ea (ungroup s.Eh q.2.2) λl4=>xA st 0 s.ins (q.2.1++l4) λx tks=>
  match Vc (tks.map λt=>t.2.Rn)&&wv (Nb s tks (dst.getD 0)) (s.outs.length+(iW s (dst.getD 0)).length)&&Nat.blt s.outs.length 1000&&Nat.blt s.ins.length 1000&&(Qv s.ins q.2.1&&q.1.all λl=>!((tks.map λt=>t.2.Rn)++Nb s tks (dst.getD 0)).contains l) with
  |true=> ∃p,s.fn x=some p/\ec s.ins p.2 (q.2.1++l4) st λst1=>Ea (YN s (dst.getD 0) ((Xq (Bz (Nb s tks (dst.getD 0))) 0 s.outs p.1).drop s.Vn)) λv=>
    ry (iq st st1 (dst.getD 0) s q.1 tks p.1).heap (Xl st.heap (Nb s tks (dst.getD 0)) tks s.keeps) (s.Cn x) st.tmps
     (K v (iK st (iq st st1 (dst.getD 0) s q.1 tks p.1) (Xl st.heap (Nb s tks (dst.getD 0)) tks s.keeps) (s.Cn x)))
  |false=>False
def YE (w:WS) (o:Oper) (K:AV->WS->Prop):Prop:=
 match o.op with
 | .store t p x=>xo T w.st t (w.st.ev p) (w.st.ev x) λs=>K .undef (w.to s)
 | .makeSlice t l c=>Ea o.dst λd=>EV T w.st d t (w.st.ev l) (w.st.ev c) λv s=>K v (w.to s)
 | .call {callee:= .builtin .append,args,argTypes} =>match o.dst,args.toList,argTypes.toList with
  |some d,[x,y],[t,t']=>if t=t' then oZ T w.st d t x y λv s=>K v (w.to s) else False
  |_,_,_=>False
 | .assign _=>Ea (evalOp T Γ w.st o) λr=>K r.1 (w.to r.2)
 | .alloc _=>Ea (evalOp T Γ w.st o) λr=>K r.1 (w.to r.2)
 | .box _ _=>Ea (evalOp T Γ w.st o) λr=>K r.1 (w.to r.2)
 | .buildSlice t len parts=>Ea o.dst λd=>bp T w.st d t len parts λv s=>K v (w.to s)
 | .build _ _=>Ea (evalOp T Γ w.st o) λr=>K r.1 (w.to r.2)
 | .makeMap _ _=>Ea (evalOp T Γ w.st o) λr=>K r.1 (w.to r.2)
 | .mapUpdate _ _ _ _=>Ea (evalOp T Γ w.st o) λr=>K r.1 (w.to r.2)
 | .insert _ _ _ _=>Ea (evalOp T Γ w.st o) λr=>K r.1 (w.to r.2)
 | .call {callee:= .builtin .copy, .. } =>Ea (evalOp T Γ w.st o) λr=>K r.1 (w.to r.2)
 | .call {callee:= .builtin .clear, .. } =>Ea (evalOp T Γ w.st o) λr=>K r.1 (w.to r.2)
 | .call {callee:= .value (.func f),args, .. } =>match Γ f with
  |some (.m s)=>DA w.st o.dst s (args.toList.map w.st.ev) λv s'=>K v (w.to s')
  |some (.q s)=>match bK s (args.toList.map w.st.ev) with
   |true=>Ea (Ke args.toList w.st) λst1=>qW T Γ (w.to st1) o K
   |false=>qW T Γ w o K
  |_=>qW T Γ w o K
 |_=>qW T Γ w o K
def AV.SM:AV->Bool
 | .at .skip=>true
 |_=>false
def bW (w:WS) (o:Oper) (K:AV->WS->Prop):Prop:=
 match o.op with
 | .buildSlice t len parts=>Ea (Xc T w.st t len parts) λv=>K v w
 | .build t parts=>Ea (Sh T w.st t parts) λv=>K v w
 |_=>qW T Γ w o K
def eF (ops:Array Oper) (w:WS) (o:Oper) (run:(AV->WS->Prop)->WS->Prop) (K:WS->Prop):Prop:=
 match o.guard with
 |none=>run (λv w'=>K (w'.sL o v)) w
 |some (j,want)=>Ea ((ops[j]?).bind (·.dst)) λt=>match (w.st.get t).SM with
  |true=>K (w.put o.dst (.at .skip))
  |false=>brT w t λb w'=>match b,want with
   |true,true=>run (λv nI=>K (nI.sL o v)) w'
   |false,false=>run (λv nI=>K (nI.sL o v)) w'
   |_,_=>K (w'.put o.dst (.at .skip))
def Adj (ops:Array Oper):List Oper->WS->(WS->Prop)->Prop
 | [],w,K=>K w
 |o::r,w,K=>eF ops w o (λk w'=>YE T Γ w' o k) λw'=>Adj ops r w' K
def SC (ops:Array Oper):List Nat->WS->(WS->Prop)->Prop
 | [],w,K=>K w
 |i::r,w,K=>Ea ops[i]? λo=>eF ops w o (λk w'=>YE T Γ w' o k) λw'=>SC ops r w' K
def mS (ops:Array Oper):List Nat->WS->(WS->Prop)->Prop
 | [],w,K=>K w
 |i::r,w,K=>Ea ops[i]? λo=>eF ops w o (λk w'=>bW T Γ w' o k) λw'=>mS ops r w' K
def QD:List Nat->(Nat->Prop)->Prop
 | [],_=>True
 | [i],P=>P i
 |i::j::r,P=>P i/\QD (j::r) P
def KV (ops:Array Oper):Nat->Array Bool->WS->(WS->Prop)->Prop
 |0,Aa,w,K=>match Region.ready .any ops Aa with
  | []=>K w
  |_::_=>False
 |f+1,Aa,w,K=>match Region.ready .any ops Aa with
  | []=>False
  |i::r=>QD (i::r) λk=>Ea ops[k]? λo=>eF ops w o (λkk w'=>YE T Γ w' o kk) λw'=>KV ops f (Aa.setIfInBounds k true) w' K
def acV:AC->Type->Type
 | .data _ τ _,R=>τ.den×R
 | .sub _ _ _,R=>Nat×R
 | .Fw _ _,R=>Nat×R
 | .Ft _ _ _,R=>Nat×Nat×R
 |_,R=>R
def CP:List AC->Type->Type
 | [],R=>R
 |c::r,R=>acV c (CP r R)
def avV:AV->Type->Type
 | .at a,R=>acV a R
 | .agg cs,R=>CP cs R
 | .Wv _ τ _,R=>τ.den×R
 | .Ih _,R=>R
def obV:OB->Type->Type
 | .arr _ _ e _ _,R=>List e.den×R
 | .Dg e _ _,R=>List e.den×R
 | .var _ vs,R=>CP vs R
 | .Al e _ _ _ none,R=>List (List e.den)×R
 | .Al e _ _ _ (some _),R=>List (List e.den)×(Nat×R)
 | .Qh v _,R=>(ByteArray->Option v.den)×R
def nG:List AV->Type->Type
 | [],R=>R
 |v::r,R=>avV v (nG r R)
def u5:List (Nat×OB)->Type->Type
 | [],R=>R
 |p::r,R=>obV p.2 (u5 r R)
def stV (s:St):Type:=nG s.tmps (u5 s.heap Unit)
def IJ:(c:AC)-> {R:Type} ->R->acV c R
 | .data _ _ x,_,r=>(x,r)
 | .undef,_,r=>r
 | .skip,_,r=>r
 | .Hr,_,r=>r
 | .Ro,_,r=>r
 | .own _ _ _,_,r=>r
 | .Du _ _,_,r=>r
 | .Fw _ i,_,r=>(i,r)
 | .clo _ _,_,r=>r
 | .Gd _,_,r=>r
 | .sub _ i _,_,r=>(i,r)
 | .Ft _ i j,_,r=>(i,j,r)
def oU:(l:List AC)-> {R:Type} ->R->CP l R
 | [],_,r=>r
 |c::l,_,r=>IJ c (oU l r)
def ZL:(c:AV)-> {R:Type} ->R->avV c R
 | .at a,_,r=>IJ a r
 | .agg cs,_,r=>oU cs r
 | .Wv _ _ x,_,r=>(x,r)
 | .Ih _,_,r=>r
def Ab1:(b:OB)-> {R:Type} ->R->obV b R
 | .arr _ _ _ _ xs,_,r=>(xs,r)
 | .Dg _ _ xs,_,r=>(xs,r)
 | .var _ vs,_,r=>oU vs r
 | .Al _ _ rows _ none,_,r=>(rows,r)
 | .Al _ _ rows _ (some p),_,r=>(rows,p.2,r)
 | .Qh _ m,_,r=>(m,r)
def oM:(l:List AV)-> {R:Type} ->R->nG l R
 | [],_,r=>r
 |c::l,_,r=>ZL c (oM l r)
def oC:(l:List (Nat×OB))-> {R:Type} ->R->u5 l R
 | [],_,r=>r
 |p::l,_,r=>Ab1 p.2 (oC l r)
def KH (s:St):stV s:=oM s.tmps (oC s.heap ())
def lf:(c d:AC)-> {R:Type} ->R->Option (acV c R)
 | .data fr τ _, .data Qs Jp x,_,r=>if h:Jp=τ/\Qs=fr then some (h.1▸x,r) else none
 | .undef, .undef,_,r=>some r
 | .skip, .skip,_,r=>some r
 | .Hr, .Hr,_,r=>some r
 | .Ro, .Ro,_,r=>some r
 | .own l _ _, .own l' _ _,_,r=>if l=l' then some r else none
 | .Du l i, .Du l' i',_,r=>if l=l'/\i=i' then some r else none
 | .Fw l _, .Fw l' i',_,r=>if l=l' then some (i',r) else none
 | .clo f c, .clo f' c',_,r=>if f=f'/\c=c' then some r else none
 | .Gd l, .Gd l',_,r=>if l=l' then some r else none
 | .sub l _ c, .sub l' i' c',_,r=>if l=l'/\c=c' then some (i',r) else none
 | .Ft l _ _, .Ft l' i' j',_,r=>if l=l' then some (i',j',r) else none
 |_,_,_,_=>none
def Na:(l m:List AC)-> {R:Type} ->R->Option (CP l R)
 | [],[],_,r=>some r
 |c::l,d::m,_,r=>(Na l m r).bind λr'=>lf c d r'
 |_,_,_,_=>none
def iv:(c d:AV)-> {R:Type} ->R->Option (avV c R)
 | .at a, .at b,_,r=>lf a b r
 | .agg cs, .agg ds,_,r=>Na cs ds r
 | .Wv fr τ _, .Wv Qs Jp x,_,r=>if h:Jp=τ/\Qs=fr then some (h.1▸x,r) else none
 |_,_,_,_=>none
def Nu:(b d:OB)-> {R:Type} ->R->Option (obV b R)
 | .arr fr tr e tid _, .arr Qs VI e' Pn xs,_,r=>if h:e'=e/\Qs=fr/\VI=tr/\Pn=tid then some (h.1▸xs,r) else none
 | .Dg e tid _, .Dg e' Pn xs,_,r=>if h:e'=e/\Pn=tid then some (h.1▸xs,r) else none
 | .Qh v _, .Qh v' m,_,r=>if h:v'=v then some (h▸m,r) else none
 | .var t vs, .var t' us,_,r=>if t'=t then Na vs us r else none
 | .Al e te _ out none, .Al e' Mc rows cT none,_,r=>if h:e'=e/\Mc=te/\cT=out then some (h.1▸rows,r) else none
 | .Al e te _ out (some p), .Al e' Mc rows cT (some p'),_,r=>if h:e'=e/\Mc=te/\cT=out/\p'.1=p.1 then some (h.1▸rows,p'.2,r) else none
 |_,_,_,_=>none
def Kf:(l m:List AV)-> {R:Type} ->R->Option (nG l R)
 | [],[],_,r=>some r
 |c::l,d::m,_,r=>(Kf l m r).bind λr'=>iv c d r'
 |_,_,_,_=>none
def Lf:(l m:List (Nat×OB))-> {R:Type} ->R->Option (u5 l R)
 | [],[],_,r=>some r
 |p::l,q::m,_,r=>if q.1=p.1 then (Lf l m r).bind λr'=>Nu p.2 q.2 r' else none
 |_,_,_,_=>none
def eD (s t:St):Option (stV s):=(Lf s.heap t.heap ()).bind λr=>Kf s.tmps t.tmps r
def il:(c:AC)-> {R:Type} ->acV c R->AC×R
 | .data fr τ _,_,v=>(.data fr τ v.1,v.2)
 | .undef,_,r=>(.undef,r)
 | .skip,_,r=>(.skip,r)
 | .Hr,_,r=>(.Hr,r)
 | .Ro,_,r=>(.Ro,r)
 | .own l off len,_,r=>(.own l off len,r)
 | .Du l i,_,r=>(.Du l i,r)
 | .Fw l _,_,v=>(.Fw l v.1,v.2)
 | .clo f c,_,r=>(.clo f c,r)
 | .Gd l,_,r=>(.Gd l,r)
 | .sub l _ c,_,v=>(.sub l v.1 c,v.2)
 | .Ft l _ _,_,v=>(.Ft l v.1 v.2.1,v.2.2)
def Vp:(l:List AC)-> {R:Type} ->CP l R->List AC×R
 | [],_,r=>([],r)
 |c::l,_,v=>((il c v).1::(Vp l (il c v).2).1,(Vp l (il c v).2).2)
def p8:(c:AV)-> {R:Type} ->avV c R->AV×R
 | .at a,_,v=>(.at (il a v).1,(il a v).2)
 | .agg cs,_,v=>(.agg (Vp cs v).1,(Vp cs v).2)
 | .Wv fr τ _,_,v=>(.Wv fr τ v.1,v.2)
 | .Ih l,_,r=>(.Ih l,r)
def qj:(b:OB)-> {R:Type} ->obV b R->OB×R
 | .arr fr tr e tid _,_,v=>(.arr fr tr e tid v.1,v.2)
 | .Dg e tid _,_,v=>(.Dg e tid v.1,v.2)
 | .Qh w _,_,v=>(.Qh w v.1,v.2)
 | .var t vs,_,v=>(.var t (Vp vs v).1,(Vp vs v).2)
 | .Al e te _ out none,_,v=>(.Al e te v.1 out none,v.2)
 | .Al e te _ out (some p),_,v=>(.Al e te v.1 out (some (p.1,v.2.1)),v.2.2)
def Rj:(l:List AV)-> {R:Type} ->nG l R->List AV×R
 | [],_,r=>([],r)
 |c::l,_,v=>((p8 c v).1::(Rj l (p8 c v).2).1,(Rj l (p8 c v).2).2)
def aF:(l:List (Nat×OB))-> {R:Type} ->u5 l R->List (Nat×OB)×R
 | [],_,r=>([],r)
 |p::l,_,v=>((p.1,(qj p.2 v).1)::(aF l (qj p.2 v).2).1,(aF l (qj p.2 v).2).2)
def eC (s:St) (v:stV s):St:= {tmps:=(Rj s.tmps v).1,heap:=(aF s.heap (Rj s.tmps v).2).1}
def lenOf (H:List (Nat×OB)) (l:Nat):Nat:=match Ad H l with|some (.arr _ _ _ _ xs)=>xs.length|some (.Dg _ _ xs)=>xs.length|some (.Al _ _ rows _ _)=>rows.length|_=>0
def Uw (ps:List Nat):List AV->List (Nat×Nat×Nat)
 | []=> []
 | .at (.own l off len)::r=>if ps.contains l then (l,off,len)::Uw ps r else Uw ps r
 |_::r=>Uw ps r
def Adh:List (Nat×Nat×Nat)->Nat->Nat
 | [],_=>0
 |(k,o,_)::r,l=>if k=l then o else Adh r l
def MD:List (Nat×Nat×Nat)->List (Nat×OB)->Nat->Nat
 | [],H,l=>lenOf H l
 |(k,_,n)::r,H,l=>if k=l then n else MD r H l
def cg (B:List (Nat×Nat×Nat)) (H:List (Nat×OB)):AC->AC
 | .own l _ _=> .own l (Adh B l) (MD B H l)
 |c=>c
def St.whole (B:List (Nat×Nat×Nat)) (s:St):St:=s.Gl (cg B s.heap)
def vA (B:List (Nat×Nat×Nat)) (H:List (Nat×OB)) (c:AC) (K:Prop):Prop:=match c with
 | .own l off len=>off=Adh B l/\len=MD B H l/\K
 |_=>K
def ah (B:List (Nat×Nat×Nat)) (H:List (Nat×OB)):List AC->Prop->Prop
 | [],K=>K
 |c::r,K=>vA B H c (ah B H r K)
def IQ (B:List (Nat×Nat×Nat)) (H:List (Nat×OB)) (c:AV) (K:Prop):Prop:=match c with
 | .at a=>vA B H a K
 | .agg cs=>ah B H cs K
 | .Wv _ _ _=>K
 | .Ih _=>False
def Wu (B:List (Nat×Nat×Nat)) (H:List (Nat×OB)):List AV->Prop->Prop
 | [],K=>K
 |c::r,K=>IQ B H c (Wu B H r K)
def fi (B:List (Nat×Nat×Nat)) (H:List (Nat×OB)):List (Nat×OB)->Prop->Prop
 | [],K=>K
 |p::r,K=>match p.2 with
  | .var _ vs=>ah B H vs (fi B H r K)
  |_=>fi B H r K
def xm (B:List (Nat×Nat×Nat)) (s:St) (K:Prop):Prop:=Wu B s.heap s.tmps (fi B s.heap s.heap K)
def AV.Sq:AV->Bool
 | .at (.data _ _ _)=>true
 |_=>false
def Hw (p:Nat->Bool):Nat->List AV->List Bool
 |_,[]=> []
 |i,v::r=>(v.Sq&&p i)::Hw p (i+1) r
def stays (live:Nat->List Nat) (c:Code) (t:Nat):Bool:=!(writes c).contains t&&Xk live c t
def Px:List Bool->List AV->List AV
 |true::f,_::r=> .undef::Px f r
 |false::f,v::r=>v::Px f r
 |_,l=>l
def Ra:List Bool->List AV->List AV->List AV
 |true::f,a::s,_::r=>a::Ra f s r
 |false::f,_::s,v::r=>v::Ra f s r
 |_,_,l=>l
def St.mask (fx:List Bool) (s:St):St:= {tmps:=Px fx s.tmps,heap:=s.heap}
def St.sx (fx:List Bool) (s0 s:St):St:= {tmps:=Ra fx s0.tmps s.tmps,heap:=s.heap}
def oz (c:AC) (k:AC->Prop):Prop:=match c with
 | .undef=>k .undef
 | .skip=>k .skip
 | .Hr=>k .Hr
 | .Ro=>k .Ro
 | .data fr τ x=>match fr with
  |true=>k (.data true τ x)
  |false=>k (.data false τ x)
 | .own l off len=>k (.own l off len)
 | .Du l i=>k (.Du l i)
 | .Fw l i=>k (.Fw l i)
 | .clo f c=>k (.clo f c)
 | .Gd l=>k (.Gd l)
 | .sub l i c=>k (.sub l i c)
 | .Ft l i c=>k (.Ft l i c)
def dC:List AC->(List AC->Prop)->Prop
 | [],k=>k []
 |c::r,k=>oz c λc'=>dC r λr'=>k (c'::r')
def vV (c:AV) (k:AV->Prop):Prop:=match c with
 | .at a=>oz a λa'=>k (.at a')
 | .agg cs=>dC cs λdr=>k (.agg dr)
 | .Wv fr τ x=>k (.Wv fr τ x)
 | .Ih l=>k (.Ih l)
def dD:List AV->(List AV->Prop)->Prop
 | [],k=>k []
 |c::r,k=>vV c λc'=>dD r λr'=>k (c'::r')
def vW (b:OB) (k:OB->Prop):Prop:=match b with
 | .arr fr tr e tid xs=>match fr,tr with
  |true,true=>k (.arr true true e tid xs)
  |true,false=>k (.arr true false e tid xs)
  |false,true=>k (.arr false true e tid xs)
  |false,false=>k (.arr false false e tid xs)
 | .Dg e tid xs=>k (.Dg e tid xs)
 | .var t vs=>dC vs λvs'=>k (.var t vs')
 | .Al e te rows out kp=>match out,kp with
  |none,none=>k (.Al e te rows none none)
  |none,some (l,n)=>k (.Al e te rows none (some (l,n)))
  |some i,none=>k (.Al e te rows (some i) none)
  |some i,some (l,n)=>k (.Al e te rows (some i) (some (l,n)))
 | .Qh v m=>k (.Qh v m)
def pB:List (Nat×OB)->(List (Nat×OB)->Prop)->Prop
 | [],k=>k []
 |(l,b)::r,k=>vW b λb'=>pB r λr'=>k ((l,b')::r')
def dE (w:WS) (k:WS->Prop):Prop:=dD w.st.tmps λt=>pB w.st.heap λh=>k {kn:=w.kn,st:= {tmps:=t,heap:=h} }
def lA (s:St) (k:St->Prop):Prop:=dD s.tmps λt=>pB s.heap λh=>k {tmps:=t,heap:=h}
def ff:List Bool->(List Bool->Prop)->Prop
 | [],k=>k []
 |true::r,k=>ff r λr'=>k (true::r')
 |false::r,k=>ff r λr'=>k (false::r')
theorem mN {c:AC} {k:AC->Prop} :oz c k↔k c:=by
 cases c<;>simp only [oz]
 split<;>rfl
theorem bu: ∀ {l:List AC} {k:List AC->Prop},dC l k↔k l
 | [],k=>Iff.rfl
 |c::r,k=>by simp only [dC];rw [mN,bu]
theorem yG {c:AV} {k:AV->Prop} :vV c k↔k c:=by
 cases c<;>simp only [vV]
 ·exact mN
 ·exact bu
theorem bw: ∀ {l:List AV} {k:List AV->Prop},dD l k↔k l
 | [],k=>Iff.rfl
 |c::r,k=>by simp only [dD];rw [yG,bw]
theorem yH {b:OB} {k:OB->Prop} :vW b k↔k b:=by
 cases b<;>simp only [vW]
 ·split<;>rfl
 ·exact bu
 ·split<;>rfl
theorem iC: ∀ {l:List (Nat×OB)} {k:List (Nat×OB)->Prop},pB l k↔k l
 | [],k=>Iff.rfl
 |(l,b)::r,k=>by simp only [pB];rw [yH,iC]
theorem LJ {s:St} {k:St->Prop} :lA s k=k s:=by
 unfold lA
 exact propext (by rw [bw,iC])
theorem iB: ∀ {l:List Bool} {k:List Bool->Prop},ff l k=k l
 | [],k=>rfl
 |true::r,k=>by simp only [ff];rw [iB]
 |false::r,k=>by simp only [ff];rw [iB]
theorem Sm {w:WS} {k:WS->Prop} :dE w k↔k w:=by
 unfold dE
 rw [bw,iC]
def Wy:AC->List (Nat×Nat)
 | .own _ off len=> [(off,len)]
 |_=> []
def Xa:AV->List (Nat×Nat)
 | .at a=>Wy a
 | .agg cs=>cs.flatMap Wy
 |_=> []
def iT:OB->List (Nat×Nat)
 | .var _ vs=>vs.flatMap Wy
 |_=> []
def HG (s:St):List (Nat×Nat):=s.tmps.flatMap Xa++s.heap.flatMap λp=>iT p.2
def eqW (s0 s:St):Prop:=HG s=HG s0/\Ea (eD s0 s) λv=>v=KH s0
def iz (ops:Array Oper):Nat->Array Bool->WS->(WS->Prop)->Prop
 |0,Aa,w,K=>match Region.ready .any ops Aa with
  | []=>K w
  |_::_=>False
 |f+1,Aa,w,K=>match Region.ready .any ops Aa with
  | []=>False
  |k::_=>Ea ops[k]? λo=>eF ops w o (λkk w'=>YE T Γ w' o kk) λw'=>iz ops f (Aa.setIfInBounds k true) w' K
def ye (P:List (Nat×Nat×AV×OB)) (ops:Array Oper):Nat->Array Bool->WS->(WS->Prop)->Prop
 |0,Aa,w,K=>match Region.ready .any ops Aa with
  | []=>K w
  |_::_=>False
 |f+1,Aa,w,K=>match Region.ready .any ops Aa with
  | []=>False
  |i::r=>QD (i::r) λk=>Ea ops[k]? λo=>match FD P Γ ops w.st o k with
   |true=>eF ops w o (λkk w'=>YE T Γ w' o kk) λw'=>ye P ops f (Aa.setIfInBounds k true) w' K
   |false=>False
def uZ (ops:Array Oper) (E:List Nat) (Aa:Array Bool) (w:WS):List Nat->Prop->Prop
 | [],K=>K
 |r::R,K=>match oN ops E Aa r with
  |true=>uZ ops E Aa w R K
  |false=>(mS T Γ ops [r] w λw'=>Ea ((ops[r]?).bind (·.dst)) λd=>match Nat.blt d w.st.tmps.length with
    |true=>eqW ⟨[w.st.get d],[]⟩ ⟨[w'.st.get d],[]⟩
    |false=>False)/\uZ ops E Aa w R K
def yf (ops:Array Oper) (E:List Nat):Nat->Array Bool->WS->(WS->Prop)->Prop
 |0,Aa,w,K=>uZ T Γ ops E Aa w E (match Region.ready .any ops Aa with
  | []=>K w
  |_::_=>False)
 |f+1,Aa,w,K=>uZ T Γ ops E Aa w E (match Region.ready .any ops Aa with
  | []=>False
  |i::r=>QD (i::r) λk=>Ea ops[k]? λo=>eF ops w o (λkk w'=>YE T Γ w' o kk) λw'=>yf ops E f (Aa.setIfInBounds k true) w' K)
def GB (E:List Nat) (n:Nat) (L0:Array Bool) (ops:Array Oper) (w:WS) (K:WS->Prop):Prop:=
 match fG ops E L0&&(Nat.ble E.length n&&Nat.ble (n-E.length) 10) with
 |true=>mS T Γ ops E w λw1=>dE w1 λw1=>iz T Γ ops (n-E.length) (Cq E L0) w1 λw0=>dE w0 λw0=>K w0/\yf T Γ ops E (n-E.length) (Cq E L0) w1 λw2=>eqW w0.st w2.st
 |false=>False
def vH (P:List (Nat×Nat×AV×OB)) (n:Nat) (L0:Array Bool) (ops:Array Oper) (w:WS) (K:WS->Prop):Prop:=
 match (Vc (P.map (·.1))&&Vc (P.map (·.2.1)))&&((P.all λa=>lP a.2.1 w.st)&&(Nat.ble P.length n&&Nat.ble (n-P.length) 10)) with
 |true=>SC T Γ ops (P.map (·.1)) w λw1=>dE w1 λw1=>iz T Γ ops (n-P.length) (Cq (P.map (·.1)) L0) w1 λw0=>dE w0 λw0=>K w0/\ye T Γ P ops (n-P.length) (Cq (P.map (·.1)) L0) w1 λw2=>eqW w0.st w2.st
 |false=>GB T Γ (lW ops (List.range ops.size) L0) n L0 ops w K
def wZ (ops:Array Oper) (draw:Bool) (w:WS) (K:WS->Prop):Prop:=
 match draw with
 |true=>match fE false Γ ops with
  |true=>mS T Γ ops (fh false Γ ops) w λw'=>SC T Γ ops (Fg false Γ ops) w' K
  |false=>match fE true Γ ops with
   |true=>mS T Γ ops (fh true Γ ops) w λw'=>SC T Γ ops (Fg true Γ ops) w' K
   |false=>match Region.noSelect ops&&Nat.ble (ops.size-(Is ops).length) 8 with
    |true=>mS T Γ ops (Is ops) w λw'=>match fb false ops with
     |true=>KV T Γ ops (ops.size-(Is ops).length) (Cq (Is ops) (Array.replicate ops.size false)) w' K
     |false=>iz T Γ ops (ops.size-(Is ops).length) (Cq (Is ops) (Array.replicate ops.size false)) w' λw0=>dE w0 λw0=>K w0/\KV T Γ ops (ops.size-(Is ops).length) (Cq (Is ops) (Array.replicate ops.size false)) w' λw1=>eqW w0.st w1.st
    |false=>match Region.noSelect ops with
     |true=>mS T Γ ops (Is ops) w λw'=>vH T Γ (Ua T ops (Cq (Is ops) (Array.replicate ops.size false))) (ops.size-(Is ops).length) (Cq (Is ops) (Array.replicate ops.size false)) ops w' K
     |false=>False
 |false=>Adj T Γ ops ops.toList w K
def ao (live:Nat->List Nat):Code->WS->(Ha->WS->Prop)->Prop
 | .skip,w,Q=>Q .normal w
 | .label _,w,Q=>Q .normal w
 | .region _ ops draw,w,Q=>wZ T (wY Γ draw) ops draw {w with st:=w.st.ju ops} λw'=>dE w' (Q .normal)
 | .seq a b,w,Q=>ao live a w λe w'=>match e with
  | .normal=>ao live b w' Q
  | .exit id=>Q (.exit id) w'
  | .ret=>Q .ret w'
 | .cond c a b,w,Q=>brO w c λt w'=>match t with
  |true=>ao live a w' Q
  |false=>ao live b w' Q
 | .block id c,w,Q=>ao live c w λe w'=>match e with
  | .normal=>Q .normal w'
  | .exit LY=>if LY=id then Q .normal w' else Q (.exit LY) w'
  | .ret=>Q .ret w'
 | .loop c,w,Q=>
  lA (w.st.clean (live (Ci c))) λs0=>ff (Hw (stays live c) 0 s0.tmps) λfx=>lA (s0.mask fx) λm=>
  xm (Uw T.parts s0.tmps) s0 (Bk (V:=stV m) (λv k=>lA ((St.sx fx s0 (eC m v)).whole (Uw T.parts s0.tmps)) λsb=>ao live c ⟨[],sb⟩ λe w'=>match e with
   | .normal=>lA (w'.st.clean (live (Ci c))) λs1=>xm (Uw T.parts s0.tmps) s1 (Ea (eD m (s1.mask fx)) k)
   | .exit id=>Q (.exit id) w'
   | .ret=>Q .ret w') (KH m))
 | .exit id,w,Q=>Q (.exit id) w
 | .ret,w,Q=>Q .ret w
 |_,_,_=>False
def Abh (s:Spec) (fn:Func) (P:s.res.den->Prop) (st:St):Prop:=
 Ea (jE T s fn st) λp=>match p.1||!s.fresh with|true=>P p.2|false=>False
def dQ (st:St) (K:Prop):List AC->List (Bool×CK)->Prop
 | .own l off len::as,(true,_)::r=>match st.at l with
  |some (.arr _ _ _ _ xs)=>(off=0/\len=xs.length)/\dQ st K as r
  |some (.Dg _ _ xs)=>(off=0/\len=xs.length)/\dQ st K as r
  |_=>False
 |_::as,(false,_)::r=>dQ st K as r
 |_,_=>K
def lR (st:St):(cs:List CK)->List AC->(CKs.den cs->List Nat->Prop)->Prop
 | [],[],K=>K () []
 | .Al e te _::r, .own l off len::as,K=>match st.at l with
  |some (.Al e' Mc rows none _)=>if h:e'=e/\Mc=te then (off=0/\len=rows.length)/\lR st r as λy t=>K ((h.1▸rows:List (List e.den)),y) (l::t) else False
  |_=>False
 |c::r,a::as,K=>Ea (gg st c a) λp=>lR st r as λy t=>K (p.1,y) (p.2++t)
 |_,_,_=>False
def wu (st:St) (n:Nat) (as:List AC):List (Nat×Nat)->Prop->Prop
 | [],K=>K
 |(k,j)::r,K=>match as[j]? with
  |some (.own l _ _)=>match st.at l with
   |some (.Al _ _ _ _ (some p))=>match Nat.beq p.1 (Bu false k)&&Nat.blt k 1000 with
    |true=>n<=p.2/\wu st n as r K
    |false=>False
   |_=>False
  |_=>False
def qI (s:MSpec) (fn:Func) (x:Ins.den s.ins) (st:St) (cs:List AC) (P:CKs.den s.outs×IOs.den s.ins->Prop):Prop:=
 Ea (a8 T st fn.results.toList) λl=>Ea (GH s st l) λp=>lR st s.outs (cs++p.1) λr ls=>Ea (Jx st 0 s.ins) λo=>
  match Vc (p.2++ls++Ky 0 s.ins)&&Nat.blt s.ins.length 1000&&Nat.blt s.outs.length 1000&&s.TB with
  |true=>wu st (s.Cn x) (cs++p.1) s.keeps (P (r,o))
  |false=>False
def KE (s:MSpec) (fn:Func) (x:Ins.den s.ins) (st:St) (P:CKs.den s.outs×IOs.den s.ins->Prop):Prop:=
 match s.ptr with
 |none=>qI T s fn x st [] P
 |some p=>match st.at Kg with
  |some (.var tid vs)=>match Nat.beq tid p.1&&Nat.beq vs.length p.2 with
   |true=>Ea (Fb 0 s.ins vs) λcs=>dQ st (qI T s fn x st cs P) vs s.ins
   |false=>False
  |_=>False
@[irreducible] def fnMW (s:MSpec) (fn:Func) (x:Ins.den s.ins) (P:CKs.den s.outs×IOs.den s.ins->Prop):Prop:=
 match Nat.blt s.ins.length 1000&&wT s with
 |false=>False
 |true=>Ea fn.body λc=>ao T Γ (wA T.marks fn c) c {kn:= [],st:= {tmps:=Vm s (Xj 0 s.ins x)++List.replicate (fn.ntmps-(Vm s (Xj 0 s.ins x)).length) .undef,heap:=mW s x} } λe w=>match e with
  | .normal=>KE T s fn x w.st P
  | .ret=>KE T s fn x w.st P
  | .exit _=>False
@[irreducible] def fnW (s:Spec) (fn:Func) (x:s.arg.den) (P:s.res.den->Prop):Prop:=
 Ea fn.body λc=>ao T Γ (wA T.marks fn c) c {kn:= [],st:= {tmps:=Np s.arg x++List.replicate (fn.ntmps-(Np s.arg x).length) .undef,heap:= []} } λe w=>match e with
  | .normal=>Abh T s fn P w.st
  | .ret=>Abh T s fn P w.st
  | .exit _=>False
end Go.Proofs.YtfolipnappekaaaGreat
