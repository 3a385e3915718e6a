/-
  Part 31 of the proof that the statement FnExactProvesNoSolutionWithin holds.
-/
import Derived.Test.YtfolipnappekaaaGreatCProvesNoSolutionWithin29
namespace Go.Proofs.YtfolipnappekaaaGreat
open Go.RowKit
inductive Br (b:Bool) (A B:Prop):Prop
 |mk (t:b=true->A) (f:b=false->B)
inductive Bk {V:Type} (step:V->(V->Prop)->Prop) (v0:V):Prop
 |mk (I:V->Prop) (μ:V->Nat) (h0:I v0) (h: ∀v,I v->step v (λv'=>I v'/\μ v'<μ v))
structure WS where
 kn:List (Nat×Bool)
 st:St
def sB:List (Nat×Bool)->Nat->Option Bool
 | [],_=>none
 |(k,b)::r,t=>if k=t then some b else sB r t
def uw:List (Nat×Bool)->Nat->List (Nat×Bool)
 | [],_=> []
 |(k,b)::r,t=>if k=t then uw r t else (k,b)::uw r t
def WS.put (w:WS) (dst:Option Tmp) (v:AV):WS:=
 match dst with
 |some d=> {kn:=uw w.kn d,st:=w.st.put (some d) v}
 |none=>w
def Ra (kn:List (Nat×Bool)):Operand->Option Bool
 | .const (.bool b)=>some b
 | .tmp t=>sB kn t
 |_=>none
def Dp (kn:List (Nat×Bool)) (o:Oper):Option Bool:=
 match o.op with
 | .assign x=>Ra kn x
 | .move x=>Ra kn x
 | .unOp .not _ x=>(Ra kn x).map (!·)
 | .pick c a b=>match Ra kn c with
  |some true=>Ra kn a
  |some false=>Ra kn b
  |none=>none
 |_=>none
def WS.sT (w:WS) (o:Oper) (v:AV):WS:=
 match o.dst,Dp w.kn o with
 |some d,some b=>match (w.st.put (some d) v).get d with
  | .at (.data _ .bool _)=> {kn:=(d,b)::uw w.kn d,st:=w.st.put (some d) v}
  |_=>w.put (some d) v
 |dst,_=>w.put dst v
def WS.to (w:WS) (st:St):WS:= {kn:=w.kn,st:=st}
def brT (w:WS) (t:Nat) (K:Bool->WS->Prop):Prop:=
 match sB w.kn t with
 |some b=>K b w
 |none=>match w.st.get t with
  | .at (.data _ .bool b)=>Br b (K true {kn:=(t,true)::w.kn,st:=w.st}) (K false {kn:=(t,false)::w.kn,st:=w.st})
  |_=>False
def brO (w:WS) (c:Operand) (K:Bool->WS->Prop):Prop:=
 match c with
 | .tmp t=>brT w t K
 | .const (.bool b)=>K b w
 |_=>False
def Dz {α:Type} (o:Option α) (K:α->Prop):Prop:=match o with|some x=>K x|none=>False
def Aee (T:Tab) (st:St) (t:TypeId) (x:AV) (l h:Int):Option AV:=
 match x with
 | .at (.data fr (.slice e) xs)=>if (T.elem t).bind T.ty=some e then some (.at (.data fr (.slice e) ((xs.take h.toNat).drop l.toNat))) else none
 | .at (.own k off _)=>match st.at k with
  |some (.arr _ _ e tid _)=>if T.elem t=some tid/\T.ty tid=some e then some (.at (.own k (off+l.toNat) (h.toNat-l.toNat))) else none
  |_=>none
 | .at (.data _ .str s)=>if T.ty t=some .str then some (.at (.data true .str (s.extract l.toNat h.toNat))) else none
 |_=>none
variable (T:Tab) (Γ:Env)
def Abp (op:BinOp) (t:TypeId) (x y:AV) (K:AV->Prop):Prop:=
 match op,x,y with
 | .quo, .at (.data _ (.int k) a), .at (.data _ (.int k') b)=>if k=k' then b≠0/\K (.at (.data true (.int k) (k.wrap (a.tdiv b)))) else False
 | .rem, .at (.data _ (.int k) a), .at (.data _ (.int k') b)=>if k=k' then b≠0/\K (.at (.data true (.int k) (a.tmod b))) else False
 | .shl, .at (.data _ (.int k) a), .at (.data _ (.int _) b)=> ¬b<0/\K (.at (.data true (.int k) (k.wrap (a*2^(min b.toNat k.bits)))))
 | .shr, .at (.data _ (.int k) a), .at (.data _ (.int _) b)=> ¬b<0/\K (.at (.data true (.int k) (a.fdiv (2^(min b.toNat k.bits)))))
 | .add, .at (.data _ .str a), .at (.data _ .str b)=>a.size+b.size<=4294967296/\K (.at (.data true .str (a++b)))
 |op,x,y=>Dz (Oh T op t x y) K
def TE (st:St) (t:TypeId) (p:AV) (K:AV->Prop):Prop:=
 match p with
 | .at (.Fy l i)=>Dz (T.ty t) λτ=>match st.at l with
  |some (.arr fr _ e _ xs)=>if e=τ then ∃x,xs[i]?=some x/\K (.at (.data (fr||e.flat) e x)) else False
  |some (.Dg e _ xs)=>if e=τ then ∃x,xs[i]?=some x/\K (if e.Ac then .agg (cc l i 0 e x) else .at ((cc l i 0 e x).headD .undef)) else False
  |some (.Al _ _ _ none _)=>if τ.Ac then False else K (.at (.sub l i 0))
  |_=>False
 | .at (.data fr (.optr Jr) x)=>Dz (T.ty t) λτ=>if Jr=τ then ∃y,x=some y/\K (.at (.data (fr||Jr.flat) Jr y)) else False
 |p=>Dz (Lg T st t p) K
def iF (s:TypeId) (x:AV) (f:Nat) (K:AV->Prop):Prop:=
 match x with
 | .at (.data fr (.optr τ) x)=> ∃y,x=some y/\Dz (Jk T s (.at (.data fr (.ptr τ) y)) f) K
 |x=>Dz (Jk T s x f) K
def uG (st:St) (x:Operand) (K:AV->Prop) (d:Option AV):Prop:=
 match st.ev x with
 | .at (.data fr (.optr τ) x)=> ∃y,x=some y/\K (.at (.data fr (.ptr τ) y))
 |_=>Dz d K
def GX (st:St) (t:TypeId) (x:AV) (lo hi:Option AV) (K:AV->Prop):Prop:=
 Dz (zw x) λn=>Dz (PS lo 0) λl=>Dz (PS hi n) λh=>(0<=l/\l<=h/\h<=n)/\Dz (Aee T st t x l h) K
def iR (st:St) (t:TypeId) (x i:AV) (K:AV->Prop):Prop:=
 match x,i with
 | .at (.data fr (.slice e) xs), .at (.data _ (.int _) n)=>if (T.elem t).bind T.ty=some e then ∃x,idx xs n=some x/\K (.at (.data fr (.ptr e) x)) else False
 | .at (.own l off len), .at (.data _ (.int _) n)=>match st.at l with
  |some (.arr _ _ e tid _)=>if T.elem t=some tid/\T.ty tid=some e then (0<=n/\n<len)/\K (.at (.Fy l (off+n.toNat))) else False
  |some (.Dg e tid _)=>if T.elem t=some tid/\T.ty tid=some e then (0<=n/\n<len)/\K (.at (.Fy l (off+n.toNat))) else False
  |some (.Al _ te _ _ _)=>if T.elem t=some te/\(T.ty te).map Ty.size=some 1 then (0<=n/\n<len)/\K (.at (.Fy l (off+n.toNat))) else False
  |_=>False
 | .at (.sub l i _), .at (.data _ (.int _) n)=>match st.at l with
  |some (.Al e _ rows none _)=>if ((T.elem t).bind T.ty).map Ty.size=some e.size then (0<=n/\n<(rows.getD i []).length)/\K (.at (.Fu l i n.toNat)) else False
  |_=>False
 |_,_=>False
def EP (t:TypeId) (x i:AV) (K:AV->Prop):Prop:=
 match x,i with
 | .at (.data _ .str s), .at (.data _ (.int _) n)=>if T.ty t=some .str then 0<=n/\ ∃b,s[n.toNat]?=some b/\K (.at (.data true (.int .u8) b.toNat)) else False
 |_,_=>False
def u5 (st:St) (f:FuncId) (args:List AV) (K:AV->Prop):Prop:=
 Dz (match Γ f with|some (.q s)=>some s|_=>none) λs=>match s.fresh||s.res.flat||args.all (·.settled) with
  |true=>Dz (Bt st s.arg args) λp=> ∃y,s.fn p.2=some y/\K (if s.Ct then .Xa (s.fresh||s.res.flat) s.res y else .at (.data (s.fresh||s.res.flat) s.res y))
  |false=>False
def DK (st:St) (v:AV) (args:List AV) (K:AV->Prop):Prop:=
 match v with
 | .at (.data fr (.clo f τ) x)=>match τ.chain with|true=>(match Nat.blt f 1000000000 with|true=>u5 Γ st f (args++Xg fr τ x) K|false=>u5 Γ st (f-1000000000) (Xg fr τ x++args) K)|false=>False
 | .at (.clo f Ca)=>u5 Γ st f (args++Ca.map λp=> .at (.Dt p.1 p.2)) K
 |_=>False
def qW (w:WS) (o:Oper) (K:AV->WS->Prop):Prop:=
 match o.op with
 | .pick c a b=>brO w c λt w'=>match t with|true=>K (w'.st.ev a) w'|false=>K (w'.st.ev b) w'
 | .load t a=>TE T w.st t (w.st.ev a) λv=>K v w
 | .binOp op t x y _=>Abp T op t (w.st.ev x) (w.st.ev y) λv=>K v w
 | .slice t x lo hi mx=>match mx with
  |none=>GX T w.st t (w.st.ev x) (lo.map w.st.ev) (hi.map w.st.ev) λv=>K v w
  |some _=>False
 | .indexAddr t x i=>iR T w.st t (m6 (w.st.ev x)) (w.st.ev i) λv=>K v w
 | .index t x i=>EP T t (w.st.ev x) (w.st.ev i) λv=>K v w
 | .call {callee:= .value (.func f),args, .. } =>u5 Γ w.st f (args.toList.map w.st.ev) λv=>K v w
 | .call {callee:= .value (.tmp t),args, .. } =>DK Γ w.st (w.st.get t) (args.toList.map w.st.ev) λv=>K v w
 | .fieldAddr s x f=>iF T s (w.st.ev x) f λv=>K v w
 | .nilCheck x=>uG w.st x (λv=>K v w) (Cm T Γ w.st o)
 |_=>Dz (Cm T Γ w.st o) λv=>K v w
def HQ (st:St) (t:TypeId) (p v:AV) (K:St->Prop):Prop:=
 match p with
 | .at (.Fy l j)=>Dz (T.ty t) λτ=>Dz (settle st v) λq=>match q.2.at l with
  |some (.arr fr tr e tid xs)=>Dz (Cv q.2 τ q.1) λu=>if h:τ=e then j<xs.length/\K (q.2.Ft l (.arr (fr&&u.1) (tr&&(Oc st v&&e.tree)) e tid (xs.set j (h▸u.2)))) else False
  |_=>False
 |p=>Dz (Pr T st t p v) K
def KS (st:St) (t:TypeId) (p v:AV) (K:St->Prop):Prop:=
 match p with
 | .at (.Fu l i j)=>Dz (T.ty t) λτ=>Dz (settle st v) λq=>match q.2.at l with
  |some (.Al e te rows none kp)=>Dz (Cv q.2 τ q.1) λu=>if h:τ=e then K (q.2.Ft l (.Al e te (rows.set i ((rows.getD i []).set j (h▸u.2))) none kp)) else False
  |_=>False
 | .at (.Fy l j)=>Dz (T.ty t) λτ=>match st.at l,v with
  |some (.Al e te rows out kp), .at (.own m off len)=>match st.at m with
   |some (.arr _ _ e' _ xs)=>if h:e'=e/\(Nat.blt l Am&&(!Nat.beq m l&&!τ.Ac))=true then
     off=0/\len=xs.length/\(match out with|none=>True|some i=>i=j)/\K (Og st l j m e te rows (h.1▸xs) (Xr j kp))
    else False
   |_=>False
  |_,_=>False
 |_=>False
def xz (st:St) (t:TypeId) (p v:AV) (K:St->Prop):Prop:=match JL st p with
 |true=>KS T st t p v K
 |false=>HQ T st t p v K
def jt (st:St) (dst:Nat) (t:TypeId) (x y:Operand) (K:AV->St->Prop):Prop:=
 Dz (T.elem t) λte=>Dz (T.ty te) λe=>Dz (settle st (st.ev y)) λq=>Dz (Cv q.2 (.slice e) q.1) λu=>match q.2.ev x with
  | .at .Hr=>match Nat.blt dst Am with
   |true=>List.length u.2<=Be/\K (.at (.own dst 0 (List.length u.2))) ((q.2.new dst (.arr (T.pK||e.flat) T.xK e te [])).new dst (.arr ((T.pK||e.flat)&&(u.1||e.flat)) (T.xK&&(e.flat||(Oc st (st.ev y)&&e.tree))) e te u.2))
   |false=>False
  | .at (.own l off len)=>match q.2.at l with
   |some (.arr fr tr e' tid xs)=>if h:e'=e/\tid=te/\Nat.blt l Am=true then
     off=0/\len=xs.length/\len+List.length u.2<=Be/\K (.at (.own l 0 (List.length ((h.1▸xs:List e.den)++u.2)))) (q.2.new l (.arr (fr&&(u.1||e.flat)) (tr&&(e.flat||(Oc st (st.ev y)&&e.tree))) e te ((h.1▸xs:List e.den)++u.2)))
    else False
   |_=>False
  |_=>False
def pb (st:St) (dst:Nat) (t:TypeId) (x y:Operand) (K:AV->St->Prop):Prop:=
 match x with
 | .tmp tx=>match st.get tx with
  | .at (.sub l i _)=>Dz (T.elem t) λtid=>match st.at l with
   |some (.Al e te rows none kp)=>match Nat.blt l Am&&(Nat.blt dst Am&&!Nat.beq dst l) with
    |true=>jt T ((Lf st l i dst e te tid rows kp).put (some tx) (.at (.own dst 0 (rows.getD i []).length))) dst t x y K
    |false=>False
   |_=>False
  |_=>jt T st dst t x y K
 |_=>jt T st dst t x y K
def TK (st:St) (dst:Nat) (t:TypeId) (l c:AV) (K:AV->St->Prop):Prop:=
 match l,c with
 | .at (.data _ (.int _) n), .at (.data _ (.int _) m)=>Dz (T.elem t) λte=>Dz (T.ty te) λe=>match cq e&&Nat.blt dst Am with
  |true=>(0<=n/\n<Be+1)/\n=m/\K (.at (.own dst 0 (List.replicate n.toNat e.zero).length)) (st.new dst (.arr (T.pK||e.flat) (T.xK&&e.tree) e te (List.replicate n.toNat e.zero)))
  |false=>False
 |_,_=>False
def FE (st:St) (dst:Nat) (t:TypeId) (l c:AV) (K:AV->St->Prop):Prop:=
 match aG T t with
 |none=>TK T st dst t l c K
 |some p=>match l,c with
  | .at (.data _ (.int _) n), .at (.data _ (.int _) m)=>match Nat.blt dst Am with
   |true=>(0<=n/\n<Be+1)/\n=m/\K (.at (.own dst 0 (List.replicate n.toNat ([]:List p.2.den)).length)) (Lz st dst dst (.Al p.2 p.1 (List.replicate n.toNat []) none none))
   |false=>False
  |_,_=>False
def bu (st:St) (dst:Nat) (t:TypeId) (len:Nat) (parts:Array (Nat×Operand)) (K:AV->St->Prop):Prop:=
 match aG T t with
 |none=>Dz (Hv T st dst t len parts) λr=>K r.1 r.2
 |some p=>match parts.toList with
  | [(0,x)]=>match st.ev x with
   | .at (.own m off ln)=>match st.at m with
    |some (.arr _ _ e' _ xs)=>if h:e'=p.2/\(Nat.beq len 1&&(Nat.blt dst Am&&Nat.blt m Am))=true then off=0/\ln=xs.length/\K (.at (.own dst 0 1)) (Lz st dst m (.Al p.2 p.1 [h.1▸xs] none none)) else False
    |_=>False
   |_=>False
  |_=>False
def pd (st:St) (dst:Nat) (t:TypeId) (x y:Operand) (K:AV->St->Prop):Prop:=
 match aG T t with
 |none=>pb T st dst t x y K
 |some p=>match st.ev x,st.ev y with
  | .at (.own l off len), .at (.own m TU qh)=>match st.at l,st.at m with
   |some (.Al e1 te1 A none _),some (.Al e2 tw B none _)=>
    if h:(e1=p.2/\e2=p.2)/\(decide (te1=p.1)&&decide (tw=p.1)&&(Nat.blt l Am&&(Nat.blt m Am&&!Nat.beq m l)))=true then
     (off=0/\len=A.length)/\(TU=0/\qh=B.length)/\0<B.length/\A.length+B.length<=Be/\
      K (.at (.own l 0 (List.length ((h.1.1▸A:List (List p.2.den))++(h.1.2▸B:List (List p.2.den)))))) (Lz st l m (.Al p.2 p.1 ((h.1.1▸A:List (List p.2.den))++(h.1.2▸B:List (List p.2.den))) none none))
    else False
   |_,_=>False
  |_,_=>False
def cj (st:St) (io:Bool) (k:Nat):(c:CK)->AC->(c.den->List (Nat×Loc)->Prop)->Prop
 | .Dm τ, .own l off len,K=>Dz (Bp st τ (.own l off len)) λp=>K p.2 [(Bu false k, .view l)]
 | .Dm τ, .clo g Ca,K=>match Yg st (Ca.map (·.1))&&!τ.Ac with
  |true=>Dz (Fp st τ (.clo g Ca)) λp=>K p.2 (views k (Ca.map (·.1)))
  |false=>False
 | .Dm τ, .Dt l i,K=>match Yg st [l]&&!τ.Ac with
  |true=>Dz (Fp st τ (.Dt l i)) λp=>K p.2 (views k [l])
  |false=>False
 | .Dm τ, .sub l i c,K=>Dz (Bp st τ (.sub l i c)) λp=>K p.2 [(Bu false k, .view l)]
 | .Dm τ,a,K=>match τ.flat||a.settled with
  |true=>Dz (Bp st τ a) λp=>K p.2 []
  |false=>False
 | .row e te, .own l off len,K=>match st.at l with
  |some (.arr _ _ e' Mf xs)=>if h:e'=e/\Mf=te then off=0/\len=xs.length/\K (h.1▸xs:List e.den) [(Bu io k, .row l)] else False
  |_=>False
 | .row e _, .sub l i c,K=>match st.at l with
  |some (.Dg e' _ xs)=>if h:e'= .slice e/\e.flat=true/\io=true/\c=0 then ∃y,xs[i]?=some y/\K (h.1▸y:(Ty.slice e).den) [(Bu io k, .sub l i c)] else False
  |_=>False
 | .row _ _, .Hr,K=>K [] []
 | .Du e te, .own l off len,K=>match st.at l with
  |some (.Dg e' Mf xs)=>if h:e'=e/\Mf=te then off=0/\len=xs.length/\K (h.1▸xs:List e.den) [(Bu io k, .row l)] else False
  |_=>False
 | .Du e _, .sub l i c,K=>match st.at l with
  |some (.Dg e' _ xs)=>if h:e'= .slice e/\io=true/\c=0 then ∃y,xs[i]?=some y/\K (h.1▸y:(Ty.slice e).den) [(Bu io k, .sub l i c)] else False
  |_=>False
 | .Du _ _, .Hr,K=>K [] []
 | .part e te, .own l off len,K=>match st.at l with
  |some (.arr _ _ e' Mf xs)=>if h:e'=e/\Mf=te/\e.flat=true/\io=true then K ((h.1▸xs:List e.den),off,len) [(Bu io k, .row l)] else False
  |_=>False
 | .Al e te _, .own l off len,K=>match st.at l with
  |some (.Al e' Mf rows none _)=>if h:e'=e/\Mf=te/\io=false then off=0/\len=rows.length/\K (h.1▸rows:List (List e.den)) [(Bu io k, .row l)] else False
  |_=>False
 |_,_,_=>False
def xJ (st:St):(k:Nat)->(cs:List (Bool×CK))->List AC->(Ins.den cs->List (Nat×Loc)->Prop)->Prop
 |_,[],[],K=>K () []
 |k,p::r,a::as,K=>cj st p.1 k p.2 a λx t1=>xJ st (k+1) r as λy t2=>K (x,y) (t1++t2)
 |_,_,_,_=>False
def nA (st:St):(c:CK)->c.den->AC->(St->Prop)->Prop
 | .row e _,ys, .own l _ len,K=>match st.at l with
  |some (.arr fr tr e' te xs)=>if h:e=e' then (List.length ys=len/\xs.length=len)/\K (st.Ft l (.arr (fr&&e'.flat) (tr&&e'.flat) e' te (h▸ys))) else False
  |_=>False
 | .Du e _,ys, .own l _ len,K=>match st.at l with
  |some (.Dg e' te xs)=>if h:e=e' then (List.length ys=len/\xs.length=len)/\K (st.Ft l (.Dg e' te (h▸ys))) else False
  |_=>False
 | .row e _,ys, .sub l i _,K=>match st.at l with
  |some (.Dg e' te xs)=>if h: .slice e=e' then ∃y,xs[i]?=some y/\List.length ys=List.length (h▸y:(Ty.slice e).den)/\K (st.Ft l (.Dg e' te (xs.set i (h▸(ys:(Ty.slice e).den))))) else False
  |_=>False
 | .Du e _,ys, .sub l i _,K=>match st.at l with
  |some (.Dg e' te xs)=>if h: .slice e=e' then ∃y,xs[i]?=some y/\List.length ys=List.length (h▸y:(Ty.slice e).den)/\K (st.Ft l (.Dg e' te (xs.set i (h▸(ys:(Ty.slice e).den))))) else False
  |_=>False
 |_,_, .Hr,K=>K st
 |_,_,_,_=>False
def UH (st:St) (e:Ty) (ys:List e.den):AC->(St->Prop)->Prop
 | .own l _ _,K=>match st.at l with
  |some (.arr fr tr e' te xs)=>if h:e=e' then List.length ys=xs.length/\K (st.Ft l (.arr fr tr e' te (h▸ys))) else False
  |_=>False
 |_,_=>False
def eh:(cs:List (Bool×CK))->IOs.den cs->List AC->St->(St->Prop)->Prop
 | [],_,_,st,K=>K st
 |(true, .Dm _)::r,x,_::as,st,K=>eh r x as st K
 |(true, .row e te)::r,x,a::as,st,K=>nA st (.row e te) x.1 a λst'=>eh r x.2 as st' K
 |(true, .Du e te)::r,x,a::as,st,K=>nA st (.Du e te) x.1 a λst'=>eh r x.2 as st' K
 |(true, .part e _)::r,x,a::as,st,K=>UH st e x.1 a λst'=>eh r x.2 as st' K
 |(true, .Al _ _ _)::r,x,_::as,st,K=>eh r x as st K
 |(false,_)::r,x,_::as,st,K=>eh r x as st K
 |_,_,_,_,_=>False
def rI (H:List (Nat×OB)) (ls:List Nat) (n:Nat):List AV->Prop->Prop
 | [],K=>K
 | .at (.sub l i _)::r,K=>match ls.contains l with
  |true=>(i<n/\i<oJ H l)/\rI H ls n r K
  |false=>rI H ls n r K
 |_::r,K=>rI H ls n r K
def DJ (st:St) (dst:Option Nat) (s:MSpec) (args:List AV) (K:AV->St->Prop):Prop:=
 Dz (KL st s args) λq=>Dz (ungroup s.Eh q.2.2) λld=>xJ st 0 s.ins (q.2.1++ld) λx tks=>
  match Vg (tks.map λt=>t.2.Ro)&&wD (Nd s tks (dst.getD 0)) (s.outs.length+(j7 s (dst.getD 0)).length)&&Nat.blt s.outs.length 1000&&Nat.blt s.ins.length 1000&&(Qw s.ins q.2.1&&q.1.all λl=>!((tks.map λt=>t.2.Ro)++Nd s tks (dst.getD 0)).contains l) with
  |true=> ∃p,s.fn x=some p/\eh s.ins p.2 (q.2.1++ld) st λst1=>Dz (YX s (dst.getD 0) ((Xv (Bz (Nd s tks (dst.getD 0))) 0 s.outs p.1).drop s.Vr)) λv=>
    rI (iz st st1 (dst.getD 0) s q.1 tks p.1).heap (Xq st.heap (Nd s tks (dst.getD 0)) tks s.keeps) (s.Cn x) st.tmps
     (K v (iS st (iz st st1 (dst.getD 0) s q.1 tks p.1) (Xq st.heap (Nd s tks (dst.getD 0)) tks s.keeps) (s.Cn x)))
  |false=>False
def YO (w:WS) (o:Oper) (K:AV->WS->Prop):Prop:=
 match o.op with
 | .store t p x=>xz T w.st t (w.st.ev p) (w.st.ev x) λs=>K .undef (w.to s)
 | .makeSlice t l c=>Dz o.dst λd=>FE T w.st d t (w.st.ev l) (w.st.ev c) λv s=>K v (w.to s)
 | .call {callee:= .builtin .append,args,argTypes} =>match o.dst,args.toList,argTypes.toList with
  |some d,[x,y],[t,t']=>if t=t' then pd T w.st d t x y λv s=>K v (w.to s) else False
  |_,_,_=>False
 | .assign _=>Dz (evalOp T Γ w.st o) λr=>K r.1 (w.to r.2)
 | .alloc _=>Dz (evalOp T Γ w.st o) λr=>K r.1 (w.to r.2)
 | .box _ _=>Dz (evalOp T Γ w.st o) λr=>K r.1 (w.to r.2)
 | .buildSlice t len parts=>Dz o.dst λd=>bu T w.st d t len parts λv s=>K v (w.to s)
 | .build _ _=>Dz (evalOp T Γ w.st o) λr=>K r.1 (w.to r.2)
 | .makeMap _ _=>Dz (evalOp T Γ w.st o) λr=>K r.1 (w.to r.2)
 | .mapUpdate _ _ _ _=>Dz (evalOp T Γ w.st o) λr=>K r.1 (w.to r.2)
 | .insert _ _ _ _=>Dz (evalOp T Γ w.st o) λr=>K r.1 (w.to r.2)
 | .call {callee:= .builtin .copy, .. } =>Dz (evalOp T Γ w.st o) λr=>K r.1 (w.to r.2)
 | .call {callee:= .builtin .clear, .. } =>Dz (evalOp T Γ w.st o) λr=>K r.1 (w.to r.2)
 | .call {callee:= .value (.func f),args, .. } =>match Γ f with
  |some (.m s)=>DJ w.st o.dst s (args.toList.map w.st.ev) λv s'=>K v (w.to s')
  |some (.q s)=>match bN s (args.toList.map w.st.ev) with
   |true=>Dz (Kg args.toList w.st) λst1=>qW T Γ (w.to st1) o K
   |false=>qW T Γ w o K
  |_=>qW T Γ w o K
 |_=>qW T Γ w o K
def AV.SZ:AV->Bool
 | .at .skip=>true
 |_=>false
def bW (w:WS) (o:Oper) (K:AV->WS->Prop):Prop:=
 match o.op with
 | .buildSlice t len parts=>Dz (Xh T w.st t len parts) λv=>K v w
 | .build t parts=>Dz (Sk T w.st t parts) λv=>K v w
 |_=>qW T Γ w o K
def eK (ops:Array Oper) (w:WS) (o:Oper) (run:(AV->WS->Prop)->WS->Prop) (K:WS->Prop):Prop:=
 match o.guard with
 |none=>run (λv w'=>K (w'.sT o v)) w
 |some (j,want)=>Dz ((ops[j]?).bind (·.dst)) λt=>match (w.st.get t).SZ with
  |true=>K (w.put o.dst (.at .skip))
  |false=>brT w t λb w'=>match b,want with
   |true,true=>run (λv nR=>K (nR.sT o v)) w'
   |false,false=>run (λv nR=>K (nR.sT o v)) w'
   |_,_=>K (w'.put o.dst (.at .skip))
def Ads (ops:Array Oper):List Oper->WS->(WS->Prop)->Prop
 | [],w,K=>K w
 |o::r,w,K=>eK ops w o (λk w'=>YO T Γ w' o k) λw'=>Ads ops r w' K
def SN (ops:Array Oper):List Nat->WS->(WS->Prop)->Prop
 | [],w,K=>K w
 |i::r,w,K=>Dz ops[i]? λo=>eK ops w o (λk w'=>YO T Γ w' o k) λw'=>SN ops r w' K
def nc (ops:Array Oper):List Nat->WS->(WS->Prop)->Prop
 | [],w,K=>K w
 |i::r,w,K=>Dz ops[i]? λo=>eK ops w o (λk w'=>bW T Γ w' o k) λw'=>nc ops r w' K
def QN:List Nat->(Nat->Prop)->Prop
 | [],_=>True
 | [i],P=>P i
 |i::j::r,P=>P i/\QN (j::r) P
def LH (ops:Array Oper):Nat->Array Bool->WS->(WS->Prop)->Prop
 |0,Aa,w,K=>match Region.ready .any ops Aa with
  | []=>K w
  |_::_=>False
 |f+1,Aa,w,K=>match Region.ready .any ops Aa with
  | []=>False
  |i::r=>QN (i::r) λk=>Dz ops[k]? λo=>eK ops w o (λkk w'=>YO T Γ w' o kk) λw'=>LH ops f (Aa.setIfInBounds k true) w' K
def acV:AC->Type->Type
 | .data _ τ _,R=>τ.den×R
 | .sub _ _ _,R=>Nat×R
 | .Fy _ _,R=>Nat×R
 | .Fu _ _ _,R=>Nat×Nat×R
 |_,R=>R
def CY:List AC->Type->Type
 | [],R=>R
 |c::r,R=>acV c (CY r R)
def avV:AV->Type->Type
 | .at a,R=>acV a R
 | .agg cs,R=>CY cs R
 | .Xa _ τ _,R=>τ.den×R
 | .Ih _,R=>R
def obV:OB->Type->Type
 | .arr _ _ e _ _,R=>List e.den×R
 | .Dg e _ _,R=>List e.den×R
 | .var _ vs,R=>CY vs R
 | .Al e _ _ _ none,R=>List (List e.den)×R
 | .Al e _ _ _ (some _),R=>List (List e.den)×(Nat×R)
 | .Qi v _,R=>(ByteArray->Option v.den)×R
def nP:List AV->Type->Type
 | [],R=>R
 |v::r,R=>avV v (nP r R)
def ue:List (Nat×OB)->Type->Type
 | [],R=>R
 |p::r,R=>obV p.2 (ue r R)
def stV (s:St):Type:=nP s.tmps (ue s.heap Unit)
def IT:(c:AC)-> {R:Type} ->R->acV c R
 | .data _ _ x,_,r=>(x,r)
 | .undef,_,r=>r
 | .skip,_,r=>r
 | .Hr,_,r=>r
 | .Rp,_,r=>r
 | .own _ _ _,_,r=>r
 | .Dt _ _,_,r=>r
 | .Fy _ i,_,r=>(i,r)
 | .clo _ _,_,r=>r
 | .Gd _,_,r=>r
 | .sub _ i _,_,r=>(i,r)
 | .Fu _ i j,_,r=>(i,j,r)
def p8:(l:List AC)-> {R:Type} ->R->CY l R
 | [],_,r=>r
 |c::l,_,r=>IT c (p8 l r)
def ZU:(c:AV)-> {R:Type} ->R->avV c R
 | .at a,_,r=>IT a r
 | .agg cs,_,r=>p8 cs r
 | .Xa _ _ x,_,r=>(x,r)
 | .Ih _,_,r=>r
def Aba:(b:OB)-> {R:Type} ->R->obV b R
 | .arr _ _ _ _ xs,_,r=>(xs,r)
 | .Dg _ _ xs,_,r=>(xs,r)
 | .var _ vs,_,r=>p8 vs r
 | .Al _ _ rows _ none,_,r=>(rows,r)
 | .Al _ _ rows _ (some p),_,r=>(rows,p.2,r)
 | .Qi _ m,_,r=>(m,r)
def oU:(l:List AV)-> {R:Type} ->R->nP l R
 | [],_,r=>r
 |c::l,_,r=>ZU c (oU l r)
def oK:(l:List (Nat×OB))-> {R:Type} ->R->ue l R
 | [],_,r=>r
 |p::l,_,r=>Aba p.2 (oK l r)
def KR (s:St):stV s:=oU s.tmps (oK s.heap ())
def lq:(c d:AC)-> {R:Type} ->R->Option (acV c R)
 | .data fr τ _, .data Qt Jr x,_,r=>if h:Jr=τ/\Qt=fr then some (h.1▸x,r) else none
 | .undef, .undef,_,r=>some r
 | .skip, .skip,_,r=>some r
 | .Hr, .Hr,_,r=>some r
 | .Rp, .Rp,_,r=>some r
 | .own l _ _, .own l' _ _,_,r=>if l=l' then some r else none
 | .Dt l i, .Dt l' i',_,r=>if l=l'/\i=i' then some r else none
 | .Fy l _, .Fy l' i',_,r=>if l=l' then some (i',r) else none
 | .clo f c, .clo f' c',_,r=>if f=f'/\c=c' then some r else none
 | .Gd l, .Gd l',_,r=>if l=l' then some r else none
 | .sub l _ c, .sub l' i' c',_,r=>if l=l'/\c=c' then some (i',r) else none
 | .Fu l _ _, .Fu l' i' j',_,r=>if l=l' then some (i',j',r) else none
 |_,_,_,_=>none
def Nc:(l m:List AC)-> {R:Type} ->R->Option (CY l R)
 | [],[],_,r=>some r
 |c::l,d::m,_,r=>(Nc l m r).bind λr'=>lq c d r'
 |_,_,_,_=>none
def iC:(c d:AV)-> {R:Type} ->R->Option (avV c R)
 | .at a, .at b,_,r=>lq a b r
 | .agg cs, .agg ds,_,r=>Nc cs ds r
 | .Xa fr τ _, .Xa Qt Jr x,_,r=>if h:Jr=τ/\Qt=fr then some (h.1▸x,r) else none
 |_,_,_,_=>none
def Nw:(b d:OB)-> {R:Type} ->R->Option (obV b R)
 | .arr fr tr e tid _, .arr Qt VS e' Po xs,_,r=>if h:e'=e/\Qt=fr/\VS=tr/\Po=tid then some (h.1▸xs,r) else none
 | .Dg e tid _, .Dg e' Po xs,_,r=>if h:e'=e/\Po=tid then some (h.1▸xs,r) else none
 | .Qi v _, .Qi v' m,_,r=>if h:v'=v then some (h▸m,r) else none
 | .var t vs, .var t' us,_,r=>if t'=t then Nc vs us r else none
 | .Al e te _ out none, .Al e' Mf rows cY none,_,r=>if h:e'=e/\Mf=te/\cY=out then some (h.1▸rows,r) else none
 | .Al e te _ out (some p), .Al e' Mf rows cY (some p'),_,r=>if h:e'=e/\Mf=te/\cY=out/\p'.1=p.1 then some (h.1▸rows,p'.2,r) else none
 |_,_,_,_=>none
def Kh:(l m:List AV)-> {R:Type} ->R->Option (nP l R)
 | [],[],_,r=>some r
 |c::l,d::m,_,r=>(Kh l m r).bind λr'=>iC c d r'
 |_,_,_,_=>none
def Lh:(l m:List (Nat×OB))-> {R:Type} ->R->Option (ue l R)
 | [],[],_,r=>some r
 |p::l,q::m,_,r=>if q.1=p.1 then (Lh l m r).bind λr'=>Nw p.2 q.2 r' else none
 |_,_,_,_=>none
def eI (s t:St):Option (stV s):=(Lh s.heap t.heap ()).bind λr=>Kh s.tmps t.tmps r
def ix:(c:AC)-> {R:Type} ->acV c R->AC×R
 | .data fr τ _,_,v=>(.data fr τ v.1,v.2)
 | .undef,_,r=>(.undef,r)
 | .skip,_,r=>(.skip,r)
 | .Hr,_,r=>(.Hr,r)
 | .Rp,_,r=>(.Rp,r)
 | .own l off len,_,r=>(.own l off len,r)
 | .Dt l i,_,r=>(.Dt l i,r)
 | .Fy l _,_,v=>(.Fy l v.1,v.2)
 | .clo f c,_,r=>(.clo f c,r)
 | .Gd l,_,r=>(.Gd l,r)
 | .sub l _ c,_,v=>(.sub l v.1 c,v.2)
 | .Fu l _ _,_,v=>(.Fu l v.1 v.2.1,v.2.2)
def Vt:(l:List AC)-> {R:Type} ->CY l R->List AC×R
 | [],_,r=>([],r)
 |c::l,_,v=>((ix c v).1::(Vt l (ix c v).2).1,(Vt l (ix c v).2).2)
def ph:(c:AV)-> {R:Type} ->avV c R->AV×R
 | .at a,_,v=>(.at (ix a v).1,(ix a v).2)
 | .agg cs,_,v=>(.agg (Vt cs v).1,(Vt cs v).2)
 | .Xa fr τ _,_,v=>(.Xa fr τ v.1,v.2)
 | .Ih l,_,r=>(.Ih l,r)
def qx:(b:OB)-> {R:Type} ->obV b R->OB×R
 | .arr fr tr e tid _,_,v=>(.arr fr tr e tid v.1,v.2)
 | .Dg e tid _,_,v=>(.Dg e tid v.1,v.2)
 | .Qi w _,_,v=>(.Qi w v.1,v.2)
 | .var t vs,_,v=>(.var t (Vt vs v).1,(Vt vs v).2)
 | .Al e te _ out none,_,v=>(.Al e te v.1 out none,v.2)
 | .Al e te _ out (some p),_,v=>(.Al e te v.1 out (some (p.1,v.2.1)),v.2.2)
def Rk:(l:List AV)-> {R:Type} ->nP l R->List AV×R
 | [],_,r=>([],r)
 |c::l,_,v=>((ph c v).1::(Rk l (ph c v).2).1,(Rk l (ph c v).2).2)
def aJ:(l:List (Nat×OB))-> {R:Type} ->ue l R->List (Nat×OB)×R
 | [],_,r=>([],r)
 |p::l,_,v=>((p.1,(qx p.2 v).1)::(aJ l (qx p.2 v).2).1,(aJ l (qx p.2 v).2).2)
def eH (s:St) (v:stV s):St:= {tmps:=(Rk s.tmps v).1,heap:=(aJ s.heap (Rk s.tmps v).2).1}
def lenOf (H:List (Nat×OB)) (l:Nat):Nat:=match Ad H l with|some (.arr _ _ _ _ xs)=>xs.length|some (.Dg _ _ xs)=>xs.length|some (.Al _ _ rows _ _)=>rows.length|_=>0
def Va (ps:List Nat):List AV->List (Nat×Nat×Nat)
 | []=> []
 | .at (.own l off len)::r=>if ps.contains l then (l,off,len)::Va ps r else Va ps r
 |_::r=>Va ps r
def Adq:List (Nat×Nat×Nat)->Nat->Nat
 | [],_=>0
 |(k,o,_)::r,l=>if k=l then o else Adq r l
def MN:List (Nat×Nat×Nat)->List (Nat×OB)->Nat->Nat
 | [],H,l=>lenOf H l
 |(k,_,n)::r,H,l=>if k=l then n else MN r H l
def cp (B:List (Nat×Nat×Nat)) (H:List (Nat×OB)):AC->AC
 | .own l _ _=> .own l (Adq B l) (MN B H l)
 |c=>c
def St.whole (B:List (Nat×Nat×Nat)) (s:St):St:=s.Gl (cp B s.heap)
def vH (B:List (Nat×Nat×Nat)) (H:List (Nat×OB)) (c:AC) (K:Prop):Prop:=match c with
 | .own l off len=>off=Adq B l/\len=MN B H l/\K
 |_=>K
def an (B:List (Nat×Nat×Nat)) (H:List (Nat×OB)):List AC->Prop->Prop
 | [],K=>K
 |c::r,K=>vH B H c (an B H r K)
def IZ (B:List (Nat×Nat×Nat)) (H:List (Nat×OB)) (c:AV) (K:Prop):Prop:=match c with
 | .at a=>vH B H a K
 | .agg cs=>an B H cs K
 | .Xa _ _ _=>K
 | .Ih _=>False
def Wz (B:List (Nat×Nat×Nat)) (H:List (Nat×OB)):List AV->Prop->Prop
 | [],K=>K
 |c::r,K=>IZ B H c (Wz B H r K)
def fm (B:List (Nat×Nat×Nat)) (H:List (Nat×OB)):List (Nat×OB)->Prop->Prop
 | [],K=>K
 |p::r,K=>match p.2 with
  | .var _ vs=>an B H vs (fm B H r K)
  |_=>fm B H r K
def xy (B:List (Nat×Nat×Nat)) (s:St) (K:Prop):Prop:=Wz B s.heap s.tmps (fm B s.heap s.heap K)
def AV.Su:AV->Bool
 | .at (.data _ _ _)=>true
 |_=>false
def Hw (p:Nat->Bool):Nat->List AV->List Bool
 |_,[]=> []
 |i,v::r=>(v.Su&&p i)::Hw p (i+1) r
def stays (live:Nat->List Nat) (c:Code) (t:Nat):Bool:=!(writes c).contains t&&Xp live c t
def Py:List Bool->List AV->List AV
 |true::f,_::r=> .undef::Py f r
 |false::f,v::r=>v::Py f r
 |_,l=>l
def Rb:List Bool->List AV->List AV->List AV
 |true::f,a::s,_::r=>a::Rb f s r
 |false::f,_::s,v::r=>v::Rb f s r
 |_,_,l=>l
def St.mask (fx:List Bool) (s:St):St:= {tmps:=Py fx s.tmps,heap:=s.heap}
def St.sG (fx:List Bool) (s0 s:St):St:= {tmps:=Rb fx s0.tmps s.tmps,heap:=s.heap}
def oH (c:AC) (k:AC->Prop):Prop:=match c with
 | .undef=>k .undef
 | .skip=>k .skip
 | .Hr=>k .Hr
 | .Rp=>k .Rp
 | .data fr τ x=>match fr with
  |true=>k (.data true τ x)
  |false=>k (.data false τ x)
 | .own l off len=>k (.own l off len)
 | .Dt l i=>k (.Dt l i)
 | .Fy l i=>k (.Fy l i)
 | .clo f c=>k (.clo f c)
 | .Gd l=>k (.Gd l)
 | .sub l i c=>k (.sub l i c)
 | .Fu l i c=>k (.Fu l i c)
def dH:List AC->(List AC->Prop)->Prop
 | [],k=>k []
 |c::r,k=>oH c λc'=>dH r λr'=>k (c'::r')
def w7 (c:AV) (k:AV->Prop):Prop:=match c with
 | .at a=>oH a λa'=>k (.at a')
 | .agg cs=>dH cs λdx=>k (.agg dx)
 | .Xa fr τ x=>k (.Xa fr τ x)
 | .Ih l=>k (.Ih l)
def dI:List AV->(List AV->Prop)->Prop
 | [],k=>k []
 |c::r,k=>w7 c λc'=>dI r λr'=>k (c'::r')
def w8 (b:OB) (k:OB->Prop):Prop:=match b with
 | .arr fr tr e tid xs=>match fr,tr with
  |true,true=>k (.arr true true e tid xs)
  |true,false=>k (.arr true false e tid xs)
  |false,true=>k (.arr false true e tid xs)
  |false,false=>k (.arr false false e tid xs)
 | .Dg e tid xs=>k (.Dg e tid xs)
 | .var t vs=>dH vs λvs'=>k (.var t vs')
 | .Al e te rows out kp=>match out,kp with
  |none,none=>k (.Al e te rows none none)
  |none,some (l,n)=>k (.Al e te rows none (some (l,n)))
  |some i,none=>k (.Al e te rows (some i) none)
  |some i,some (l,n)=>k (.Al e te rows (some i) (some (l,n)))
 | .Qi v m=>k (.Qi v m)
def pJ:List (Nat×OB)->(List (Nat×OB)->Prop)->Prop
 | [],k=>k []
 |(l,b)::r,k=>w8 b λb'=>pJ r λr'=>k ((l,b')::r')
def dJ (w:WS) (k:WS->Prop):Prop:=dI w.st.tmps λt=>pJ w.st.heap λh=>k {kn:=w.kn,st:= {tmps:=t,heap:=h} }
def lI (s:St) (k:St->Prop):Prop:=dI s.tmps λt=>pJ s.heap λh=>k {tmps:=t,heap:=h}
def fi:List Bool->(List Bool->Prop)->Prop
 | [],k=>k []
 |true::r,k=>fi r λr'=>k (true::r')
 |false::r,k=>fi r λr'=>k (false::r')
theorem mW {c:AC} {k:AC->Prop} :oH c k↔k c:=by
 cases c<;>simp only [oH]
 split<;>rfl
theorem bA: ∀ {l:List AC} {k:List AC->Prop},dH l k↔k l
 | [],k=>Iff.rfl
 |c::r,k=>by simp only [dH];rw [mW,bA]
theorem yR {c:AV} {k:AV->Prop} :w7 c k↔k c:=by
 cases c<;>simp only [w7]
 ·exact mW
 ·exact bA
theorem bB: ∀ {l:List AV} {k:List AV->Prop},dI l k↔k l
 | [],k=>Iff.rfl
 |c::r,k=>by simp only [dI];rw [yR,bB]
theorem yS {b:OB} {k:OB->Prop} :w8 b k↔k b:=by
 cases b<;>simp only [w8]
 ·split<;>rfl
 ·exact bA
 ·split<;>rfl
theorem iJ: ∀ {l:List (Nat×OB)} {k:List (Nat×OB)->Prop},pJ l k↔k l
 | [],k=>Iff.rfl
 |(l,b)::r,k=>by simp only [pJ];rw [yS,iJ]
theorem LU {s:St} {k:St->Prop} :lI s k=k s:=by
 unfold lI
 exact propext (by rw [bB,iJ])
theorem iI: ∀ {l:List Bool} {k:List Bool->Prop},fi l k=k l
 | [],k=>rfl
 |true::r,k=>by simp only [fi];rw [iI]
 |false::r,k=>by simp only [fi];rw [iI]
theorem Sp {w:WS} {k:WS->Prop} :dJ w k↔k w:=by
 unfold dJ
 rw [bB,iJ]
def Xd:AC->List (Nat×Nat)
 | .own _ off len=> [(off,len)]
 |_=> []
def Xf:AV->List (Nat×Nat)
 | .at a=>Xd a
 | .agg cs=>cs.flatMap Xd
 |_=> []
def j4:OB->List (Nat×Nat)
 | .var _ vs=>vs.flatMap Xd
 |_=> []
def HO (s:St):List (Nat×Nat):=s.tmps.flatMap Xf++s.heap.flatMap λp=>j4 p.2
def eqW (s0 s:St):Prop:=HO s=HO s0/\Dz (eI s0 s) λv=>v=KR s0
def iG (ops:Array Oper):Nat->Array Bool->WS->(WS->Prop)->Prop
 |0,Aa,w,K=>match Region.ready .any ops Aa with
  | []=>K w
  |_::_=>False
 |f+1,Aa,w,K=>match Region.ready .any ops Aa with
  | []=>False
  |k::_=>Dz ops[k]? λo=>eK ops w o (λkk w'=>YO T Γ w' o kk) λw'=>iG ops f (Aa.setIfInBounds k true) w' K
def yq (P:List (Nat×Nat×AV×OB)) (ops:Array Oper):Nat->Array Bool->WS->(WS->Prop)->Prop
 |0,Aa,w,K=>match Region.ready .any ops Aa with
  | []=>K w
  |_::_=>False
 |f+1,Aa,w,K=>match Region.ready .any ops Aa with
  | []=>False
  |i::r=>QN (i::r) λk=>Dz ops[k]? λo=>match FM P Γ ops w.st o k with
   |true=>eK ops w o (λkk w'=>YO T Γ w' o kk) λw'=>yq P ops f (Aa.setIfInBounds k true) w' K
   |false=>False
def vn (ops:Array Oper) (E:List Nat) (Aa:Array Bool) (w:WS):List Nat->Prop->Prop
 | [],K=>K
 |r::R,K=>match oV ops E Aa r with
  |true=>vn ops E Aa w R K
  |false=>(nc T Γ ops [r] w λw'=>Dz ((ops[r]?).bind (·.dst)) λd=>match Nat.blt d w.st.tmps.length with
    |true=>eqW ⟨[w.st.get d],[]⟩ ⟨[w'.st.get d],[]⟩
    |false=>False)/\vn ops E Aa w R K
def yr (ops:Array Oper) (E:List Nat):Nat->Array Bool->WS->(WS->Prop)->Prop
 |0,Aa,w,K=>vn T Γ ops E Aa w E (match Region.ready .any ops Aa with
  | []=>K w
  |_::_=>False)
 |f+1,Aa,w,K=>vn T Γ ops E Aa w E (match Region.ready .any ops Aa with
  | []=>False
  |i::r=>QN (i::r) λk=>Dz ops[k]? λo=>eK ops w o (λkk w'=>YO T Γ w' o kk) λw'=>yr ops E f (Aa.setIfInBounds k true) w' K)
def GK (E:List Nat) (n:Nat) (L0:Array Bool) (ops:Array Oper) (w:WS) (K:WS->Prop):Prop:=
 match fJ ops E L0&&(Nat.ble E.length n&&Nat.ble (n-E.length) 10) with
 |true=>nc T Γ ops E w λw1=>dJ w1 λw1=>iG T Γ ops (n-E.length) (Cr E L0) w1 λw0=>dJ w0 λw0=>K w0/\yr T Γ ops E (n-E.length) (Cr E L0) w1 λw2=>eqW w0.st w2.st
 |false=>False
def vP (P:List (Nat×Nat×AV×OB)) (n:Nat) (L0:Array Bool) (ops:Array Oper) (w:WS) (K:WS->Prop):Prop:=
 match (Vg (P.map (·.1))&&Vg (P.map (·.2.1)))&&((P.all λa=>lW a.2.1 w.st)&&(Nat.ble P.length n&&Nat.ble (n-P.length) 10)) with
 |true=>SN T Γ ops (P.map (·.1)) w λw1=>dJ w1 λw1=>iG T Γ ops (n-P.length) (Cr (P.map (·.1)) L0) w1 λw0=>dJ w0 λw0=>K w0/\yq T Γ P ops (n-P.length) (Cr (P.map (·.1)) L0) w1 λw2=>eqW w0.st w2.st
 |false=>GK T Γ (m7 ops (List.range ops.size) L0) n L0 ops w K
def xc (ops:Array Oper) (draw:Bool) (w:WS) (K:WS->Prop):Prop:=
 match draw with
 |true=>match fH false Γ ops with
  |true=>nc T Γ ops (fk false Γ ops) w λw'=>SN T Γ ops (Fg false Γ ops) w' K
  |false=>match fH true Γ ops with
   |true=>nc T Γ ops (fk true Γ ops) w λw'=>SN T Γ ops (Fg true Γ ops) w' K
   |false=>match Region.noSelect ops&&Nat.ble (ops.size-(It ops).length) 8 with
    |true=>nc T Γ ops (It ops) w λw'=>match ff false ops with
     |true=>LH T Γ ops (ops.size-(It ops).length) (Cr (It ops) (Array.replicate ops.size false)) w' K
     |false=>iG T Γ ops (ops.size-(It ops).length) (Cr (It ops) (Array.replicate ops.size false)) w' λw0=>dJ w0 λw0=>K w0/\LH T Γ ops (ops.size-(It ops).length) (Cr (It ops) (Array.replicate ops.size false)) w' λw1=>eqW w0.st w1.st
    |false=>match Region.noSelect ops with
     |true=>nc T Γ ops (It ops) w λw'=>vP T Γ (Ue T ops (Cr (It ops) (Array.replicate ops.size false))) (ops.size-(It ops).length) (Cr (It ops) (Array.replicate ops.size false)) ops w' K
     |false=>False
 |false=>Ads T Γ ops ops.toList w K
def aw (live:Nat->List Nat):Code->WS->(Ha->WS->Prop)->Prop
 | .skip,w,Q=>Q .normal w
 | .label _,w,Q=>Q .normal w
 | .region _ ops draw,w,Q=>xc T (xb Γ draw) ops draw {w with st:=w.st.jC ops} λw'=>dJ w' (Q .normal)
 | .seq a b,w,Q=>aw live a w λe w'=>match e with
  | .normal=>aw live b w' Q
  | .exit id=>Q (.exit id) w'
  | .ret=>Q .ret w'
 | .cond c a b,w,Q=>brO w c λt w'=>match t with
  |true=>aw live a w' Q
  |false=>aw live b w' Q
 | .block id c,w,Q=>aw live c w λe w'=>match e with
  | .normal=>Q .normal w'
  | .exit MI=>if MI=id then Q .normal w' else Q (.exit MI) w'
  | .ret=>Q .ret w'
 | .loop c,w,Q=>
  lI (w.st.clean (live (Ci c))) λs0=>fi (Hw (stays live c) 0 s0.tmps) λfx=>lI (s0.mask fx) λm=>
  xy (Va T.parts s0.tmps) s0 (Bk (V:=stV m) (λv k=>lI ((St.sG fx s0 (eH m v)).whole (Va T.parts s0.tmps)) λsb=>aw live c ⟨[],sb⟩ λe w'=>match e with
   | .normal=>lI (w'.st.clean (live (Ci c))) λs1=>xy (Va T.parts s0.tmps) s1 (Dz (eI m (s1.mask fx)) k)
   | .exit id=>Q (.exit id) w'
   | .ret=>Q .ret w') (KR m))
 | .exit id,w,Q=>Q (.exit id) w
 | .ret,w,Q=>Q .ret w
 |_,_,_=>False
def Abq (s:Spec) (fn:Func) (P:s.res.den->Prop) (st:St):Prop:=
 Dz (jM T s fn st) λp=>match p.1||!s.fresh with|true=>P p.2|false=>False
def dV (st:St) (K:Prop):List AC->List (Bool×CK)->Prop
 | .own l off len::as,(true,_)::r=>match st.at l with
  |some (.arr _ _ _ _ xs)=>(off=0/\len=xs.length)/\dV st K as r
  |some (.Dg _ _ xs)=>(off=0/\len=xs.length)/\dV st K as r
  |_=>False
 |_::as,(false,_)::r=>dV st K as r
 |_,_=>K
def lY (st:St):(cs:List CK)->List AC->(CKs.den cs->List Nat->Prop)->Prop
 | [],[],K=>K () []
 | .Al e te _::r, .own l off len::as,K=>match st.at l with
  |some (.Al e' Mf rows none _)=>if h:e'=e/\Mf=te then (off=0/\len=rows.length)/\lY st r as λy t=>K ((h.1▸rows:List (List e.den)),y) (l::t) else False
  |_=>False
 |c::r,a::as,K=>Dz (gk st c a) λp=>lY st r as λy t=>K (p.1,y) (p.2++t)
 |_,_,_=>False
def wC (st:St) (n:Nat) (as:List AC):List (Nat×Nat)->Prop->Prop
 | [],K=>K
 |(k,j)::r,K=>match as[j]? with
  |some (.own l _ _)=>match st.at l with
   |some (.Al _ _ _ _ (some p))=>match Nat.beq p.1 (Bu false k)&&Nat.blt k 1000 with
    |true=>n<=p.2/\wC st n as r K
    |false=>False
   |_=>False
  |_=>False
def qR (s:MSpec) (fn:Func) (x:Ins.den s.ins) (st:St) (cs:List AC) (P:CKs.den s.outs×IOs.den s.ins->Prop):Prop:=
 Dz (ah T st fn.results.toList) λl=>Dz (GP s st l) λp=>lY st s.outs (cs++p.1) λr ls=>Dz (Jz st 0 s.ins) λo=>
  match Vg (p.2++ls++La 0 s.ins)&&Nat.blt s.ins.length 1000&&Nat.blt s.outs.length 1000&&s.TL with
  |true=>wC st (s.Cn x) (cs++p.1) s.keeps (P (r,o))
  |false=>False
def KN (s:MSpec) (fn:Func) (x:Ins.den s.ins) (st:St) (P:CKs.den s.outs×IOs.den s.ins->Prop):Prop:=
 match s.ptr with
 |none=>qR T s fn x st [] P
 |some p=>match st.at Ki with
  |some (.var tid vs)=>match Nat.beq tid p.1&&Nat.beq vs.length p.2 with
   |true=>Dz (Fb 0 s.ins vs) λcs=>dV st (qR T s fn x st cs P) vs s.ins
   |false=>False
  |_=>False
@[irreducible] def fnMW (s:MSpec) (fn:Func) (x:Ins.den s.ins) (P:CKs.den s.outs×IOs.den s.ins->Prop):Prop:=
 match Nat.blt s.ins.length 1000&&x6 s with
 |false=>False
 |true=>Dz fn.body λc=>aw T Γ (wH T.marks fn c) c {kn:= [],st:= {tmps:=Vq s (Xo 0 s.ins x)++List.replicate (fn.ntmps-(Vq s (Xo 0 s.ins x)).length) .undef,heap:=nh s x} } λe w=>match e with
  | .normal=>KN T s fn x w.st P
  | .ret=>KN T s fn x w.st P
  | .exit _=>False
@[irreducible] def fnW (s:Spec) (fn:Func) (x:s.arg.den) (P:s.res.den->Prop):Prop:=
 Dz fn.body λc=>aw T Γ (wH T.marks fn c) c {kn:= [],st:= {tmps:=Nr s.arg x++List.replicate (fn.ntmps-(Nr s.arg x).length) .undef,heap:= []} } λe w=>match e with
  | .normal=>Abq T s fn P w.st
  | .ret=>Abq T s fn P w.st
  | .exit _=>False
end Go.Proofs.YtfolipnappekaaaGreat
