/-
  Part 31 of the proof that the statement FnExactInSubgroup holds.
-/
import Derived.Test.YtjbdmibbbpdnnaaCInSubgroup29
namespace Go.Proofs.Ytjbdmibbbpdnnaa
open Go.RowKit
inductive Br (b:Bool) (A B:Prop):Prop
 |mk (t:b=true->A) (f:b=false->B)
inductive Co {V:Type} (step:V->(V->Prop)->Prop) (v0:V):Prop
 |mk (I:V->Prop) (μ:V->Nat) (h0:I v0) (h: ∀v,I v->step v (λv'=>I v'/\μ v'<μ v))
structure WS where
 kn:List (Nat×Bool)
 st:St
def mO:List (Nat×Bool)->Nat->Option Bool
 | [],_=>none
 |(k,b)::r,t=>if k=t then some b else mO r t
def o6:List (Nat×Bool)->Nat->List (Nat×Bool)
 | [],_=> []
 |(k,b)::r,t=>if k=t then o6 r t else (k,b)::o6 r t
def WS.put (w:WS) (dst:Option Tmp) (v:AV):WS:=
 match dst with
 |some d=> {kn:=o6 w.kn d,st:=w.st.put (some d) v}
 |none=>w
def Ns (kn:List (Nat×Bool)):Operand->Option Bool
 | .const (.bool b)=>some b
 | .tmp t=>mO kn t
 |_=>none
def Cz (kn:List (Nat×Bool)) (o:Oper):Option Bool:=
 match o.op with
 | .assign x=>Ns kn x
 | .move x=>Ns kn x
 | .unOp .not _ x=>(Ns kn x).map (!·)
 | .pick c a b=>match Ns kn c with
  |some true=>Ns kn a
  |some false=>Ns kn b
  |none=>none
 |_=>none
def WS.nc (w:WS) (o:Oper) (v:AV):WS:=
 match o.dst,Cz w.kn o with
 |some d,some b=>match (w.st.put (some d) v).get d with
  | .at (.data _ .bool _)=> {kn:=(d,b)::o6 w.kn d,st:=w.st.put (some d) v}
  |_=>w.put (some d) v
 |dst,_=>w.put dst v
def WS.to (w:WS) (st:St):WS:= {kn:=w.kn,st:=st}
def UC (w:WS) (t:Nat) (K:Bool->WS->Prop):Prop:=
 match mO w.kn t with
 |some b=>K b w
 |none=>match w.st.get t with
  | .at (.data _ .bool b)=>Br b (K true {kn:=(t,true)::w.kn,st:=w.st}) (K false {kn:=(t,false)::w.kn,st:=w.st})
  |_=>False
def UB (w:WS) (c:Operand) (K:Bool->WS->Prop):Prop:=
 match c with
 | .tmp t=>UC w t K
 | .const (.bool b)=>K b w
 |_=>False
def Dm {α:Type} (o:Option α) (K:α->Prop):Prop:=match o with|some x=>K x|none=>False
def NG (T:Tab) (st:St) (t:TypeId) (x:AV) (l h:Int):Option AV:=
 match x with
 | .at (.data fr (.slice e) xs)=>if (T.elem t).bind T.ty=some e then some (.at (.data fr (.slice e) ((xs.take h.toNat).drop l.toNat))) else none
 | .at (.own k off _)=>match st.at k with
  |some (.arr _ _ e tid _)=>if T.elem t=some tid/\T.ty tid=some e then some (.at (.own k (off+l.toNat) (h.toNat-l.toNat))) else none
  |_=>none
 | .at (.data _ .str s)=>if T.ty t=some .str then some (.at (.data true .str (s.extract l.toNat h.toNat))) else none
 |_=>none
variable (T:Tab) (Γ:Env)
def KF (op:BinOp) (t:TypeId) (x y:AV) (K:AV->Prop):Prop:=
 match op,x,y with
 | .quo, .at (.data _ (.int k) a), .at (.data _ (.int k') b)=>if k=k' then b≠0/\K (.at (.data true (.int k) (k.wrap (a.tdiv b)))) else False
 | .rem, .at (.data _ (.int k) a), .at (.data _ (.int k') b)=>if k=k' then b≠0/\K (.at (.data true (.int k) (a.tmod b))) else False
 | .shl, .at (.data _ (.int k) a), .at (.data _ (.int _) b)=> ¬b<0/\K (.at (.data true (.int k) (k.wrap (a*2^(min b.toNat k.bits)))))
 | .shr, .at (.data _ (.int k) a), .at (.data _ (.int _) b)=> ¬b<0/\K (.at (.data true (.int k) (a.fdiv (2^(min b.toNat k.bits)))))
 | .add, .at (.data _ .str a), .at (.data _ .str b)=>a.size+b.size<=4294967296/\K (.at (.data true .str (a++b)))
 |op,x,y=>Dm (Ls T op t x y) K
def CE (st:St) (t:TypeId) (p:AV) (K:AV->Prop):Prop:=
 match p with
 | .at (.Fc l i)=>Dm (T.ty t) λτ=>match st.at l with
  |some (.arr fr _ e _ xs)=>if e=τ then ∃x,xs[i]?=some x/\K (.at (.data (fr||e.flat) e x)) else False
  |some (.Cu e _ xs)=>if e=τ then ∃x,xs[i]?=some x/\K (if e.Ab then .agg (Zb l i 0 e x) else .at ((Zb l i 0 e x).headD .undef)) else False
  |some (.Ai _ _ _ none _)=>if τ.Ab then False else K (.at (.sub l i 0))
  |_=>False
 | .at (.data fr (.optr Ie) x)=>Dm (T.ty t) λτ=>if Ie=τ then ∃y,x=some y/\K (.at (.data (fr||Ie.flat) Ie y)) else False
 |p=>Dm (Ji T st t p) K
def dK (s:TypeId) (x:AV) (f:Nat) (K:AV->Prop):Prop:=
 match x with
 | .at (.data fr (.optr τ) x)=> ∃y,x=some y/\Dm (Hu T s (.at (.data fr (.ptr τ) y)) f) K
 |x=>Dm (Hu T s x f) K
def oh (st:St) (x:Operand) (K:AV->Prop) (d:Option AV):Prop:=
 match st.ev x with
 | .at (.data fr (.optr τ) x)=> ∃y,x=some y/\K (.at (.data fr (.ptr τ) y))
 |_=>Dm d K
def wD (st:St) (t:TypeId) (x:AV) (lo hi:Option AV) (K:AV->Prop):Prop:=
 Dm (sJ x) λn=>Dm (zO lo 0) λl=>Dm (zO hi n) λh=>(0<=l/\l<=h/\h<=n)/\Dm (NG T st t x l h) K
def dV (st:St) (t:TypeId) (x i:AV) (K:AV->Prop):Prop:=
 match x,i with
 | .at (.data fr (.slice e) xs), .at (.data _ (.int _) n)=>if (T.elem t).bind T.ty=some e then ∃x,idx xs n=some x/\K (.at (.data fr (.ptr e) x)) else False
 | .at (.own l off len), .at (.data _ (.int _) n)=>match st.at l with
  |some (.arr _ _ e tid _)=>if T.elem t=some tid/\T.ty tid=some e then (0<=n/\n<len)/\K (.at (.Fc l (off+n.toNat))) else False
  |some (.Cu e tid _)=>if T.elem t=some tid/\T.ty tid=some e then (0<=n/\n<len)/\K (.at (.Fc l (off+n.toNat))) else False
  |some (.Ai _ te _ _ _)=>if T.elem t=some te/\(T.ty te).map Ty.size=some 1 then (0<=n/\n<len)/\K (.at (.Fc l (off+n.toNat))) else False
  |_=>False
 | .at (.sub l i _), .at (.data _ (.int _) n)=>match st.at l with
  |some (.Ai e _ rows none _)=>if ((T.elem t).bind T.ty).map Ty.size=some e.size then (0<=n/\n<(rows.getD i []).length)/\K (.at (.Fa l i n.toNat)) else False
  |_=>False
 |_,_=>False
def vD (t:TypeId) (x i:AV) (K:AV->Prop):Prop:=
 match x,i with
 | .at (.data _ .str s), .at (.data _ (.int _) n)=>if T.ty t=some .str then 0<=n/\ ∃b,s[n.toNat]?=some b/\K (.at (.data true (.int .u8) b.toNat)) else False
 |_,_=>False
def nM (st:St) (f:FuncId) (args:List AV) (K:AV->Prop):Prop:=
 Dm (match Γ f with|some (.q s)=>some s|_=>none) λs=>match s.fresh||s.res.flat||args.all (·.settled) with
  |true=>Dm (Bl st s.arg args) λp=> ∃y,s.fn p.2=some y/\K (if s.Dt then .Sv (s.fresh||s.res.flat) s.res y else .at (.data (s.fresh||s.res.flat) s.res y))
  |false=>False
def uP (st:St) (v:AV) (args:List AV) (K:AV->Prop):Prop:=
 match v with
 | .at (.data fr (.clo f τ) x)=>match τ.chain with|true=>(match Nat.blt f 1000000000 with|true=>nM Γ st f (args++Tc fr τ x) K|false=>nM Γ st (f-1000000000) (Tc fr τ x++args) K)|false=>False
 | .at (.clo f Bp)=>nM Γ st f (args++Bp.map λp=> .at (.Dj p.1 p.2)) K
 |_=>False
def qW (w:WS) (o:Oper) (K:AV->WS->Prop):Prop:=
 match o.op with
 | .pick c a b=>UB w c λt w'=>match t with|true=>K (w'.st.ev a) w'|false=>K (w'.st.ev b) w'
 | .load t a=>CE T w.st t (w.st.ev a) λv=>K v w
 | .binOp op t x y _=>KF T op t (w.st.ev x) (w.st.ev y) λv=>K v w
 | .slice t x lo hi mx=>match mx with
  |none=>wD T w.st t (w.st.ev x) (lo.map w.st.ev) (hi.map w.st.ev) λv=>K v w
  |some _=>False
 | .indexAddr t x i=>dV T w.st t (gU (w.st.ev x)) (w.st.ev i) λv=>K v w
 | .index t x i=>vD T t (w.st.ev x) (w.st.ev i) λv=>K v w
 | .call {callee:= .value (.func f),args, .. } =>nM Γ w.st f (args.toList.map w.st.ev) λv=>K v w
 | .call {callee:= .value (.tmp t),args, .. } =>uP Γ w.st (w.st.get t) (args.toList.map w.st.ev) λv=>K v w
 | .fieldAddr s x f=>dK T s (w.st.ev x) f λv=>K v w
 | .nilCheck x=>oh w.st x (λv=>K v w) (Ca T Γ w.st o)
 |_=>Dm (Ca T Γ w.st o) λv=>K v w
def wO (st:St) (t:TypeId) (p v:AV) (K:St->Prop):Prop:=
 match p with
 | .at (.Fc l j)=>Dm (T.ty t) λτ=>Dm (settle st v) λq=>match q.2.at l with
  |some (.arr fr tr e tid xs)=>Dm (Ci q.2 τ q.1) λu=>if h:τ=e then j<xs.length/\K (q.2.Ff l (.arr (fr&&u.1) (tr&&(Lo st v&&e.tree)) e tid (xs.set j (h▸u.2)))) else False
  |_=>False
 |p=>Dm (Mr T st t p v) K
def xS (st:St) (t:TypeId) (p v:AV) (K:St->Prop):Prop:=
 match p with
 | .at (.Fa l i j)=>Dm (T.ty t) λτ=>Dm (settle st v) λq=>match q.2.at l with
  |some (.Ai e te rows none kp)=>Dm (Ci q.2 τ q.1) λu=>if h:τ=e then K (q.2.Ff l (.Ai e te (rows.set i ((rows.getD i []).set j (h▸u.2))) none kp)) else False
  |_=>False
 | .at (.Fc l j)=>Dm (T.ty t) λτ=>match st.at l,v with
  |some (.Ai e te rows out kp), .at (.own m off len)=>match st.at m with
   |some (.arr _ _ e' _ xs)=>if h:e'=e/\(Nat.blt l Ah&&(!Nat.beq m l&&!τ.Ab))=true then
     off=0/\len=xs.length/\(match out with|none=>True|some i=>i=j)/\K (Lr st l j m e te rows (h.1▸xs) (Tp j kp))
    else False
   |_=>False
  |_,_=>False
 |_=>False
def qH (st:St) (t:TypeId) (p v:AV) (K:St->Prop):Prop:=match xr st p with
 |true=>xS T st t p v K
 |false=>wO T st t p v K
def eD (st:St) (dst:Nat) (t:TypeId) (x y:Operand) (K:AV->St->Prop):Prop:=
 Dm (T.elem t) λte=>Dm (T.ty te) λe=>Dm (settle st (st.ev y)) λq=>Dm (Ci q.2 (.slice e) q.1) λu=>match q.2.ev x with
  | .at .Gw=>match Nat.blt dst Ah with
   |true=>List.length u.2<=Bs/\K (.at (.own dst 0 (List.length u.2))) ((q.2.new dst (.arr (T.mi||e.flat) T.rm e te [])).new dst (.arr ((T.mi||e.flat)&&(u.1||e.flat)) (T.rm&&(e.flat||(Lo st (st.ev y)&&e.tree))) e te u.2))
   |false=>False
  | .at (.own l off len)=>match q.2.at l with
   |some (.arr fr tr e' tid xs)=>if h:e'=e/\tid=te/\Nat.blt l Ah=true then
     off=0/\len=xs.length/\len+List.length u.2<=Bs/\K (.at (.own l 0 (List.length ((h.1▸xs:List e.den)++u.2)))) (q.2.new l (.arr (fr&&(u.1||e.flat)) (tr&&(e.flat||(Lo st (st.ev y)&&e.tree))) e te ((h.1▸xs:List e.den)++u.2)))
    else False
   |_=>False
  |_=>False
def ka (st:St) (dst:Nat) (t:TypeId) (x y:Operand) (K:AV->St->Prop):Prop:=
 match x with
 | .tmp tx=>match st.get tx with
  | .at (.sub l i _)=>Dm (T.elem t) λtid=>match st.at l with
   |some (.Ai e te rows none kp)=>match Nat.blt l Ah&&(Nat.blt dst Ah&&!Nat.beq dst l) with
    |true=>eD T ((Jh st l i dst e te tid rows kp).put (some tx) (.at (.own dst 0 (rows.getD i []).length))) dst t x y K
    |false=>False
   |_=>False
  |_=>eD T st dst t x y K
 |_=>eD T st dst t x y K
def CL (st:St) (dst:Nat) (t:TypeId) (l c:AV) (K:AV->St->Prop):Prop:=
 match l,c with
 | .at (.data _ (.int _) n), .at (.data _ (.int _) m)=>Dm (T.elem t) λte=>Dm (T.ty te) λe=>match Zi e&&Nat.blt dst Ah with
  |true=>(0<=n/\n<Bs+1)/\n=m/\K (.at (.own dst 0 (List.replicate n.toNat e.zero).length)) (st.new dst (.arr (T.mi||e.flat) (T.rm&&e.tree) e te (List.replicate n.toNat e.zero)))
  |false=>False
 |_,_=>False
def vP (st:St) (dst:Nat) (t:TypeId) (l c:AV) (K:AV->St->Prop):Prop:=
 match Wf T t with
 |none=>CL T st dst t l c K
 |some p=>match l,c with
  | .at (.data _ (.int _) n), .at (.data _ (.int _) m)=>match Nat.blt dst Ah with
   |true=>(0<=n/\n<Bs+1)/\n=m/\K (.at (.own dst 0 (List.replicate n.toNat ([]:List p.2.den)).length)) (Jz st dst dst (.Ai p.2 p.1 (List.replicate n.toNat []) none none))
   |false=>False
  |_,_=>False
def Xp (st:St) (dst:Nat) (t:TypeId) (len:Nat) (parts:Array (Nat×Operand)) (K:AV->St->Prop):Prop:=
 match Wf T t with
 |none=>Dm (Gr T st dst t len parts) λr=>K r.1 r.2
 |some p=>match parts.toList with
  | [(0,x)]=>match st.ev x with
   | .at (.own m off ln)=>match st.at m with
    |some (.arr _ _ e' _ xs)=>if h:e'=p.2/\(Nat.beq len 1&&(Nat.blt dst Ah&&Nat.blt m Ah))=true then off=0/\ln=xs.length/\K (.at (.own dst 0 1)) (Jz st dst m (.Ai p.2 p.1 [h.1▸xs] none none)) else False
    |_=>False
   |_=>False
  |_=>False
def kc (st:St) (dst:Nat) (t:TypeId) (x y:Operand) (K:AV->St->Prop):Prop:=
 match Wf T t with
 |none=>ka T st dst t x y K
 |some p=>match st.ev x,st.ev y with
  | .at (.own l off len), .at (.own m CP kY)=>match st.at l,st.at m with
   |some (.Ai e1 VP A none _),some (.Ai e2 nw B none _)=>
    if h:(e1=p.2/\e2=p.2)/\(decide (VP=p.1)&&decide (nw=p.1)&&(Nat.blt l Ah&&(Nat.blt m Ah&&!Nat.beq m l)))=true then
     (off=0/\len=A.length)/\(CP=0/\kY=B.length)/\0<B.length/\A.length+B.length<=Bs/\
      K (.at (.own l 0 (List.length ((h.1.1▸A:List (List p.2.den))++(h.1.2▸B:List (List p.2.den)))))) (Jz st l m (.Ai p.2 p.1 ((h.1.1▸A:List (List p.2.den))++(h.1.2▸B:List (List p.2.den))) none none))
    else False
   |_,_=>False
  |_,_=>False
def Zd (st:St) (io:Bool) (k:Nat):(c:CK)->AC->(c.den->List (Nat×Loc)->Prop)->Prop
 | .Gh τ, .own l off len,K=>Dm (Bh st τ (.own l off len)) λp=>K p.2 [(Bm false k, .view l)]
 | .Gh τ, .clo g Bp,K=>match Ua st (Bp.map (·.1))&&!τ.Ab with
  |true=>Dm (Eu st τ (.clo g Bp)) λp=>K p.2 (views k (Bp.map (·.1)))
  |false=>False
 | .Gh τ, .Dj l i,K=>match Ua st [l]&&!τ.Ab with
  |true=>Dm (Eu st τ (.Dj l i)) λp=>K p.2 (views k [l])
  |false=>False
 | .Gh τ, .sub l i c,K=>Dm (Bh st τ (.sub l i c)) λp=>K p.2 [(Bm false k, .view l)]
 | .Gh τ,a,K=>match τ.flat||a.settled with
  |true=>Dm (Bh st τ a) λp=>K p.2 []
  |false=>False
 | .row e te, .own l off len,K=>match st.at l with
  |some (.arr _ _ e' Kd xs)=>if h:e'=e/\Kd=te then off=0/\len=xs.length/\K (h.1▸xs:List e.den) [(Bm io k, .row l)] else False
  |_=>False
 | .row e _, .sub l i c,K=>match st.at l with
  |some (.Cu e' _ xs)=>if h:e'= .slice e/\e.flat=true/\io=true/\c=0 then ∃y,xs[i]?=some y/\K (h.1▸y:(Ty.slice e).den) [(Bm io k, .sub l i c)] else False
  |_=>False
 | .row _ _, .Gw,K=>K [] []
 | .Dh e te, .own l off len,K=>match st.at l with
  |some (.Cu e' Kd xs)=>if h:e'=e/\Kd=te then off=0/\len=xs.length/\K (h.1▸xs:List e.den) [(Bm io k, .row l)] else False
  |_=>False
 | .Dh e _, .sub l i c,K=>match st.at l with
  |some (.Cu e' _ xs)=>if h:e'= .slice e/\io=true/\c=0 then ∃y,xs[i]?=some y/\K (h.1▸y:(Ty.slice e).den) [(Bm io k, .sub l i c)] else False
  |_=>False
 | .Dh _ _, .Gw,K=>K [] []
 | .part e te, .own l off len,K=>match st.at l with
  |some (.arr _ _ e' Kd xs)=>if h:e'=e/\Kd=te/\e.flat=true/\io=true then K ((h.1▸xs:List e.den),off,len) [(Bm io k, .row l)] else False
  |_=>False
 | .Ai e te _, .own l off len,K=>match st.at l with
  |some (.Ai e' Kd rows none _)=>if h:e'=e/\Kd=te/\io=false then off=0/\len=rows.length/\K (h.1▸rows:List (List e.den)) [(Bm io k, .row l)] else False
  |_=>False
 |_,_,_=>False
def qS (st:St):(k:Nat)->(cs:List (Bool×CK))->List AC->(Ins.den cs->List (Nat×Loc)->Prop)->Prop
 |_,[],[],K=>K () []
 |k,p::r,a::as,K=>Zd st p.1 k p.2 a λx t1=>qS st (k+1) r as λy t2=>K (x,y) (t1++t2)
 |_,_,_,_=>False
def iV (st:St):(c:CK)->c.den->AC->(St->Prop)->Prop
 | .row e _,ys, .own l _ len,K=>match st.at l with
  |some (.arr fr tr e' te xs)=>if h:e=e' then (List.length ys=len/\xs.length=len)/\K (st.Ff l (.arr (fr&&e'.flat) (tr&&e'.flat) e' te (h▸ys))) else False
  |_=>False
 | .Dh e _,ys, .own l _ len,K=>match st.at l with
  |some (.Cu e' te xs)=>if h:e=e' then (List.length ys=len/\xs.length=len)/\K (st.Ff l (.Cu e' te (h▸ys))) else False
  |_=>False
 | .row e _,ys, .sub l i _,K=>match st.at l with
  |some (.Cu e' te xs)=>if h: .slice e=e' then ∃y,xs[i]?=some y/\List.length ys=List.length (h▸y:(Ty.slice e).den)/\K (st.Ff l (.Cu e' te (xs.set i (h▸(ys:(Ty.slice e).den))))) else False
  |_=>False
 | .Dh e _,ys, .sub l i _,K=>match st.at l with
  |some (.Cu e' te xs)=>if h: .slice e=e' then ∃y,xs[i]?=some y/\List.length ys=List.length (h▸y:(Ty.slice e).den)/\K (st.Ff l (.Cu e' te (xs.set i (h▸(ys:(Ty.slice e).den))))) else False
  |_=>False
 |_,_, .Gw,K=>K st
 |_,_,_,_=>False
def DD (st:St) (e:Ty) (ys:List e.den):AC->(St->Prop)->Prop
 | .own l _ _,K=>match st.at l with
  |some (.arr fr tr e' te xs)=>if h:e=e' then List.length ys=xs.length/\K (st.Ff l (.arr fr tr e' te (h▸ys))) else False
  |_=>False
 |_,_=>False
def bo:(cs:List (Bool×CK))->IOs.den cs->List AC->St->(St->Prop)->Prop
 | [],_,_,st,K=>K st
 |(true, .Gh _)::r,x,_::as,st,K=>bo r x as st K
 |(true, .row e te)::r,x,a::as,st,K=>iV st (.row e te) x.1 a λst'=>bo r x.2 as st' K
 |(true, .Dh e te)::r,x,a::as,st,K=>iV st (.Dh e te) x.1 a λst'=>bo r x.2 as st' K
 |(true, .part e _)::r,x,a::as,st,K=>DD st e x.1 a λst'=>bo r x.2 as st' K
 |(true, .Ai _ _ _)::r,x,_::as,st,K=>bo r x as st K
 |(false,_)::r,x,_::as,st,K=>bo r x as st K
 |_,_,_,_,_=>False
def lZ (H:List (Nat×OB)) (ls:List Nat) (n:Nat):List AV->Prop->Prop
 | [],K=>K
 | .at (.sub l i _)::r,K=>match ls.contains l with
  |true=>(i<n/\i<jK H l)/\lZ H ls n r K
  |false=>lZ H ls n r K
 |_::r,K=>lZ H ls n r K
def uO (st:St) (dst:Option Nat) (s:MSpec) (args:List AV) (K:AV->St->Prop):Prop:=
 Dm (xM st s args) λq=>Dm (ungroup s.Gg q.2.2) λfY=>qS st 0 s.ins (q.2.1++fY) λx tks=>
  match Rd (tks.map λt=>t.2.Og)&&pP (Ks s tks (dst.getD 0)) (s.outs.length+(ee s (dst.getD 0)).length)&&Nat.blt s.outs.length 1000&&Nat.blt s.ins.length 1000&&(Nn s.ins q.2.1&&q.1.all λl=>!((tks.map λt=>t.2.Og)++Ks s tks (dst.getD 0)).contains l) with
  |true=> ∃p,s.fn x=some p/\bo s.ins p.2 (q.2.1++fY) st λst1=>Dm (HD s (dst.getD 0) ((Ts (Bn (Ks s tks (dst.getD 0))) 0 s.outs p.1).drop s.Rl)) λv=>
    lZ (dB st st1 (dst.getD 0) s q.1 tks p.1).heap (Tm st.heap (Ks s tks (dst.getD 0)) tks s.keeps) (s.Cj x) st.tmps
     (K v (dW st (dB st st1 (dst.getD 0) s q.1 tks p.1) (Tm st.heap (Ks s tks (dst.getD 0)) tks s.keeps) (s.Cj x)))
  |false=>False
def JS (w:WS) (o:Oper) (K:AV->WS->Prop):Prop:=
 match o.op with
 | .store t p x=>qH T w.st t (w.st.ev p) (w.st.ev x) λs=>K .undef (w.to s)
 | .makeSlice t l c=>Dm o.dst λd=>vP T w.st d t (w.st.ev l) (w.st.ev c) λv s=>K v (w.to s)
 | .call {callee:= .builtin .append,args,argTypes} =>match o.dst,args.toList,argTypes.toList with
  |some d,[x,y],[t,t']=>if t=t' then kc T w.st d t x y λv s=>K v (w.to s) else False
  |_,_,_=>False
 | .assign _=>Dm (evalOp T Γ w.st o) λr=>K r.1 (w.to r.2)
 | .alloc _=>Dm (evalOp T Γ w.st o) λr=>K r.1 (w.to r.2)
 | .box _ _=>Dm (evalOp T Γ w.st o) λr=>K r.1 (w.to r.2)
 | .buildSlice t len parts=>Dm o.dst λd=>Xp T w.st d t len parts λv s=>K v (w.to s)
 | .build _ _=>Dm (evalOp T Γ w.st o) λr=>K r.1 (w.to r.2)
 | .makeMap _ _=>Dm (evalOp T Γ w.st o) λr=>K r.1 (w.to r.2)
 | .mapUpdate _ _ _ _=>Dm (evalOp T Γ w.st o) λr=>K r.1 (w.to r.2)
 | .insert _ _ _ _=>Dm (evalOp T Γ w.st o) λr=>K r.1 (w.to r.2)
 | .call {callee:= .builtin .copy, .. } =>Dm (evalOp T Γ w.st o) λr=>K r.1 (w.to r.2)
 | .call {callee:= .builtin .clear, .. } =>Dm (evalOp T Γ w.st o) λr=>K r.1 (w.to r.2)
 | .call {callee:= .value (.func f),args, .. } =>match Γ f with
  |some (.m s)=>uO w.st o.dst s (args.toList.map w.st.ev) λv s'=>K v (w.to s')
  |some (.q s)=>match Yi s (args.toList.map w.st.ev) with
   |true=>Dm (Iq args.toList w.st) λst1=>qW T Γ (w.to st1) o K
   |false=>qW T Γ w o K
  |_=>qW T Γ w o K
 |_=>qW T Γ w o K
def AV.CA:AV->Bool
 | .at .skip=>true
 |_=>false
def bW (w:WS) (o:Oper) (K:AV->WS->Prop):Prop:=
 match o.op with
 | .buildSlice t len parts=>Dm (Td T w.st t len parts) λv=>K v w
 | .build t parts=>Dm (Ou T w.st t parts) λv=>K v w
 |_=>qW T Γ w o K
def df (ops:Array Oper) (w:WS) (o:Oper) (run:(AV->WS->Prop)->WS->Prop) (K:WS->Prop):Prop:=
 match o.guard with
 |none=>run (λv w'=>K (w'.nc o v)) w
 |some (j,want)=>Dm ((ops[j]?).bind (·.dst)) λt=>match (w.st.get t).CA with
  |true=>K (w.put o.dst (.at .skip))
  |false=>UC w t λb w'=>match b,want with
   |true,true=>run (λv me=>K (me.nc o v)) w'
   |false,false=>run (λv me=>K (me.nc o v)) w'
   |_,_=>K (w'.put o.dst (.at .skip))
def MR (ops:Array Oper):List Oper->WS->(WS->Prop)->Prop
 | [],w,K=>K w
 |o::r,w,K=>df ops w o (λk w'=>JS T Γ w' o k) λw'=>MR ops r w' K
def BS (ops:Array Oper):List Nat->WS->(WS->Prop)->Prop
 | [],w,K=>K w
 |i::r,w,K=>Dm ops[i]? λo=>df ops w o (λk w'=>JS T Γ w' o k) λw'=>BS ops r w' K
def nV (ops:Array Oper):List Nat->WS->(WS->Prop)->Prop
 | [],w,K=>K w
 |i::r,w,K=>Dm ops[i]? λo=>df ops w o (λk w'=>bW T Γ w' o k) λw'=>nV ops r w' K
def FF:List Nat->(Nat->Prop)->Prop
 | [],_=>True
 | [i],P=>P i
 |i::j::r,P=>P i/\FF (j::r) P
def yb (ops:Array Oper):Nat->Array Bool->WS->(WS->Prop)->Prop
 |0,Aa,w,K=>match Region.ready .any ops Aa with
  | []=>K w
  |_::_=>False
 |f+1,Aa,w,K=>match Region.ready .any ops Aa with
  | []=>False
  |i::r=>FF (i::r) λk=>Dm ops[k]? λo=>df ops w o (λkk w'=>JS T Γ w' o kk) λw'=>yb ops f (Aa.setIfInBounds k true) w' K
def NX:AC->Type->Type
 | .data _ τ _,R=>τ.den×R
 | .sub _ _ _,R=>Nat×R
 | .Fc _ _,R=>Nat×R
 | .Fa _ _ _,R=>Nat×Nat×R
 |_,R=>R
def uF:List AC->Type->Type
 | [],R=>R
 |c::r,R=>NX c (uF r R)
def NY:AV->Type->Type
 | .at a,R=>NX a R
 | .agg cs,R=>uF cs R
 | .Sv _ τ _,R=>τ.den×R
 | .Hz _,R=>R
def SN:OB->Type->Type
 | .arr _ _ e _ _,R=>List e.den×R
 | .Cu e _ _,R=>List e.den×R
 | .var _ vs,R=>uF vs R
 | .Ai e _ _ _ none,R=>List (List e.den)×R
 | .Ai e _ _ _ (some _),R=>List (List e.den)×(Nat×R)
 | .Nd v _,R=>(ByteArray->Option v.den)×R
def ja:List AV->Type->Type
 | [],R=>R
 |v::r,R=>NY v (ja r R)
def nW:List (Nat×OB)->Type->Type
 | [],R=>R
 |p::r,R=>SN p.2 (nW r R)
def TF (s:St):Type:=ja s.tmps (nW s.heap Unit)
def xb:(c:AC)-> {R:Type} ->R->NX c R
 | .data _ _ x,_,r=>(x,r)
 | .undef,_,r=>r
 | .skip,_,r=>r
 | .Gw,_,r=>r
 | .Pf,_,r=>r
 | .own _ _ _,_,r=>r
 | .Dj _ _,_,r=>r
 | .Fc _ i,_,r=>(i,r)
 | .clo _ _,_,r=>r
 | .Fq _,_,r=>r
 | .sub _ i _,_,r=>(i,r)
 | .Fa _ i j,_,r=>(i,j,r)
def jX:(l:List AC)-> {R:Type} ->R->uF l R
 | [],_,r=>r
 |c::l,_,r=>xb c (jX l r)
def IA:(c:AV)-> {R:Type} ->R->NY c R
 | .at a,_,r=>xb a r
 | .agg cs,_,r=>jX cs r
 | .Sv _ _ x,_,r=>(x,r)
 | .Hz _,_,r=>r
def JR:(b:OB)-> {R:Type} ->R->SN b R
 | .arr _ _ _ _ xs,_,r=>(xs,r)
 | .Cu _ _ xs,_,r=>(xs,r)
 | .var _ vs,_,r=>jX vs r
 | .Ai _ _ rows _ none,_,r=>(rows,r)
 | .Ai _ _ rows _ (some p),_,r=>(rows,p.2,r)
 | .Nd _ m,_,r=>(m,r)
def jQ:(l:List AV)-> {R:Type} ->R->ja l R
 | [],_,r=>r
 |c::l,_,r=>IA c (jQ l r)
def jL:(l:List (Nat×OB))-> {R:Type} ->R->nW l R
 | [],_,r=>r
 |p::l,_,r=>JR p.2 (jL l r)
def xQ (s:St):TF s:=jQ s.tmps (jL s.heap ())
def gf:(c d:AC)-> {R:Type} ->R->Option (NX c R)
 | .data fr τ _, .data Nj Ie x,_,r=>if h:Ie=τ/\Nj=fr then some (h.1▸x,r) else none
 | .undef, .undef,_,r=>some r
 | .skip, .skip,_,r=>some r
 | .Gw, .Gw,_,r=>some r
 | .Pf, .Pf,_,r=>some r
 | .own l _ _, .own l' _ _,_,r=>if l=l' then some r else none
 | .Dj l i, .Dj l' i',_,r=>if l=l'/\i=i' then some r else none
 | .Fc l _, .Fc l' i',_,r=>if l=l' then some (i',r) else none
 | .clo f c, .clo f' c',_,r=>if f=f'/\c=c' then some r else none
 | .Fq l, .Fq l',_,r=>if l=l' then some r else none
 | .sub l _ c, .sub l' i' c',_,r=>if l=l'/\c=c' then some (i',r) else none
 | .Fa l _ _, .Fa l' i' j',_,r=>if l=l' then some (i',j',r) else none
 |_,_,_,_=>none
def Kr:(l m:List AC)-> {R:Type} ->R->Option (uF l R)
 | [],[],_,r=>some r
 |c::l,d::m,_,r=>(Kr l m r).bind λr'=>gf c d r'
 |_,_,_,_=>none
def dE:(c d:AV)-> {R:Type} ->R->Option (NY c R)
 | .at a, .at b,_,r=>gf a b r
 | .agg cs, .agg ds,_,r=>Kr cs ds r
 | .Sv fr τ _, .Sv Nj Ie x,_,r=>if h:Ie=τ/\Nj=fr then some (h.1▸x,r) else none
 |_,_,_,_=>none
def Lj:(b d:OB)-> {R:Type} ->R->Option (SN b R)
 | .arr fr tr e tid _, .arr Nj EE e' Mp xs,_,r=>if h:e'=e/\Nj=fr/\EE=tr/\Mp=tid then some (h.1▸xs,r) else none
 | .Cu e tid _, .Cu e' Mp xs,_,r=>if h:e'=e/\Mp=tid then some (h.1▸xs,r) else none
 | .Nd v _, .Nd v' m,_,r=>if h:v'=v then some (h▸m,r) else none
 | .var t vs, .var t' us,_,r=>if t'=t then Kr vs us r else none
 | .Ai e te _ out none, .Ai e' Kd rows ai none,_,r=>if h:e'=e/\Kd=te/\ai=out then some (h.1▸rows,r) else none
 | .Ai e te _ out (some p), .Ai e' Kd rows ai (some p'),_,r=>if h:e'=e/\Kd=te/\ai=out/\p'.1=p.1 then some (h.1▸rows,p'.2,r) else none
 |_,_,_,_=>none
def Ir:(l m:List AV)-> {R:Type} ->R->Option (ja l R)
 | [],[],_,r=>some r
 |c::l,d::m,_,r=>(Ir l m r).bind λr'=>dE c d r'
 |_,_,_,_=>none
def Jj:(l m:List (Nat×OB))-> {R:Type} ->R->Option (nW l R)
 | [],[],_,r=>some r
 |p::l,q::m,_,r=>if q.1=p.1 then (Jj l m r).bind λr'=>Lj p.2 q.2 r' else none
 |_,_,_,_=>none
def bL (s t:St):Option (TF s):=(Jj s.heap t.heap ()).bind λr=>Ir s.tmps t.tmps r
def dA:(c:AC)-> {R:Type} ->NX c R->AC×R
 | .data fr τ _,_,v=>(.data fr τ v.1,v.2)
 | .undef,_,r=>(.undef,r)
 | .skip,_,r=>(.skip,r)
 | .Gw,_,r=>(.Gw,r)
 | .Pf,_,r=>(.Pf,r)
 | .own l off len,_,r=>(.own l off len,r)
 | .Dj l i,_,r=>(.Dj l i,r)
 | .Fc l _,_,v=>(.Fc l v.1,v.2)
 | .clo f c,_,r=>(.clo f c,r)
 | .Fq l,_,r=>(.Fq l,r)
 | .sub l _ c,_,v=>(.sub l v.1 c,v.2)
 | .Fa l _ _,_,v=>(.Fa l v.1 v.2.1,v.2.2)
def Rq:(l:List AC)-> {R:Type} ->uF l R->List AC×R
 | [],_,r=>([],r)
 |c::l,_,v=>((dA c v).1::(Rq l (dA c v).2).1,(Rq l (dA c v).2).2)
def kf:(c:AV)-> {R:Type} ->NY c R->AV×R
 | .at a,_,v=>(.at (dA a v).1,(dA a v).2)
 | .agg cs,_,v=>(.agg (Rq cs v).1,(Rq cs v).2)
 | .Sv fr τ _,_,v=>(.Sv fr τ v.1,v.2)
 | .Hz l,_,r=>(.Hz l,r)
def ld:(b:OB)-> {R:Type} ->SN b R->OB×R
 | .arr fr tr e tid _,_,v=>(.arr fr tr e tid v.1,v.2)
 | .Cu e tid _,_,v=>(.Cu e tid v.1,v.2)
 | .Nd w _,_,v=>(.Nd w v.1,v.2)
 | .var t vs,_,v=>(.var t (Rq vs v).1,(Rq vs v).2)
 | .Ai e te _ out none,_,v=>(.Ai e te v.1 out none,v.2)
 | .Ai e te _ out (some p),_,v=>(.Ai e te v.1 out (some (p.1,v.2.1)),v.2.2)
def Oc:(l:List AV)-> {R:Type} ->ja l R->List AV×R
 | [],_,r=>([],r)
 |c::l,_,v=>((kf c v).1::(Oc l (kf c v).2).1,(Oc l (kf c v).2).2)
def Wi:(l:List (Nat×OB))-> {R:Type} ->nW l R->List (Nat×OB)×R
 | [],_,r=>([],r)
 |p::l,_,v=>((p.1,(ld p.2 v).1)::(Wi l (ld p.2 v).2).1,(Wi l (ld p.2 v).2).2)
def bK (s:St) (v:TF s):St:= {tmps:=(Oc s.tmps v).1,heap:=(Wi s.heap (Oc s.tmps v).2).1}
def lenOf (H:List (Nat×OB)) (l:Nat):Nat:=match Ad H l with|some (.arr _ _ _ _ xs)=>xs.length|some (.Cu _ _ xs)=>xs.length|some (.Ai _ _ rows _ _)=>rows.length|_=>0
def Ra (ps:List Nat):List AV->List (Nat×Nat×Nat)
 | []=> []
 | .at (.own l off len)::r=>if ps.contains l then (l,off,len)::Ra ps r else Ra ps r
 |_::r=>Ra ps r
def MP:List (Nat×Nat×Nat)->Nat->Nat
 | [],_=>0
 |(k,o,_)::r,l=>if k=l then o else MP r l
def yF:List (Nat×Nat×Nat)->List (Nat×OB)->Nat->Nat
 | [],H,l=>lenOf H l
 |(k,_,n)::r,H,l=>if k=l then n else yF r H l
def Zh (B:List (Nat×Nat×Nat)) (H:List (Nat×OB)):AC->AC
 | .own l _ _=> .own l (MP B l) (yF B H l)
 |c=>c
def St.whole (B:List (Nat×Nat×Nat)) (s:St):St:=s.Fp (Zh B s.heap)
def oZ (B:List (Nat×Nat×Nat)) (H:List (Nat×OB)) (c:AC) (K:Prop):Prop:=match c with
 | .own l off len=>off=MP B l/\len=yF B H l/\K
 |_=>K
def Vr (B:List (Nat×Nat×Nat)) (H:List (Nat×OB)):List AC->Prop->Prop
 | [],K=>K
 |c::r,K=>oZ B H c (Vr B H r K)
def xd (B:List (Nat×Nat×Nat)) (H:List (Nat×OB)) (c:AV) (K:Prop):Prop:=match c with
 | .at a=>oZ B H a K
 | .agg cs=>Vr B H cs K
 | .Sv _ _ _=>K
 | .Hz _=>False
def Su (B:List (Nat×Nat×Nat)) (H:List (Nat×OB)):List AV->Prop->Prop
 | [],K=>K
 |c::r,K=>xd B H c (Su B H r K)
def cc (B:List (Nat×Nat×Nat)) (H:List (Nat×OB)):List (Nat×OB)->Prop->Prop
 | [],K=>K
 |p::r,K=>match p.2 with
  | .var _ vs=>Vr B H vs (cc B H r K)
  |_=>cc B H r K
def qF (B:List (Nat×Nat×Nat)) (s:St) (K:Prop):Prop:=Su B s.heap s.tmps (cc B s.heap s.heap K)
def AV.Pe:AV->Bool
 | .at (.data _ _ _)=>true
 |_=>false
def Gs (p:Nat->Bool):Nat->List AV->List Bool
 |_,[]=> []
 |i,v::r=>(v.Pe&&p i)::Gs p (i+1) r
def stays (live:Nat->List Nat) (c:Code) (t:Nat):Bool:=!(writes c).contains t&&Tl live c t
def Mu:List Bool->List AV->List AV
 |true::f,_::r=> .undef::Mu f r
 |false::f,v::r=>v::Mu f r
 |_,l=>l
def Nt:List Bool->List AV->List AV->List AV
 |true::f,a::s,_::r=>a::Nt f s r
 |false::f,_::s,v::r=>v::Nt f s r
 |_,_,l=>l
def St.mask (fx:List Bool) (s:St):St:= {tmps:=Mu fx s.tmps,heap:=s.heap}
def St.mT (fx:List Bool) (s0 s:St):St:= {tmps:=Nt fx s0.tmps s.tmps,heap:=s.heap}
def jH (c:AC) (k:AC->Prop):Prop:=match c with
 | .undef=>k .undef
 | .skip=>k .skip
 | .Gw=>k .Gw
 | .Pf=>k .Pf
 | .data fr τ x=>match fr with
  |true=>k (.data true τ x)
  |false=>k (.data false τ x)
 | .own l off len=>k (.own l off len)
 | .Dj l i=>k (.Dj l i)
 | .Fc l i=>k (.Fc l i)
 | .clo f c=>k (.clo f c)
 | .Fq l=>k (.Fq l)
 | .sub l i c=>k (.sub l i c)
 | .Fa l i c=>k (.Fa l i c)
def aP:List AC->(List AC->Prop)->Prop
 | [],k=>k []
 |c::r,k=>jH c λc'=>aP r λr'=>k (c'::r')
def pw (c:AV) (k:AV->Prop):Prop:=match c with
 | .at a=>jH a λa'=>k (.at a')
 | .agg cs=>aP cs λaH=>k (.agg aH)
 | .Sv fr τ x=>k (.Sv fr τ x)
 | .Hz l=>k (.Hz l)
def aQ:List AV->(List AV->Prop)->Prop
 | [],k=>k []
 |c::r,k=>pw c λc'=>aQ r λr'=>k (c'::r')
def px (b:OB) (k:OB->Prop):Prop:=match b with
 | .arr fr tr e tid xs=>match fr,tr with
  |true,true=>k (.arr true true e tid xs)
  |true,false=>k (.arr true false e tid xs)
  |false,true=>k (.arr false true e tid xs)
  |false,false=>k (.arr false false e tid xs)
 | .Cu e tid xs=>k (.Cu e tid xs)
 | .var t vs=>aP vs λrq=>k (.var t rq)
 | .Ai e te rows out kp=>match out,kp with
  |none,none=>k (.Ai e te rows none none)
  |none,some (l,n)=>k (.Ai e te rows none (some (l,n)))
  |some i,none=>k (.Ai e te rows (some i) none)
  |some i,some (l,n)=>k (.Ai e te rows (some i) (some (l,n)))
 | .Nd v m=>k (.Nd v m)
def kD:List (Nat×OB)->(List (Nat×OB)->Prop)->Prop
 | [],k=>k []
 |(l,b)::r,k=>px b λb'=>kD r λr'=>k ((l,b')::r')
def gw (w:WS) (k:WS->Prop):Prop:=aQ w.st.tmps λt=>kD w.st.heap λh=>k {kn:=w.kn,st:= {tmps:=t,heap:=h} }
def gu (s:St) (k:St->Prop):Prop:=aQ s.tmps λt=>kD s.heap λh=>k {tmps:=t,heap:=h}
def c9:List Bool->(List Bool->Prop)->Prop
 | [],k=>k []
 |true::r,k=>c9 r λr'=>k (true::r')
 |false::r,k=>c9 r λr'=>k (false::r')
theorem iE {c:AC} {k:AC->Prop} :jH c k↔k c:=by
 cases c<;>simp only [jH]
 split<;>rfl
theorem Xw: ∀ {l:List AC} {k:List AC->Prop},aP l k↔k l
 | [],k=>Iff.rfl
 |c::r,k=>by simp only [aP];rw [iE,Xw]
theorem se {c:AV} {k:AV->Prop} :pw c k↔k c:=by
 cases c<;>simp only [pw]
 ·exact iE
 ·exact Xw
theorem Xx: ∀ {l:List AV} {k:List AV->Prop},aQ l k↔k l
 | [],k=>Iff.rfl
 |c::r,k=>by simp only [aQ];rw [se,Xx]
theorem sf {b:OB} {k:OB->Prop} :px b k↔k b:=by
 cases b<;>simp only [px]
 ·split<;>rfl
 ·exact Xw
 ·split<;>rfl
theorem dN: ∀ {l:List (Nat×OB)} {k:List (Nat×OB)->Prop},kD l k↔k l
 | [],k=>Iff.rfl
 |(l,b)::r,k=>by simp only [kD];rw [sf,dN]
theorem yl {s:St} {k:St->Prop} :gu s k=k s:=by
 unfold gu
 exact propext (by rw [Xx,dN])
theorem dM: ∀ {l:List Bool} {k:List Bool->Prop},c9 l k=k l
 | [],k=>rfl
 |true::r,k=>by simp only [c9];rw [dM]
 |false::r,k=>by simp only [c9];rw [dM]
theorem Xy {w:WS} {k:WS->Prop} :gw w k↔k w:=by
 unfold gw
 rw [Xx,dN]
def Sz:AC->List (Nat×Nat)
 | .own _ off len=> [(off,len)]
 |_=> []
def Tb:AV->List (Nat×Nat)
 | .at a=>Sz a
 | .agg cs=>cs.flatMap Sz
 |_=> []
def eb:OB->List (Nat×Nat)
 | .var _ vs=>vs.flatMap Sz
 |_=> []
def wN (s:St):List (Nat×Nat):=s.tmps.flatMap Tb++s.heap.flatMap λp=>eb p.2
def VY (s0 s:St):Prop:=wN s=wN s0/\Dm (bL s0 s) λv=>v=xQ s0
def gr (ops:Array Oper):Nat->Array Bool->WS->(WS->Prop)->Prop
 |0,Aa,w,K=>match Region.ready .any ops Aa with
  | []=>K w
  |_::_=>False
 |f+1,Aa,w,K=>match Region.ready .any ops Aa with
  | []=>False
  |k::_=>Dm ops[k]? λo=>df ops w o (λkk w'=>JS T Γ w' o kk) λw'=>gr ops f (Aa.setIfInBounds k true) w' K
def rF (P:List (Nat×Nat×AV×OB)) (ops:Array Oper):Nat->Array Bool->WS->(WS->Prop)->Prop
 |0,Aa,w,K=>match Region.ready .any ops Aa with
  | []=>K w
  |_::_=>False
 |f+1,Aa,w,K=>match Region.ready .any ops Aa with
  | []=>False
  |i::r=>FF (i::r) λk=>Dm ops[k]? λo=>match vV P Γ ops w.st o k with
   |true=>df ops w o (λkk w'=>JS T Γ w' o kk) λw'=>rF P ops f (Aa.setIfInBounds k true) w' K
   |false=>False
def pb (P:List (Nat×Nat×AV×OB)) (n:Nat) (L0:Array Bool) (ops:Array Oper) (w:WS) (K:WS->Prop):Prop:=
 match (Rd (P.map (·.1))&&Rd (P.map (·.2.1)))&&((P.all λa=>gM a.2.1 w.st)&&(Nat.ble P.length n&&Nat.ble (n-P.length) 10)) with
 |true=>BS T Γ ops (P.map (·.1)) w λw1=>gw w1 λw1=>gr T Γ ops (n-P.length) (Dw (P.map (·.1)) L0) w1 λw0=>gw w0 λw0=>K w0/\rF T Γ P ops (n-P.length) (Dw (P.map (·.1)) L0) w1 λw2=>VY w0.st w2.st
 |false=>False
def ql (ops:Array Oper) (draw:Bool) (w:WS) (K:WS->Prop):Prop:=
 match draw with
 |true=>match cm false Γ ops with
  |true=>nV T Γ ops (cb false Γ ops) w λw'=>BS T Γ ops (Er false Γ ops) w' K
  |false=>match cm true Γ ops with
   |true=>nV T Γ ops (cb true Γ ops) w λw'=>BS T Γ ops (Er true Γ ops) w' K
   |false=>match Region.noSelect ops&&Nat.ble (ops.size-(Jb ops).length) 8 with
    |true=>nV T Γ ops (Jb ops) w λw'=>match c8 false ops with
     |true=>yb T Γ ops (ops.size-(Jb ops).length) (Dw (Jb ops) (Array.replicate ops.size false)) w' K
     |false=>gr T Γ ops (ops.size-(Jb ops).length) (Dw (Jb ops) (Array.replicate ops.size false)) w' λw0=>gw w0 λw0=>K w0/\yb T Γ ops (ops.size-(Jb ops).length) (Dw (Jb ops) (Array.replicate ops.size false)) w' λw1=>VY w0.st w1.st
    |false=>match Region.noSelect ops with
     |true=>nV T Γ ops (Jb ops) w λw'=>pb T Γ (Qi T ops (Dw (Jb ops) (Array.replicate ops.size false))) (ops.size-(Jb ops).length) (Dw (Jb ops) (Array.replicate ops.size false)) ops w' K
     |false=>False
 |false=>MR T Γ ops ops.toList w K
def Vv (live:Nat->List Nat):Code->WS->(Gc->WS->Prop)->Prop
 | .skip,w,Q=>Q .normal w
 | .label _,w,Q=>Q .normal w
 | .region _ ops draw,w,Q=>ql T (qk Γ draw) ops draw w λw'=>gw w' (Q .normal)
 | .seq a b,w,Q=>Vv live a w λe w'=>match e with
  | .normal=>Vv live b w' Q
  | .exit id=>Q (.exit id) w'
  | .ret=>Q .ret w'
 | .cond c a b,w,Q=>UB w c λt w'=>match t with
  |true=>Vv live a w' Q
  |false=>Vv live b w' Q
 | .block id c,w,Q=>Vv live c w λe w'=>match e with
  | .normal=>Q .normal w'
  | .exit yB=>if yB=id then Q .normal w' else Q (.exit yB) w'
  | .ret=>Q .ret w'
 | .loop c,w,Q=>
  gu (w.st.clean (live (Bw c))) λs0=>c9 (Gs (stays live c) 0 s0.tmps) λfx=>gu (s0.mask fx) λm=>
  qF (Ra T.parts s0.tmps) s0 (Co (V:=TF m) (λv k=>gu ((St.mT fx s0 (bK m v)).whole (Ra T.parts s0.tmps)) λsb=>Vv live c ⟨[],sb⟩ λe w'=>match e with
   | .normal=>gu (w'.st.clean (live (Bw c))) λs1=>qF (Ra T.parts s0.tmps) s1 (Dm (bL m (s1.mask fx)) k)
   | .exit id=>Q (.exit id) w'
   | .ret=>Q .ret w') (xQ m))
 | .exit id,w,Q=>Q (.exit id) w
 | .ret,w,Q=>Q .ret w
 |_,_,_=>False
def KG (s:Spec) (fn:Func) (P:s.res.den->Prop) (st:St):Prop:=
 Dm (eU T s fn st) λp=>match p.1||!s.fresh with|true=>P p.2|false=>False
def aZ (st:St) (K:Prop):List AC->List (Bool×CK)->Prop
 | .own l off len::as,(true,_)::r=>match st.at l with
  |some (.arr _ _ _ _ xs)=>(off=0/\len=xs.length)/\aZ st K as r
  |some (.Cu _ _ xs)=>(off=0/\len=xs.length)/\aZ st K as r
  |_=>False
 |_::as,(false,_)::r=>aZ st K as r
 |_,_=>K
def gN (st:St):(cs:List CK)->List AC->(CKs.den cs->List Nat->Prop)->Prop
 | [],[],K=>K () []
 | .Ai e te _::r, .own l off len::as,K=>match st.at l with
  |some (.Ai e' Kd rows none _)=>if h:e'=e/\Kd=te then (off=0/\len=rows.length)/\gN st r as λy t=>K ((h.1▸rows:List (List e.den)),y) (l::t) else False
  |_=>False
 |c::r,a::as,K=>Dm (cC st c a) λp=>gN st r as λy t=>K (p.1,y) (p.2++t)
 |_,_,_=>False
def pO (st:St) (n:Nat) (as:List AC):List (Nat×Nat)->Prop->Prop
 | [],K=>K
 |(k,j)::r,K=>match as[j]? with
  |some (.own l _ _)=>match st.at l with
   |some (.Ai _ _ _ _ (some p))=>match Nat.beq p.1 (Bm false k)&&Nat.blt k 1000 with
    |true=>n<=p.2/\pO st n as r K
    |false=>False
   |_=>False
  |_=>False
def lz (s:MSpec) (fn:Func) (x:Ins.den s.ins) (st:St) (cs:List AC) (P:CKs.den s.outs×IOs.den s.ins->Prop):Prop:=
 Dm (Vl T st fn.results.toList) λl=>Dm (wu s st l) λp=>gN st s.outs (cs++p.1) λr ls=>Dm (Il st 0 s.ins) λo=>
  match Rd (p.2++ls++Ja 0 s.ins)&&Nat.blt s.ins.length 1000&&Nat.blt s.outs.length 1000&&s.CM with
  |true=>pO st (s.Cj x) (cs++p.1) s.keeps (P (r,o))
  |false=>False
def xN (s:MSpec) (fn:Func) (x:Ins.den s.ins) (st:St) (P:CKs.den s.outs×IOs.den s.ins->Prop):Prop:=
 match s.ptr with
 |none=>lz T s fn x st [] P
 |some p=>match st.at Kq with
  |some (.var tid vs)=>match Nat.beq tid p.1&&Nat.beq vs.length p.2 with
   |true=>Dm (En 0 s.ins vs) λcs=>aZ st (lz T s fn x st cs P) vs s.ins
   |false=>False
  |_=>False
@[irreducible] def fnMW (s:MSpec) (fn:Func) (x:Ins.den s.ins) (P:CKs.den s.outs×IOs.den s.ins->Prop):Prop:=
 match Nat.blt s.ins.length 1000&&qg s with
 |false=>False
 |true=>Dm fn.body λc=>Vv T Γ (pT T.marks fn c) c {kn:= [],st:= {tmps:=Rk s (Tk 0 s.ins x)++List.replicate (fn.ntmps-(Rk s (Tk 0 s.ins x)).length) .undef,heap:=iK s x} } λe w=>match e with
  | .normal=>xN T s fn x w.st P
  | .ret=>xN T s fn x w.st P
  | .exit _=>False
@[irreducible] def fnW (s:Spec) (fn:Func) (x:s.arg.den) (P:s.res.den->Prop):Prop:=
 Dm fn.body λc=>Vv T Γ (pT T.marks fn c) c {kn:= [],st:= {tmps:=Le s.arg x++List.replicate (fn.ntmps-(Le s.arg x).length) .undef,heap:= []} } λe w=>match e with
  | .normal=>KG T s fn P w.st
  | .ret=>KG T s fn P w.st
  | .exit _=>False
end Go.Proofs.Ytjbdmibbbpdnnaa
