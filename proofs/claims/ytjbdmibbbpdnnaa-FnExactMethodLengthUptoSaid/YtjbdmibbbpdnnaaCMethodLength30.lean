/-
  Part 31 of the proof that the statement FnExactMethodLength holds.
-/
import Derived.Test.YtjbdmibbbpdnnaaCMethodLength29
namespace Go.Proofs.Ytjbdmibbbpdnnaa
open Go.RowKit
inductive Br (b:Bool) (A B:Prop):Prop
 |mk (t:b=true->A) (f:b=false->B)
inductive Bn {V:Type} (step:V->(V->Prop)->Prop) (v0:V):Prop
 |mk (I:V->Prop) (μ:V->Nat) (h0:I v0) (h: ∀v,I v->step v (λv'=>I v'/\μ v'<μ v))
structure WS where
 kn:List (Nat×Bool)
 st:St
def pv:List (Nat×Bool)->Nat->Option Bool
 | [],_=>none
 |(k,b)::r,t=>if k=t then some b else pv r t
def qN:List (Nat×Bool)->Nat->List (Nat×Bool)
 | [],_=> []
 |(k,b)::r,t=>if k=t then qN r t else (k,b)::qN r t
def WS.put (w:WS) (dst:Option Tmp) (v:AV):WS:=
 match dst with
 |some d=> {kn:=qN w.kn d,st:=w.st.put (some d) v}
 |none=>w
def Pg (kn:List (Nat×Bool)):Operand->Option Bool
 | .const (.bool b)=>some b
 | .tmp t=>pv kn t
 |_=>none
def Ds (kn:List (Nat×Bool)) (o:Oper):Option Bool:=
 match o.op with
 | .assign x=>Pg kn x
 | .move x=>Pg kn x
 | .unOp .not _ x=>(Pg kn x).map (!·)
 | .pick c a b=>match Pg kn c with
  |some true=>Pg kn a
  |some false=>Pg kn b
  |none=>none
 |_=>none
def WS.pJ (w:WS) (o:Oper) (v:AV):WS:=
 match o.dst,Ds w.kn o with
 |some d,some b=>match (w.st.put (some d) v).get d with
  | .at (.data _ .bool _)=> {kn:=(d,b)::qN w.kn d,st:=w.st.put (some d) v}
  |_=>w.put (some d) v
 |dst,_=>w.put dst v
def WS.to (w:WS) (st:St):WS:= {kn:=w.kn,st:=st}
def brT (w:WS) (t:Nat) (K:Bool->WS->Prop):Prop:=
 match pv w.kn t with
 |some b=>K b w
 |none=>match w.st.get t with
  | .at (.data _ .bool b)=>Br b (K true {kn:=(t,true)::w.kn,st:=w.st}) (K false {kn:=(t,false)::w.kn,st:=w.st})
  |_=>False
def brO (w:WS) (c:Operand) (K:Bool->WS->Prop):Prop:=
 match c with
 | .tmp t=>brT w t K
 | .const (.bool b)=>K b w
 |_=>False
def Eb {α:Type} (o:Option α) (K:α->Prop):Prop:=match o with|some x=>K x|none=>False
def XV (T:Tab) (st:St) (t:TypeId) (x:AV) (l h:Int):Option AV:=
 match x with
 | .at (.data fr (.slice e) xs)=>if (T.elem t).bind T.ty=some e then some (.at (.data fr (.slice e) ((xs.take h.toNat).drop l.toNat))) else none
 | .at (.own k off _)=>match st.at k with
  |some (.arr _ _ e tid _)=>if T.elem t=some tid/\T.ty tid=some e then some (.at (.own k (off+l.toNat) (h.toNat-l.toNat))) else none
  |_=>none
 | .at (.data _ .str s)=>if T.ty t=some .str then some (.at (.data true .str (s.extract l.toNat h.toNat))) else none
 |_=>none
variable (T:Tab) (Γ:Env)
def UP (op:BinOp) (t:TypeId) (x y:AV) (K:AV->Prop):Prop:=
 match op,x,y with
 | .quo, .at (.data _ (.int k) a), .at (.data _ (.int k') b)=>if k=k' then b≠0/\K (.at (.data true (.int k) (k.wrap (a.tdiv b)))) else False
 | .rem, .at (.data _ (.int k) a), .at (.data _ (.int k') b)=>if k=k' then b≠0/\K (.at (.data true (.int k) (a.tmod b))) else False
 | .shl, .at (.data _ (.int k) a), .at (.data _ (.int _) b)=> ¬b<0/\K (.at (.data true (.int k) (k.wrap (a*2^(min b.toNat k.bits)))))
 | .shr, .at (.data _ (.int k) a), .at (.data _ (.int _) b)=> ¬b<0/\K (.at (.data true (.int k) (a.fdiv (2^(min b.toNat k.bits)))))
 | .add, .at (.data _ .str a), .at (.data _ .str b)=>a.size+b.size<=4294967296/\K (.at (.data true .str (a++b)))
 |op,x,y=>Eb (Mz T op t x y) K
def KV (st:St) (t:TypeId) (p:AV) (K:AV->Prop):Prop:=
 match p with
 | .at (.Gc l i)=>Eb (T.ty t) λτ=>match st.at l with
  |some (.arr fr _ e _ xs)=>if e=τ then ∃x,xs[i]?=some x/\K (.at (.data (fr||e.flat) e x)) else False
  |some (.Dj e _ xs)=>if e=τ then ∃x,xs[i]?=some x/\K (if e.Ac then .agg (aQ l i 0 e x) else .at ((aQ l i 0 e x).headD .undef)) else False
  |some (.Ak _ _ _ none _)=>if τ.Ac then False else K (.at (.sub l i 0))
  |_=>False
 | .at (.data fr (.optr Ji) x)=>Eb (T.ty t) λτ=>if Ji=τ then ∃y,x=some y/\K (.at (.data (fr||Ji.flat) Ji y)) else False
 |p=>Eb (Kk T st t p) K
def fF (s:TypeId) (x:AV) (f:Nat) (K:AV->Prop):Prop:=
 match x with
 | .at (.data fr (.optr τ) x)=> ∃y,x=some y/\Eb (Iz T s (.at (.data fr (.ptr τ) y)) f) K
 |x=>Eb (Iz T s x f) K
def qY (st:St) (x:Operand) (K:AV->Prop) (d:Option AV):Prop:=
 match st.ev x with
 | .at (.data fr (.optr τ) x)=> ∃y,x=some y/\K (.at (.data fr (.ptr τ) y))
 |_=>Eb d K
def zJ (st:St) (t:TypeId) (x:AV) (lo hi:Option AV) (K:AV->Prop):Prop:=
 Eb (wg x) λn=>Eb (HU lo 0) λl=>Eb (HU hi n) λh=>(0<=l/\l<=h/\h<=n)/\Eb (XV T st t x l h) K
def fP (st:St) (t:TypeId) (x i:AV) (K:AV->Prop):Prop:=
 match x,i with
 | .at (.data fr (.slice e) xs), .at (.data _ (.int _) n)=>if (T.elem t).bind T.ty=some e then ∃x,idx xs n=some x/\K (.at (.data fr (.ptr e) x)) else False
 | .at (.own l off len), .at (.data _ (.int _) n)=>match st.at l with
  |some (.arr _ _ e tid _)=>if T.elem t=some tid/\T.ty tid=some e then (0<=n/\n<len)/\K (.at (.Gc l (off+n.toNat))) else False
  |some (.Dj e tid _)=>if T.elem t=some tid/\T.ty tid=some e then (0<=n/\n<len)/\K (.at (.Gc l (off+n.toNat))) else False
  |some (.Ak _ te _ _ _)=>if T.elem t=some te/\(T.ty te).map Ty.size=some 1 then (0<=n/\n<len)/\K (.at (.Gc l (off+n.toNat))) else False
  |_=>False
 | .at (.sub l i _), .at (.data _ (.int _) n)=>match st.at l with
  |some (.Ak e _ rows none _)=>if ((T.elem t).bind T.ty).map Ty.size=some e.size then (0<=n/\n<(rows.getD i []).length)/\K (.at (.Ga l i n.toNat)) else False
  |_=>False
 |_,_=>False
def yQ (t:TypeId) (x i:AV) (K:AV->Prop):Prop:=
 match x,i with
 | .at (.data _ .str s), .at (.data _ (.int _) n)=>if T.ty t=some .str then 0<=n/\ ∃b,s[n.toNat]?=some b/\K (.at (.data true (.int .u8) b.toNat)) else False
 |_,_=>False
def qp (st:St) (f:FuncId) (args:List AV) (K:AV->Prop):Prop:=
 Eb (match Γ f with|some (.q s)=>some s|_=>none) λs=>match s.fresh||s.res.flat||args.all (·.settled) with
  |true=>Eb (Bs st s.arg args) λp=> ∃y,s.fn p.2=some y/\K (if s.Gg then .Uk (s.fresh||s.res.flat) s.res y else .at (.data (s.fresh||s.res.flat) s.res y))
  |false=>False
def yi (st:St) (v:AV) (args:List AV) (K:AV->Prop):Prop:=
 match v with
 | .at (.data fr (.clo f τ) x)=>match τ.chain with|true=>(match Nat.blt f 1000000000 with|true=>qp Γ st f (args++Ur fr τ x) K|false=>qp Γ st (f-1000000000) (Ur fr τ x++args) K)|false=>False
 | .at (.clo f Bx)=>qp Γ st f (args++Bx.map λp=> .at (.Dz p.1 p.2)) K
 |_=>False
def qW (w:WS) (o:Oper) (K:AV->WS->Prop):Prop:=
 match o.op with
 | .pick c a b=>brO w c λt w'=>match t with|true=>K (w'.st.ev a) w'|false=>K (w'.st.ev b) w'
 | .load t a=>KV T w.st t (w.st.ev a) λv=>K v w
 | .binOp op t x y _=>UP T op t (w.st.ev x) (w.st.ev y) λv=>K v w
 | .slice t x lo hi mx=>match mx with
  |none=>zJ T w.st t (w.st.ev x) (lo.map w.st.ev) (hi.map w.st.ev) λv=>K v w
  |some _=>False
 | .indexAddr t x i=>fP T w.st t (jP (w.st.ev x)) (w.st.ev i) λv=>K v w
 | .index t x i=>yQ T t (w.st.ev x) (w.st.ev i) λv=>K v w
 | .call {callee:= .value (.func f),args, .. } =>qp Γ w.st f (args.toList.map w.st.ev) λv=>K v w
 | .call {callee:= .value (.tmp t),args, .. } =>yi Γ w.st (w.st.get t) (args.toList.map w.st.ev) λv=>K v w
 | .fieldAddr s x f=>fF T s (w.st.ev x) f λv=>K v w
 | .nilCheck x=>qY w.st x (λv=>K v w) (Ck T Γ w.st o)
 |_=>Eb (Ck T Γ w.st o) λv=>K v w
def zV (st:St) (t:TypeId) (p v:AV) (K:St->Prop):Prop:=
 match p with
 | .at (.Gc l j)=>Eb (T.ty t) λτ=>Eb (settle st v) λq=>match q.2.at l with
  |some (.arr fr tr e tid xs)=>Eb (Ct q.2 τ q.1) λu=>if h:τ=e then j<xs.length/\K (q.2.Gf l (.arr (fr&&u.1) (tr&&(Mu st v&&e.tree)) e tid (xs.set j (h▸u.2)))) else False
  |_=>False
 |p=>Eb (Nz T st t p v) K
def CS (st:St) (t:TypeId) (p v:AV) (K:St->Prop):Prop:=
 match p with
 | .at (.Ga l i j)=>Eb (T.ty t) λτ=>Eb (settle st v) λq=>match q.2.at l with
  |some (.Ak e te rows none kp)=>Eb (Ct q.2 τ q.1) λu=>if h:τ=e then K (q.2.Gf l (.Ak e te (rows.set i ((rows.getD i []).set j (h▸u.2))) none kp)) else False
  |_=>False
 | .at (.Gc l j)=>Eb (T.ty t) λτ=>match st.at l,v with
  |some (.Ak e te rows out kp), .at (.own m off len)=>match st.at m with
   |some (.arr _ _ e' _ xs)=>if h:e'=e/\(Nat.blt l Ai&&(!Nat.beq m l&&!τ.Ac))=true then
     off=0/\len=xs.length/\(match out with|none=>True|some i=>i=j)/\K (Mx st l j m e te rows (h.1▸xs) (Vg j kp))
    else False
   |_=>False
  |_,_=>False
 |_=>False
def uc (st:St) (t:TypeId) (p v:AV) (K:St->Prop):Prop:=match BM st p with
 |true=>CS T st t p v K
 |false=>zV T st t p v K
def gF (st:St) (dst:Nat) (t:TypeId) (x y:Operand) (K:AV->St->Prop):Prop:=
 Eb (T.elem t) λte=>Eb (T.ty te) λe=>Eb (settle st (st.ev y)) λq=>Eb (Ct q.2 (.slice e) q.1) λu=>match q.2.ev x with
  | .at .Hk=>match Nat.blt dst Ai with
   |true=>List.length u.2<=Bp/\K (.at (.own dst 0 (List.length u.2))) ((q.2.new dst (.arr (T.mK||e.flat) T.ur e te [])).new dst (.arr ((T.mK||e.flat)&&(u.1||e.flat)) (T.ur&&(e.flat||(Mu st (st.ev y)&&e.tree))) e te u.2))
   |false=>False
  | .at (.own l off len)=>match q.2.at l with
   |some (.arr fr tr e' tid xs)=>if h:e'=e/\tid=te/\Nat.blt l Ai=true then
     off=0/\len=xs.length/\len+List.length u.2<=Bp/\K (.at (.own l 0 (List.length ((h.1▸xs:List e.den)++u.2)))) (q.2.new l (.arr (fr&&(u.1||e.flat)) (tr&&(e.flat||(Mu st (st.ev y)&&e.tree))) e te ((h.1▸xs:List e.den)++u.2)))
    else False
   |_=>False
  |_=>False
def mh (st:St) (dst:Nat) (t:TypeId) (x y:Operand) (K:AV->St->Prop):Prop:=
 match x with
 | .tmp tx=>match st.get tx with
  | .at (.sub l i _)=>Eb (T.elem t) λtid=>match st.at l with
   |some (.Ak e te rows none kp)=>match Nat.blt l Ai&&(Nat.blt dst Ai&&!Nat.beq dst l) with
    |true=>gF T ((Kj st l i dst e te tid rows kp).put (some tx) (.at (.own dst 0 (rows.getD i []).length))) dst t x y K
    |false=>False
   |_=>False
  |_=>gF T st dst t x y K
 |_=>gF T st dst t x y K
def LC (st:St) (dst:Nat) (t:TypeId) (l c:AV) (K:AV->St->Prop):Prop:=
 match l,c with
 | .at (.data _ (.int _) n), .at (.data _ (.int _) m)=>Eb (T.elem t) λte=>Eb (T.ty te) λe=>match aX e&&Nat.blt dst Ai with
  |true=>(0<=n/\n<Bp+1)/\n=m/\K (.at (.own dst 0 (List.replicate n.toNat e.zero).length)) (st.new dst (.arr (T.mK||e.flat) (T.ur&&e.tree) e te (List.replicate n.toNat e.zero)))
  |false=>False
 |_,_=>False
def z7 (st:St) (dst:Nat) (t:TypeId) (l c:AV) (K:AV->St->Prop):Prop:=
 match Yj T t with
 |none=>LC T st dst t l c K
 |some p=>match l,c with
  | .at (.data _ (.int _) n), .at (.data _ (.int _) m)=>match Nat.blt dst Ai with
   |true=>(0<=n/\n<Bp+1)/\n=m/\K (.at (.own dst 0 (List.replicate n.toNat ([]:List p.2.den)).length)) (La st dst dst (.Ak p.2 p.1 (List.replicate n.toNat []) none none))
   |false=>False
  |_,_=>False
def Zu (st:St) (dst:Nat) (t:TypeId) (len:Nat) (parts:Array (Nat×Operand)) (K:AV->St->Prop):Prop:=
 match Yj T t with
 |none=>Eb (Hm T st dst t len parts) λr=>K r.1 r.2
 |some p=>match parts.toList with
  | [(0,x)]=>match st.ev x with
   | .at (.own m off ln)=>match st.at m with
    |some (.arr _ _ e' _ xs)=>if h:e'=p.2/\(Nat.beq len 1&&(Nat.blt dst Ai&&Nat.blt m Ai))=true then off=0/\ln=xs.length/\K (.at (.own dst 0 1)) (La st dst m (.Ak p.2 p.1 [h.1▸xs] none none)) else False
    |_=>False
   |_=>False
  |_=>False
def mj (st:St) (dst:Nat) (t:TypeId) (x y:Operand) (K:AV->St->Prop):Prop:=
 match Yj T t with
 |none=>mh T st dst t x y K
 |some p=>match st.ev x,st.ev y with
  | .at (.own l off len), .at (.own m LI nm)=>match st.at l,st.at m with
   |some (.Ak e1 te1 A none _),some (.Ak e2 q7 B none _)=>
    if h:(e1=p.2/\e2=p.2)/\(decide (te1=p.1)&&decide (q7=p.1)&&(Nat.blt l Ai&&(Nat.blt m Ai&&!Nat.beq m l)))=true then
     (off=0/\len=A.length)/\(LI=0/\nm=B.length)/\0<B.length/\A.length+B.length<=Bp/\
      K (.at (.own l 0 (List.length ((h.1.1▸A:List (List p.2.den))++(h.1.2▸B:List (List p.2.den)))))) (La st l m (.Ak p.2 p.1 ((h.1.1▸A:List (List p.2.den))++(h.1.2▸B:List (List p.2.den))) none none))
    else False
   |_,_=>False
  |_,_=>False
def aS (st:St) (io:Bool) (k:Nat):(c:CK)->AC->(c.den->List (Nat×Loc)->Prop)->Prop
 | .Gt τ, .own l off len,K=>Eb (Bm st τ (.own l off len)) λp=>K p.2 [(Bq false k, .view l)]
 | .Gt τ, .clo g Bx,K=>match Vu st (Bx.map (·.1))&&!τ.Ac with
  |true=>Eb (Fu st τ (.clo g Bx)) λp=>K p.2 (views k (Bx.map (·.1)))
  |false=>False
 | .Gt τ, .Dz l i,K=>match Vu st [l]&&!τ.Ac with
  |true=>Eb (Fu st τ (.Dz l i)) λp=>K p.2 (views k [l])
  |false=>False
 | .Gt τ, .sub l i c,K=>Eb (Bm st τ (.sub l i c)) λp=>K p.2 [(Bq false k, .view l)]
 | .Gt τ,a,K=>match τ.flat||a.settled with
  |true=>Eb (Bm st τ a) λp=>K p.2 []
  |false=>False
 | .row e te, .own l off len,K=>match st.at l with
  |some (.arr _ _ e' Lf xs)=>if h:e'=e/\Lf=te then off=0/\len=xs.length/\K (h.1▸xs:List e.den) [(Bq io k, .row l)] else False
  |_=>False
 | .row e _, .sub l i c,K=>match st.at l with
  |some (.Dj e' _ xs)=>if h:e'= .slice e/\e.flat=true/\io=true/\c=0 then ∃y,xs[i]?=some y/\K (h.1▸y:(Ty.slice e).den) [(Bq io k, .sub l i c)] else False
  |_=>False
 | .row _ _, .Hk,K=>K [] []
 | .Dx e te, .own l off len,K=>match st.at l with
  |some (.Dj e' Lf xs)=>if h:e'=e/\Lf=te then off=0/\len=xs.length/\K (h.1▸xs:List e.den) [(Bq io k, .row l)] else False
  |_=>False
 | .Dx e _, .sub l i c,K=>match st.at l with
  |some (.Dj e' _ xs)=>if h:e'= .slice e/\io=true/\c=0 then ∃y,xs[i]?=some y/\K (h.1▸y:(Ty.slice e).den) [(Bq io k, .sub l i c)] else False
  |_=>False
 | .Dx _ _, .Hk,K=>K [] []
 | .part e te, .own l off len,K=>match st.at l with
  |some (.arr _ _ e' Lf xs)=>if h:e'=e/\Lf=te/\e.flat=true/\io=true then K ((h.1▸xs:List e.den),off,len) [(Bq io k, .row l)] else False
  |_=>False
 | .Ak e te _, .own l off len,K=>match st.at l with
  |some (.Ak e' Lf rows none _)=>if h:e'=e/\Lf=te/\io=false then off=0/\len=rows.length/\K (h.1▸rows:List (List e.den)) [(Bq io k, .row l)] else False
  |_=>False
 |_,_,_=>False
def uq (st:St):(k:Nat)->(cs:List (Bool×CK))->List AC->(Ins.den cs->List (Nat×Loc)->Prop)->Prop
 |_,[],[],K=>K () []
 |k,p::r,a::as,K=>aS st p.1 k p.2 a λx t1=>uq st (k+1) r as λy t2=>K (x,y) (t1++t2)
 |_,_,_,_=>False
def kY (st:St):(c:CK)->c.den->AC->(St->Prop)->Prop
 | .row e _,ys, .own l _ len,K=>match st.at l with
  |some (.arr fr tr e' te xs)=>if h:e=e' then (List.length ys=len/\xs.length=len)/\K (st.Gf l (.arr (fr&&e'.flat) (tr&&e'.flat) e' te (h▸ys))) else False
  |_=>False
 | .Dx e _,ys, .own l _ len,K=>match st.at l with
  |some (.Dj e' te xs)=>if h:e=e' then (List.length ys=len/\xs.length=len)/\K (st.Gf l (.Dj e' te (h▸ys))) else False
  |_=>False
 | .row e _,ys, .sub l i _,K=>match st.at l with
  |some (.Dj e' te xs)=>if h: .slice e=e' then ∃y,xs[i]?=some y/\List.length ys=List.length (h▸y:(Ty.slice e).den)/\K (st.Gf l (.Dj e' te (xs.set i (h▸(ys:(Ty.slice e).den))))) else False
  |_=>False
 | .Dx e _,ys, .sub l i _,K=>match st.at l with
  |some (.Dj e' te xs)=>if h: .slice e=e' then ∃y,xs[i]?=some y/\List.length ys=List.length (h▸y:(Ty.slice e).den)/\K (st.Gf l (.Dj e' te (xs.set i (h▸(ys:(Ty.slice e).den))))) else False
  |_=>False
 |_,_, .Hk,K=>K st
 |_,_,_,_=>False
def ME (st:St) (e:Ty) (ys:List e.den):AC->(St->Prop)->Prop
 | .own l _ _,K=>match st.at l with
  |some (.arr fr tr e' te xs)=>if h:e=e' then List.length ys=xs.length/\K (st.Gf l (.arr fr tr e' te (h▸ys))) else False
  |_=>False
 |_,_=>False
def cU:(cs:List (Bool×CK))->IOs.den cs->List AC->St->(St->Prop)->Prop
 | [],_,_,st,K=>K st
 |(true, .Gt _)::r,x,_::as,st,K=>cU r x as st K
 |(true, .row e te)::r,x,a::as,st,K=>kY st (.row e te) x.1 a λst'=>cU r x.2 as st' K
 |(true, .Dx e te)::r,x,a::as,st,K=>kY st (.Dx e te) x.1 a λst'=>cU r x.2 as st' K
 |(true, .part e _)::r,x,a::as,st,K=>ME st e x.1 a λst'=>cU r x.2 as st' K
 |(true, .Ak _ _ _)::r,x,_::as,st,K=>cU r x as st K
 |(false,_)::r,x,_::as,st,K=>cU r x as st K
 |_,_,_,_,_=>False
def oC (H:List (Nat×OB)) (ls:List Nat) (n:Nat):List AV->Prop->Prop
 | [],K=>K
 | .at (.sub l i _)::r,K=>match ls.contains l with
  |true=>(i<n/\i<lQ H l)/\oC H ls n r K
  |false=>oC H ls n r K
 |_::r,K=>oC H ls n r K
def yh (st:St) (dst:Option Nat) (s:MSpec) (args:List AV) (K:AV->St->Prop):Prop:=
 Eb (CJ st s args) λq=>Eb (ungroup s.Hf q.2.2) λj6=>uq st 0 s.ins (q.2.1++j6) λx tks=>
  match Su (tks.map λt=>t.2.Pu)&&sU (Lw s tks (dst.getD 0)) (s.outs.length+(ga s (dst.getD 0)).length)&&Nat.blt s.outs.length 1000&&Nat.blt s.ins.length 1000&&(Pd s.ins q.2.1&&q.1.all λl=>!((tks.map λt=>t.2.Pu)++Lw s tks (dst.getD 0)).contains l) with
  |true=> ∃p,s.fn x=some p/\cU s.ins p.2 (q.2.1++j6) st λst1=>Eb (RH s (dst.getD 0) ((Vj (Bv (Lw s tks (dst.getD 0))) 0 s.outs p.1).drop s.Qa)) λv=>
    oC (fp st st1 (dst.getD 0) s q.1 tks p.1).heap (Vf st.heap (Lw s tks (dst.getD 0)) tks s.keeps) (s.Cr x) st.tmps
     (K v (fQ st (fp st st1 (dst.getD 0) s q.1 tks p.1) (Vf st.heap (Lw s tks (dst.getD 0)) tks s.keeps) (s.Cr x)))
  |false=>False
def UF (w:WS) (o:Oper) (K:AV->WS->Prop):Prop:=
 match o.op with
 | .store t p x=>uc T w.st t (w.st.ev p) (w.st.ev x) λs=>K .undef (w.to s)
 | .makeSlice t l c=>Eb o.dst λd=>z7 T w.st d t (w.st.ev l) (w.st.ev c) λv s=>K v (w.to s)
 | .call {callee:= .builtin .append,args,argTypes} =>match o.dst,args.toList,argTypes.toList with
  |some d,[x,y],[t,t']=>if t=t' then mj T w.st d t x y λv s=>K v (w.to s) else False
  |_,_,_=>False
 | .assign _=>Eb (evalOp T Γ w.st o) λr=>K r.1 (w.to r.2)
 | .alloc _=>Eb (evalOp T Γ w.st o) λr=>K r.1 (w.to r.2)
 | .box _ _=>Eb (evalOp T Γ w.st o) λr=>K r.1 (w.to r.2)
 | .buildSlice t len parts=>Eb o.dst λd=>Zu T w.st d t len parts λv s=>K v (w.to s)
 | .build _ _=>Eb (evalOp T Γ w.st o) λr=>K r.1 (w.to r.2)
 | .makeMap _ _=>Eb (evalOp T Γ w.st o) λr=>K r.1 (w.to r.2)
 | .mapUpdate _ _ _ _=>Eb (evalOp T Γ w.st o) λr=>K r.1 (w.to r.2)
 | .insert _ _ _ _=>Eb (evalOp T Γ w.st o) λr=>K r.1 (w.to r.2)
 | .call {callee:= .builtin .copy, .. } =>Eb (evalOp T Γ w.st o) λr=>K r.1 (w.to r.2)
 | .call {callee:= .builtin .clear, .. } =>Eb (evalOp T Γ w.st o) λr=>K r.1 (w.to r.2)
 | .call {callee:= .value (.func f),args, .. } =>match Γ f with
  |some (.m s)=>yh w.st o.dst s (args.toList.map w.st.ev) λv s'=>K v (w.to s')
  |some (.q s)=>match aq s (args.toList.map w.st.ev) with
   |true=>Eb (Ju args.toList w.st) λst1=>qW T Γ (w.to st1) o K
   |false=>qW T Γ w o K
  |_=>qW T Γ w o K
 |_=>qW T Γ w o K
def AV.KR:AV->Bool
 | .at .skip=>true
 |_=>false
def bW (w:WS) (o:Oper) (K:AV->WS->Prop):Prop:=
 match o.op with
 | .buildSlice t len parts=>Eb (Uu T w.st t len parts) λv=>K v w
 | .build t parts=>Eb (Qg T w.st t parts) λv=>K v w
 |_=>qW T Γ w o K
def eU (ops:Array Oper) (w:WS) (o:Oper) (run:(AV->WS->Prop)->WS->Prop) (K:WS->Prop):Prop:=
 match o.guard with
 |none=>run (λv w'=>K (w'.pJ o v)) w
 |some (j,want)=>Eb ((ops[j]?).bind (·.dst)) λt=>match (w.st.get t).KR with
  |true=>K (w.put o.dst (.at .skip))
  |false=>brT w t λb w'=>match b,want with
   |true,true=>run (λv oP=>K (oP.pJ o v)) w'
   |false,false=>run (λv oP=>K (oP.pJ o v)) w'
   |_,_=>K (w'.put o.dst (.at .skip))
def XD (ops:Array Oper):List Oper->WS->(WS->Prop)->Prop
 | [],w,K=>K w
 |o::r,w,K=>eU ops w o (λk w'=>UF T Γ w' o k) λw'=>XD ops r w' K
def KG (ops:Array Oper):List Nat->WS->(WS->Prop)->Prop
 | [],w,K=>K w
 |i::r,w,K=>Eb ops[i]? λo=>eU ops w o (λk w'=>UF T Γ w' o k) λw'=>KG ops r w' K
def qD (ops:Array Oper):List Nat->WS->(WS->Prop)->Prop
 | [],w,K=>K w
 |i::r,w,K=>Eb ops[i]? λo=>eU ops w o (λk w'=>bW T Γ w' o k) λw'=>qD ops r w' K
def OQ:List Nat->(Nat->Prop)->Prop
 | [],_=>True
 | [i],P=>P i
 |i::j::r,P=>P i/\OQ (j::r) P
def DC (ops:Array Oper):Nat->Array Bool->WS->(WS->Prop)->Prop
 |0,Ad,w,K=>match Region.ready .any ops Ad with
  | []=>K w
  |_::_=>False
 |f+1,Ad,w,K=>match Region.ready .any ops Ad with
  | []=>False
  |i::r=>OQ (i::r) λk=>Eb ops[k]? λo=>eU ops w o (λkk w'=>UF T Γ w' o kk) λw'=>DC ops f (Ad.setIfInBounds k true) w' K
def YQ:AC->Type->Type
 | .data _ τ _,R=>τ.den×R
 | .sub _ _ _,R=>Nat×R
 | .Gc _ _,R=>Nat×R
 | .Ga _ _ _,R=>Nat×Nat×R
 |_,R=>R
def xZ:List AC->Type->Type
 | [],R=>R
 |c::r,R=>YQ c (xZ r R)
def YR:AV->Type->Type
 | .at a,R=>YQ a R
 | .agg cs,R=>xZ cs R
 | .Uk _ τ _,R=>τ.den×R
 | .Jg _,R=>R
def obV:OB->Type->Type
 | .arr _ _ e _ _,R=>List e.den×R
 | .Dj e _ _,R=>List e.den×R
 | .var _ vs,R=>xZ vs R
 | .Ak e _ _ _ none,R=>List (List e.den)×R
 | .Ak e _ _ _ (some _),R=>List (List e.den)×(Nat×R)
 | .On v _,R=>(ByteArray->Option v.den)×R
def lh:List AV->Type->Type
 | [],R=>R
 |v::r,R=>YR v (lh r R)
def qE:List (Nat×OB)->Type->Type
 | [],R=>R
 |p::r,R=>obV p.2 (qE r R)
def stV (s:St):Type:=lh s.tmps (qE s.heap Unit)
def AS:(c:AC)-> {R:Type} ->R->YQ c R
 | .data _ _ x,_,r=>(x,r)
 | .undef,_,r=>r
 | .skip,_,r=>r
 | .Hk,_,r=>r
 | .Pw,_,r=>r
 | .own _ _ _,_,r=>r
 | .Dz _ _,_,r=>r
 | .Gc _ i,_,r=>(i,r)
 | .clo _ _,_,r=>r
 | .Gi _,_,r=>r
 | .sub _ i _,_,r=>(i,r)
 | .Ga _ i j,_,r=>(i,j,r)
def me:(l:List AC)-> {R:Type} ->R->xZ l R
 | [],_,r=>r
 |c::l,_,r=>AS c (me l r)
def SJ:(c:AV)-> {R:Type} ->R->YR c R
 | .at a,_,r=>AS a r
 | .agg cs,_,r=>me cs r
 | .Uk _ _ x,_,r=>(x,r)
 | .Jg _,_,r=>r
def UE:(b:OB)-> {R:Type} ->R->obV b R
 | .arr _ _ _ _ xs,_,r=>(xs,r)
 | .Dj _ _ xs,_,r=>(xs,r)
 | .var _ vs,_,r=>me vs r
 | .Ak _ _ rows _ none,_,r=>(rows,r)
 | .Ak _ _ rows _ (some p),_,r=>(rows,p.2,r)
 | .On _ m,_,r=>(m,r)
def m4:(l:List AV)-> {R:Type} ->R->lh l R
 | [],_,r=>r
 |c::l,_,r=>SJ c (m4 l r)
def lR:(l:List (Nat×OB))-> {R:Type} ->R->qE l R
 | [],_,r=>r
 |p::l,_,r=>UE p.2 (lR l r)
def CO (s:St):stV s:=m4 s.tmps (lR s.heap ())
def jb:(c d:AC)-> {R:Type} ->R->Option (YQ c R)
 | .data fr τ _, .data Ow Ji x,_,r=>if h:Ji=τ/\Ow=fr then some (h.1▸x,r) else none
 | .undef, .undef,_,r=>some r
 | .skip, .skip,_,r=>some r
 | .Hk, .Hk,_,r=>some r
 | .Pw, .Pw,_,r=>some r
 | .own l _ _, .own l' _ _,_,r=>if l=l' then some r else none
 | .Dz l i, .Dz l' i',_,r=>if l=l'/\i=i' then some r else none
 | .Gc l _, .Gc l' i',_,r=>if l=l' then some (i',r) else none
 | .clo f c, .clo f' c',_,r=>if f=f'/\c=c' then some r else none
 | .Gi l, .Gi l',_,r=>if l=l' then some r else none
 | .sub l _ c, .sub l' i' c',_,r=>if l=l'/\c=c' then some (i',r) else none
 | .Ga l _ _, .Ga l' i' j',_,r=>if l=l' then some (i',j',r) else none
 |_,_,_,_=>none
def Lu:(l m:List AC)-> {R:Type} ->R->Option (xZ l R)
 | [],[],_,r=>some r
 |c::l,d::m,_,r=>(Lu l m r).bind λr'=>jb c d r'
 |_,_,_,_=>none
def fv:(c d:AV)-> {R:Type} ->R->Option (YR c R)
 | .at a, .at b,_,r=>jb a b r
 | .agg cs, .agg ds,_,r=>Lu cs ds r
 | .Uk fr τ _, .Uk Ow Ji x,_,r=>if h:Ji=τ/\Ow=fr then some (h.1▸x,r) else none
 |_,_,_,_=>none
def Mq:(b d:OB)-> {R:Type} ->R->Option (obV b R)
 | .arr fr tr e tid _, .arr Ow ND e' Nw xs,_,r=>if h:e'=e/\Ow=fr/\ND=tr/\Nw=tid then some (h.1▸xs,r) else none
 | .Dj e tid _, .Dj e' Nw xs,_,r=>if h:e'=e/\Nw=tid then some (h.1▸xs,r) else none
 | .On v _, .On v' m,_,r=>if h:v'=v then some (h▸m,r) else none
 | .var t vs, .var t' us,_,r=>if t'=t then Lu vs us r else none
 | .Ak e te _ out none, .Ak e' Lf rows bK none,_,r=>if h:e'=e/\Lf=te/\bK=out then some (h.1▸rows,r) else none
 | .Ak e te _ out (some p), .Ak e' Lf rows bK (some p'),_,r=>if h:e'=e/\Lf=te/\bK=out/\p'.1=p.1 then some (h.1▸rows,p'.2,r) else none
 |_,_,_,_=>none
def Jv:(l m:List AV)-> {R:Type} ->R->Option (lh l R)
 | [],[],_,r=>some r
 |c::l,d::m,_,r=>(Jv l m r).bind λr'=>fv c d r'
 |_,_,_,_=>none
def Kl:(l m:List (Nat×OB))-> {R:Type} ->R->Option (qE l R)
 | [],[],_,r=>some r
 |p::l,q::m,_,r=>if q.1=p.1 then (Kl l m r).bind λr'=>Mq p.2 q.2 r' else none
 |_,_,_,_=>none
def dp (s t:St):Option (stV s):=(Kl s.heap t.heap ()).bind λr=>Jv s.tmps t.tmps r
def fo:(c:AC)-> {R:Type} ->YQ c R->AC×R
 | .data fr τ _,_,v=>(.data fr τ v.1,v.2)
 | .undef,_,r=>(.undef,r)
 | .skip,_,r=>(.skip,r)
 | .Hk,_,r=>(.Hk,r)
 | .Pw,_,r=>(.Pw,r)
 | .own l off len,_,r=>(.own l off len,r)
 | .Dz l i,_,r=>(.Dz l i,r)
 | .Gc l _,_,v=>(.Gc l v.1,v.2)
 | .clo f c,_,r=>(.clo f c,r)
 | .Gi l,_,r=>(.Gi l,r)
 | .sub l _ c,_,v=>(.sub l v.1 c,v.2)
 | .Ga l _ _,_,v=>(.Ga l v.1 v.2.1,v.2.2)
def Tf:(l:List AC)-> {R:Type} ->xZ l R->List AC×R
 | [],_,r=>([],r)
 |c::l,_,v=>((fo c v).1::(Tf l (fo c v).2).1,(Tf l (fo c v).2).2)
def mq:(c:AV)-> {R:Type} ->YR c R->AV×R
 | .at a,_,v=>(.at (fo a v).1,(fo a v).2)
 | .agg cs,_,v=>(.agg (Tf cs v).1,(Tf cs v).2)
 | .Uk fr τ _,_,v=>(.Uk fr τ v.1,v.2)
 | .Jg l,_,r=>(.Jg l,r)
def nB:(b:OB)-> {R:Type} ->obV b R->OB×R
 | .arr fr tr e tid _,_,v=>(.arr fr tr e tid v.1,v.2)
 | .Dj e tid _,_,v=>(.Dj e tid v.1,v.2)
 | .On w _,_,v=>(.On w v.1,v.2)
 | .var t vs,_,v=>(.var t (Tf vs v).1,(Tf vs v).2)
 | .Ak e te _ out none,_,v=>(.Ak e te v.1 out none,v.2)
 | .Ak e te _ out (some p),_,v=>(.Ak e te v.1 out (some (p.1,v.2.1)),v.2.2)
def Pq:(l:List AV)-> {R:Type} ->lh l R->List AV×R
 | [],_,r=>([],r)
 |c::l,_,v=>((mq c v).1::(Pq l (mq c v).2).1,(Pq l (mq c v).2).2)
def Ym:(l:List (Nat×OB))-> {R:Type} ->qE l R->List (Nat×OB)×R
 | [],_,r=>([],r)
 |p::l,_,v=>((p.1,(nB p.2 v).1)::(Ym l (nB p.2 v).2).1,(Ym l (nB p.2 v).2).2)
def dm (s:St) (v:stV s):St:= {tmps:=(Pq s.tmps v).1,heap:=(Ym s.heap (Pq s.tmps v).2).1}
def lenOf (H:List (Nat×OB)) (l:Nat):Nat:=match Ae H l with|some (.arr _ _ _ _ xs)=>xs.length|some (.Dj _ _ xs)=>xs.length|some (.Ak _ _ rows _ _)=>rows.length|_=>0
def Sq (ps:List Nat):List AV->List (Nat×Nat×Nat)
 | []=> []
 | .at (.own l off len)::r=>if ps.contains l then (l,off,len)::Sq ps r else Sq ps r
 |_::r=>Sq ps r
def XB:List (Nat×Nat×Nat)->Nat->Nat
 | [],_=>0
 |(k,o,_)::r,l=>if k=l then o else XB r l
def EJ:List (Nat×Nat×Nat)->List (Nat×OB)->Nat->Nat
 | [],H,l=>lenOf H l
 |(k,_,n)::r,H,l=>if k=l then n else EJ r H l
def aW (B:List (Nat×Nat×Nat)) (H:List (Nat×OB)):AC->AC
 | .own l _ _=> .own l (XB B l) (EJ B H l)
 |c=>c
def St.whole (B:List (Nat×Nat×Nat)) (s:St):St:=s.Gp (aW B s.heap)
def s5 (B:List (Nat×Nat×Nat)) (H:List (Nat×OB)) (c:AC) (K:Prop):Prop:=match c with
 | .own l off len=>off=XB B l/\len=EJ B H l/\K
 |_=>K
def Xw (B:List (Nat×Nat×Nat)) (H:List (Nat×OB)):List AC->Prop->Prop
 | [],K=>K
 |c::r,K=>s5 B H c (Xw B H r K)
def AU (B:List (Nat×Nat×Nat)) (H:List (Nat×OB)) (c:AV) (K:Prop):Prop:=match c with
 | .at a=>s5 B H a K
 | .agg cs=>Xw B H cs K
 | .Uk _ _ _=>K
 | .Jg _=>False
def Uj (B:List (Nat×Nat×Nat)) (H:List (Nat×OB)):List AV->Prop->Prop
 | [],K=>K
 |c::r,K=>AU B H c (Uj B H r K)
def dN (B:List (Nat×Nat×Nat)) (H:List (Nat×OB)):List (Nat×OB)->Prop->Prop
 | [],K=>K
 |p::r,K=>match p.2 with
  | .var _ vs=>Xw B H vs (dN B H r K)
  |_=>dN B H r K
def ua (B:List (Nat×Nat×Nat)) (s:St) (K:Prop):Prop:=Uj B s.heap s.tmps (dN B s.heap s.heap K)
def AV.Qp:AV->Bool
 | .at (.data _ _ _)=>true
 |_=>false
def Ho (p:Nat->Bool):Nat->List AV->List Bool
 |_,[]=> []
 |i,v::r=>(v.Qp&&p i)::Ho p (i+1) r
def stays (live:Nat->List Nat) (c:Code) (t:Nat):Bool:=!(writes c).contains t&&Ve live c t
def Oc:List Bool->List AV->List AV
 |true::f,_::r=> .undef::Oc f r
 |false::f,v::r=>v::Oc f r
 |_,l=>l
def Ph:List Bool->List AV->List AV->List AV
 |true::f,a::s,_::r=>a::Ph f s r
 |false::f,_::s,v::r=>v::Ph f s r
 |_,_,l=>l
def St.mask (fx:List Bool) (s:St):St:= {tmps:=Oc fx s.tmps,heap:=s.heap}
def St.pA (fx:List Bool) (s0 s:St):St:= {tmps:=Ph fx s0.tmps s.tmps,heap:=s.heap}
def lM (c:AC) (k:AC->Prop):Prop:=match c with
 | .undef=>k .undef
 | .skip=>k .skip
 | .Hk=>k .Hk
 | .Pw=>k .Pw
 | .data fr τ x=>match fr with
  |true=>k (.data true τ x)
  |false=>k (.data false τ x)
 | .own l off len=>k (.own l off len)
 | .Dz l i=>k (.Dz l i)
 | .Gc l i=>k (.Gc l i)
 | .clo f c=>k (.clo f c)
 | .Gi l=>k (.Gi l)
 | .sub l i c=>k (.sub l i c)
 | .Ga l i c=>k (.Ga l i c)
def cr:List AC->(List AC->Prop)->Prop
 | [],k=>k []
 |c::r,k=>lM c λc'=>cr r λr'=>k (c'::r')
def sx (c:AV) (k:AV->Prop):Prop:=match c with
 | .at a=>lM a λa'=>k (.at a')
 | .agg cs=>cr cs λcc=>k (.agg cc)
 | .Uk fr τ x=>k (.Uk fr τ x)
 | .Jg l=>k (.Jg l)
def ct:List AV->(List AV->Prop)->Prop
 | [],k=>k []
 |c::r,k=>sx c λc'=>ct r λr'=>k (c'::r')
def sy (b:OB) (k:OB->Prop):Prop:=match b with
 | .arr fr tr e tid xs=>match fr,tr with
  |true,true=>k (.arr true true e tid xs)
  |true,false=>k (.arr true false e tid xs)
  |false,true=>k (.arr false true e tid xs)
  |false,false=>k (.arr false false e tid xs)
 | .Dj e tid xs=>k (.Dj e tid xs)
 | .var t vs=>cr vs λuO=>k (.var t uO)
 | .Ak e te rows out kp=>match out,kp with
  |none,none=>k (.Ak e te rows none none)
  |none,some (l,n)=>k (.Ak e te rows none (some (l,n)))
  |some i,none=>k (.Ak e te rows (some i) none)
  |some i,some (l,n)=>k (.Ak e te rows (some i) (some (l,n)))
 | .On v m=>k (.On v m)
def mJ:List (Nat×OB)->(List (Nat×OB)->Prop)->Prop
 | [],k=>k []
 |(l,b)::r,k=>sy b λb'=>mJ r λr'=>k ((l,b')::r')
def jo (w:WS) (k:WS->Prop):Prop:=ct w.st.tmps λt=>mJ w.st.heap λh=>k {kn:=w.kn,st:= {tmps:=t,heap:=h} }
def jn (s:St) (k:St->Prop):Prop:=ct s.tmps λt=>mJ s.heap λh=>k {tmps:=t,heap:=h}
def dJ:List Bool->(List Bool->Prop)->Prop
 | [],k=>k []
 |true::r,k=>dJ r λr'=>k (true::r')
 |false::r,k=>dJ r λr'=>k (false::r')
theorem kF {c:AC} {k:AC->Prop} :lM c k↔k c:=by
 cases c<;>simp only [lM]
 split<;>rfl
theorem a6: ∀ {l:List AC} {k:List AC->Prop},cr l k↔k l
 | [],k=>Iff.rfl
 |c::r,k=>by simp only [cr];rw [kF,a6]
theorem vL {c:AV} {k:AV->Prop} :sx c k↔k c:=by
 cases c<;>simp only [sx]
 ·exact kF
 ·exact a6
theorem a7: ∀ {l:List AV} {k:List AV->Prop},ct l k↔k l
 | [],k=>Iff.rfl
 |c::r,k=>by simp only [ct];rw [vL,a7]
theorem vM {b:OB} {k:OB->Prop} :sy b k↔k b:=by
 cases b<;>simp only [sy]
 ·split<;>rfl
 ·exact a6
 ·split<;>rfl
theorem fI: ∀ {l:List (Nat×OB)} {k:List (Nat×OB)->Prop},mJ l k↔k l
 | [],k=>Iff.rfl
 |(l,b)::r,k=>by simp only [mJ];rw [vM,fI]
theorem DR {s:St} {k:St->Prop} :jn s k=k s:=by
 unfold jn
 exact propext (by rw [a7,fI])
theorem fH: ∀ {l:List Bool} {k:List Bool->Prop},dJ l k=k l
 | [],k=>rfl
 |true::r,k=>by simp only [dJ];rw [fH]
 |false::r,k=>by simp only [dJ];rw [fH]
theorem a8 {w:WS} {k:WS->Prop} :jo w k↔k w:=by
 unfold jo
 rw [a7,fI]
def Un:AC->List (Nat×Nat)
 | .own _ off len=> [(off,len)]
 |_=> []
def Up:AV->List (Nat×Nat)
 | .at a=>Un a
 | .agg cs=>cs.flatMap Un
 |_=> []
def fX:OB->List (Nat×Nat)
 | .var _ vs=>vs.flatMap Un
 |_=> []
def zU (s:St):List (Nat×Nat):=s.tmps.flatMap Up++s.heap.flatMap λp=>fX p.2
def eqW (s0 s:St):Prop:=zU s=zU s0/\Eb (dp s0 s) λv=>v=CO s0
def jm (ops:Array Oper):Nat->Array Bool->WS->(WS->Prop)->Prop
 |0,Ad,w,K=>match Region.ready .any ops Ad with
  | []=>K w
  |_::_=>False
 |f+1,Ad,w,K=>match Region.ready .any ops Ad with
  | []=>False
  |k::_=>Eb ops[k]? λo=>eU ops w o (λkk w'=>UF T Γ w' o kk) λw'=>jm ops f (Ad.setIfInBounds k true) w' K
def uU (P:List (Nat×Nat×AV×OB)) (ops:Array Oper):Nat->Array Bool->WS->(WS->Prop)->Prop
 |0,Ad,w,K=>match Region.ready .any ops Ad with
  | []=>K w
  |_::_=>False
 |f+1,Ad,w,K=>match Region.ready .any ops Ad with
  | []=>False
  |i::r=>OQ (i::r) λk=>Eb ops[k]? λo=>match ze P Γ ops w.st o k with
   |true=>eU ops w o (λkk w'=>UF T Γ w' o kk) λw'=>uU P ops f (Ad.setIfInBounds k true) w' K
   |false=>False
def se (P:List (Nat×Nat×AV×OB)) (n:Nat) (L0:Array Bool) (ops:Array Oper) (w:WS) (K:WS->Prop):Prop:=
 match (Su (P.map (·.1))&&Su (P.map (·.2.1)))&&((P.all λa=>jI a.2.1 w.st)&&(Nat.ble P.length n&&Nat.ble (n-P.length) 10)) with
 |true=>KG T Γ ops (P.map (·.1)) w λw1=>jo w1 λw1=>jm T Γ ops (n-P.length) (Eh (P.map (·.1)) L0) w1 λw0=>jo w0 λw0=>K w0/\uU T Γ P ops (n-P.length) (Eh (P.map (·.1)) L0) w1 λw2=>eqW w0.st w2.st
 |false=>False
def tJ (ops:Array Oper) (draw:Bool) (w:WS) (K:WS->Prop):Prop:=
 match draw with
 |true=>match dT false Γ ops with
  |true=>qD T Γ ops (dM false Γ ops) w λw'=>KG T Γ ops (Fo false Γ ops) w' K
  |false=>match dT true Γ ops with
   |true=>qD T Γ ops (dM true Γ ops) w λw'=>KG T Γ ops (Fo true Γ ops) w' K
   |false=>match Region.noSelect ops&&Nat.ble (ops.size-(Kf ops).length) 8 with
    |true=>qD T Γ ops (Kf ops) w λw'=>match dI false ops with
     |true=>DC T Γ ops (ops.size-(Kf ops).length) (Eh (Kf ops) (Array.replicate ops.size false)) w' K
     |false=>jm T Γ ops (ops.size-(Kf ops).length) (Eh (Kf ops) (Array.replicate ops.size false)) w' λw0=>jo w0 λw0=>K w0/\DC T Γ ops (ops.size-(Kf ops).length) (Eh (Kf ops) (Array.replicate ops.size false)) w' λw1=>eqW w0.st w1.st
    |false=>match Region.noSelect ops with
     |true=>qD T Γ ops (Kf ops) w λw'=>se T Γ (Rw T ops (Eh (Kf ops) (Array.replicate ops.size false))) (ops.size-(Kf ops).length) (Eh (Kf ops) (Array.replicate ops.size false)) ops w' K
     |false=>False
 |false=>XD T Γ ops ops.toList w K
def Ya (live:Nat->List Nat):Code->WS->(Gz->WS->Prop)->Prop
 | .skip,w,Q=>Q .normal w
 | .label _,w,Q=>Q .normal w
 | .region _ ops draw,w,Q=>tJ T (tH Γ draw) ops draw w λw'=>jo w' (Q .normal)
 | .seq a b,w,Q=>Ya live a w λe w'=>match e with
  | .normal=>Ya live b w' Q
  | .exit id=>Q (.exit id) w'
  | .ret=>Q .ret w'
 | .cond c a b,w,Q=>brO w c λt w'=>match t with
  |true=>Ya live a w' Q
  |false=>Ya live b w' Q
 | .block id c,w,Q=>Ya live c w λe w'=>match e with
  | .normal=>Q .normal w'
  | .exit EE=>if EE=id then Q .normal w' else Q (.exit EE) w'
  | .ret=>Q .ret w'
 | .loop c,w,Q=>
  jn (w.st.clean (live (Ch c))) λs0=>dJ (Ho (stays live c) 0 s0.tmps) λfx=>jn (s0.mask fx) λm=>
  ua (Sq T.parts s0.tmps) s0 (Bn (V:=stV m) (λv k=>jn ((St.pA fx s0 (dm m v)).whole (Sq T.parts s0.tmps)) λsb=>Ya live c ⟨[],sb⟩ λe w'=>match e with
   | .normal=>jn (w'.st.clean (live (Ch c))) λs1=>ua (Sq T.parts s0.tmps) s1 (Eb (dp m (s1.mask fx)) k)
   | .exit id=>Q (.exit id) w'
   | .ret=>Q .ret w') (CO m))
 | .exit id,w,Q=>Q (.exit id) w
 | .ret,w,Q=>Q .ret w
 |_,_,_=>False
def UQ (s:Spec) (fn:Func) (P:s.res.den->Prop) (st:St):Prop:=
 Eb (gW T s fn st) λp=>match p.1||!s.fresh with|true=>P p.2|false=>False
def cE (st:St) (K:Prop):List AC->List (Bool×CK)->Prop
 | .own l off len::as,(true,_)::r=>match st.at l with
  |some (.arr _ _ _ _ xs)=>(off=0/\len=xs.length)/\cE st K as r
  |some (.Dj _ _ xs)=>(off=0/\len=xs.length)/\cE st K as r
  |_=>False
 |_::as,(false,_)::r=>cE st K as r
 |_,_=>K
def jJ (st:St):(cs:List CK)->List AC->(CKs.den cs->List Nat->Prop)->Prop
 | [],[],K=>K () []
 | .Ak e te _::r, .own l off len::as,K=>match st.at l with
  |some (.Ak e' Lf rows none _)=>if h:e'=e/\Lf=te then (off=0/\len=rows.length)/\jJ st r as λy t=>K ((h.1▸rows:List (List e.den)),y) (l::t) else False
  |_=>False
 |c::r,a::as,K=>Eb (eh st c a) λp=>jJ st r as λy t=>K (p.1,y) (p.2++t)
 |_,_,_=>False
def sT (st:St) (n:Nat) (as:List AC):List (Nat×Nat)->Prop->Prop
 | [],K=>K
 |(k,j)::r,K=>match as[j]? with
  |some (.own l _ _)=>match st.at l with
   |some (.Ak _ _ _ _ (some p))=>match Nat.beq p.1 (Bq false k)&&Nat.blt k 1000 with
    |true=>n<=p.2/\sT st n as r K
    |false=>False
   |_=>False
  |_=>False
def nT (s:MSpec) (fn:Func) (x:Ins.den s.ins) (st:St) (cs:List AC) (P:CKs.den s.outs×IOs.den s.ins->Prop):Prop:=
 Eb (Xo T st fn.results.toList) λl=>Eb (zC s st l) λp=>jJ st s.outs (cs++p.1) λr ls=>Eb (Jo st 0 s.ins) λo=>
  match Su (p.2++ls++Ke 0 s.ins)&&Nat.blt s.ins.length 1000&&Nat.blt s.outs.length 1000&&s.LD with
  |true=>sT st (s.Cr x) (cs++p.1) s.keeps (P (r,o))
  |false=>False
def CL (s:MSpec) (fn:Func) (x:Ins.den s.ins) (st:St) (P:CKs.den s.outs×IOs.den s.ins->Prop):Prop:=
 match s.ptr with
 |none=>nT T s fn x st [] P
 |some p=>match st.at Lt with
  |some (.var tid vs)=>match Nat.beq tid p.1&&Nat.beq vs.length p.2 with
   |true=>Eb (Fe 0 s.ins vs) λcs=>cE st (nT T s fn x st cs P) vs s.ins
   |false=>False
  |_=>False
@[irreducible] def fnMW (s:MSpec) (fn:Func) (x:Ins.den s.ins) (P:CKs.den s.outs×IOs.den s.ins->Prop):Prop:=
 match Nat.blt s.ins.length 1000&&tD s with
 |false=>False
 |true=>Eb fn.body λc=>Ya T Γ (sY T.marks fn c) c {kn:= [],st:= {tmps:=Ta s (Vc 0 s.ins x)++List.replicate (fn.ntmps-(Ta s (Vc 0 s.ins x)).length) .undef,heap:=kM s x} } λe w=>match e with
  | .normal=>CL T s fn x w.st P
  | .ret=>CL T s fn x w.st P
  | .exit _=>False
@[irreducible] def fnW (s:Spec) (fn:Func) (x:s.arg.den) (P:s.res.den->Prop):Prop:=
 Eb fn.body λc=>Ya T Γ (sY T.marks fn c) c {kn:= [],st:= {tmps:=Mk s.arg x++List.replicate (fn.ntmps-(Mk s.arg x).length) .undef,heap:= []} } λe w=>match e with
  | .normal=>UQ T s fn P w.st
  | .ret=>UQ T s fn P w.st
  | .exit _=>False
end Go.Proofs.Ytjbdmibbbpdnnaa
