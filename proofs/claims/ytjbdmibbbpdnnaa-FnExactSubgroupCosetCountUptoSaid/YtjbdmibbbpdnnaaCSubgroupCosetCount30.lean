/-
  Part 31 of the proof that the statement FnExactSubgroupCosetCount holds.
-/
import Derived.Test.YtjbdmibbbpdnnaaCSubgroupCosetCount29
namespace Go.Proofs.Ytjbdmibbbpdnnaa
open Go.RowKit
inductive Br (b:Bool) (A B:Prop):Prop
 |mk (t:b=true->A) (f:b=false->B)
inductive Cl {V:Type} (step:V->(V->Prop)->Prop) (v0:V):Prop
 |mk (I:V->Prop) (μ:V->Nat) (h0:I v0) (h: ∀v,I v->step v (λv'=>I v'/\μ v'<μ v))
structure WS where
 kn:List (Nat×Bool)
 st:St
def my:List (Nat×Bool)->Nat->Option Bool
 | [],_=>none
 |(k,b)::r,t=>if k=t then some b else my r t
def nM:List (Nat×Bool)->Nat->List (Nat×Bool)
 | [],_=> []
 |(k,b)::r,t=>if k=t then nM r t else (k,b)::nM r t
def WS.put (w:WS) (dst:Option Tmp) (v:AV):WS:=
 match dst with
 |some d=> {kn:=nM w.kn d,st:=w.st.put (some d) v}
 |none=>w
def Nn (kn:List (Nat×Bool)):Operand->Option Bool
 | .const (.bool b)=>some b
 | .tmp t=>my kn t
 |_=>none
def Cv (kn:List (Nat×Bool)) (o:Oper):Option Bool:=
 match o.op with
 | .assign x=>Nn kn x
 | .move x=>Nn kn x
 | .unOp .not _ x=>(Nn kn x).map (!·)
 | .pick c a b=>match Nn kn c with
  |some true=>Nn kn a
  |some false=>Nn kn b
  |none=>none
 |_=>none
def WS.mJ (w:WS) (o:Oper) (v:AV):WS:=
 match o.dst,Cv w.kn o with
 |some d,some b=>match (w.st.put (some d) v).get d with
  | .at (.data _ .bool _)=> {kn:=(d,b)::nM w.kn d,st:=w.st.put (some d) v}
  |_=>w.put (some d) v
 |dst,_=>w.put dst v
def WS.to (w:WS) (st:St):WS:= {kn:=w.kn,st:=st}
def SG (w:WS) (t:Nat) (K:Bool->WS->Prop):Prop:=
 match my w.kn t with
 |some b=>K b w
 |none=>match w.st.get t with
  | .at (.data _ .bool b)=>Br b (K true {kn:=(t,true)::w.kn,st:=w.st}) (K false {kn:=(t,false)::w.kn,st:=w.st})
  |_=>False
def SF (w:WS) (c:Operand) (K:Bool->WS->Prop):Prop:=
 match c with
 | .tmp t=>SG w t K
 | .const (.bool b)=>K b w
 |_=>False
def Dh {α:Type} (o:Option α) (K:α->Prop):Prop:=match o with|some x=>K x|none=>False
def LR (T:Tab) (st:St) (t:TypeId) (x:AV) (l h:Int):Option AV:=
 match x with
 | .at (.data fr (.slice e) xs)=>if (T.elem t).bind T.ty=some e then some (.at (.data fr (.slice e) ((xs.take h.toNat).drop l.toNat))) else none
 | .at (.own k off _)=>match st.at k with
  |some (.arr _ _ e tid _)=>if T.elem t=some tid/\T.ty tid=some e then some (.at (.own k (off+l.toNat) (h.toNat-l.toNat))) else none
  |_=>none
 | .at (.data _ .str s)=>if T.ty t=some .str then some (.at (.data true .str (s.extract l.toNat h.toNat))) else none
 |_=>none
variable (T:Tab) (Γ:Env)
def IV (op:BinOp) (t:TypeId) (x y:AV) (K:AV->Prop):Prop:=
 match op,x,y with
 | .quo, .at (.data _ (.int k) a), .at (.data _ (.int k') b)=>if k=k' then b≠0/\K (.at (.data true (.int k) (k.wrap (a.tdiv b)))) else False
 | .rem, .at (.data _ (.int k) a), .at (.data _ (.int k') b)=>if k=k' then b≠0/\K (.at (.data true (.int k) (a.tmod b))) else False
 | .shl, .at (.data _ (.int k) a), .at (.data _ (.int _) b)=> ¬b<0/\K (.at (.data true (.int k) (k.wrap (a*2^(min b.toNat k.bits)))))
 | .shr, .at (.data _ (.int k) a), .at (.data _ (.int _) b)=> ¬b<0/\K (.at (.data true (.int k) (a.fdiv (2^(min b.toNat k.bits)))))
 | .add, .at (.data _ .str a), .at (.data _ .str b)=>a.size+b.size<=4294967296/\K (.at (.data true .str (a++b)))
 |op,x,y=>Dh (Lp T op t x y) K
def BD (st:St) (t:TypeId) (p:AV) (K:AV->Prop):Prop:=
 match p with
 | .at (.Ey l i)=>Dh (T.ty t) λτ=>match st.at l with
  |some (.arr fr _ e _ xs)=>if e=τ then ∃x,xs[i]?=some x/\K (.at (.data (fr||e.flat) e x)) else False
  |some (.Cq e _ xs)=>if e=τ then ∃x,xs[i]?=some x/\K (if e.Ab then .agg (Yo l i 0 e x) else .at ((Yo l i 0 e x).headD .undef)) else False
  |some (.Ah _ _ _ none _)=>if τ.Ab then False else K (.at (.sub l i 0))
  |_=>False
 | .at (.data fr (.optr Hz) x)=>Dh (T.ty t) λτ=>if Hz=τ then ∃y,x=some y/\K (.at (.data (fr||Hz.flat) Hz y)) else False
 |p=>Dh (Jh T st t p) K
def dA (s:TypeId) (x:AV) (f:Nat) (K:AV->Prop):Prop:=
 match x with
 | .at (.data fr (.optr τ) x)=> ∃y,x=some y/\Dh (Hq T s (.at (.data fr (.ptr τ) y)) f) K
 |x=>Dh (Hq T s x f) K
def nU (st:St) (x:Operand) (K:AV->Prop) (d:Option AV):Prop:=
 match st.ev x with
 | .at (.data fr (.optr τ) x)=> ∃y,x=some y/\K (.at (.data fr (.ptr τ) y))
 |_=>Dh d K
def wb (st:St) (t:TypeId) (x:AV) (lo hi:Option AV) (K:AV->Prop):Prop:=
 Dh (sn x) λn=>Dh (zo lo 0) λl=>Dh (zo hi n) λh=>(0<=l/\l<=h/\h<=n)/\Dh (LR T st t x l h) K
def dL (st:St) (t:TypeId) (x i:AV) (K:AV->Prop):Prop:=
 match x,i with
 | .at (.data fr (.slice e) xs), .at (.data _ (.int _) n)=>if (T.elem t).bind T.ty=some e then ∃x,idx xs n=some x/\K (.at (.data fr (.ptr e) x)) else False
 | .at (.own l off len), .at (.data _ (.int _) n)=>match st.at l with
  |some (.arr _ _ e tid _)=>if T.elem t=some tid/\T.ty tid=some e then (0<=n/\n<len)/\K (.at (.Ey l (off+n.toNat))) else False
  |some (.Cq e tid _)=>if T.elem t=some tid/\T.ty tid=some e then (0<=n/\n<len)/\K (.at (.Ey l (off+n.toNat))) else False
  |some (.Ah _ te _ _ _)=>if T.elem t=some te/\(T.ty te).map Ty.size=some 1 then (0<=n/\n<len)/\K (.at (.Ey l (off+n.toNat))) else False
  |_=>False
 | .at (.sub l i _), .at (.data _ (.int _) n)=>match st.at l with
  |some (.Ah e _ rows none _)=>if ((T.elem t).bind T.ty).map Ty.size=some e.size then (0<=n/\n<(rows.getD i []).length)/\K (.at (.Ew l i n.toNat)) else False
  |_=>False
 |_,_=>False
def uZ (t:TypeId) (x i:AV) (K:AV->Prop):Prop:=
 match x,i with
 | .at (.data _ .str s), .at (.data _ (.int _) n)=>if T.ty t=some .str then 0<=n/\ ∃b,s[n.toNat]?=some b/\K (.at (.data true (.int .u8) b.toNat)) else False
 |_,_=>False
def nq (st:St) (f:FuncId) (args:List AV) (K:AV->Prop):Prop:=
 Dh (match Γ f with|some (.q s)=>some s|_=>none) λs=>match s.fresh||s.res.flat||args.all (·.settled) with
  |true=>Dh (Bj st s.arg args) λp=> ∃y,s.fn p.2=some y/\K (if s.Dp then .Si (s.fresh||s.res.flat) s.res y else .at (.data (s.fresh||s.res.flat) s.res y))
  |false=>False
def uw (st:St) (v:AV) (args:List AV) (K:AV->Prop):Prop:=
 match v with
 | .at (.data fr (.clo f τ) x)=>match τ.chain with|true=>(match Nat.blt f 1000000000 with|true=>nq Γ st f (args++Sp fr τ x) K|false=>nq Γ st (f-1000000000) (Sp fr τ x++args) K)|false=>False
 | .at (.clo f Bn)=>nq Γ st f (args++Bn.map λp=> .at (.Df p.1 p.2)) K
 |_=>False
def qW (w:WS) (o:Oper) (K:AV->WS->Prop):Prop:=
 match o.op with
 | .pick c a b=>SF w c λt w'=>match t with|true=>K (w'.st.ev a) w'|false=>K (w'.st.ev b) w'
 | .load t a=>BD T w.st t (w.st.ev a) λv=>K v w
 | .binOp op t x y _=>IV T op t (w.st.ev x) (w.st.ev y) λv=>K v w
 | .slice t x lo hi mx=>match mx with
  |none=>wb T w.st t (w.st.ev x) (lo.map w.st.ev) (hi.map w.st.ev) λv=>K v w
  |some _=>False
 | .indexAddr t x i=>dL T w.st t (gH (w.st.ev x)) (w.st.ev i) λv=>K v w
 | .index t x i=>uZ T t (w.st.ev x) (w.st.ev i) λv=>K v w
 | .call {callee:= .value (.func f),args, .. } =>nq Γ w.st f (args.toList.map w.st.ev) λv=>K v w
 | .call {callee:= .value (.tmp t),args, .. } =>uw Γ w.st (w.st.get t) (args.toList.map w.st.ev) λv=>K v w
 | .fieldAddr s x f=>dA T s (w.st.ev x) f λv=>K v w
 | .nilCheck x=>nU w.st x (λv=>K v w) (Bz T Γ w.st o)
 |_=>Dh (Bz T Γ w.st o) λv=>K v w
def wu (st:St) (t:TypeId) (p v:AV) (K:St->Prop):Prop:=
 match p with
 | .at (.Ey l j)=>Dh (T.ty t) λτ=>Dh (settle st v) λq=>match q.2.at l with
  |some (.arr fr tr e tid xs)=>Dh (Cg q.2 τ q.1) λu=>if h:τ=e then j<xs.length/\K (q.2.Fb l (.arr (fr&&u.1) (tr&&(Lk st v&&e.tree)) e tid (xs.set j (h▸u.2)))) else False
  |_=>False
 |p=>Dh (Mm T st t p v) K
def xx (st:St) (t:TypeId) (p v:AV) (K:St->Prop):Prop:=
 match p with
 | .at (.Ew l i j)=>Dh (T.ty t) λτ=>Dh (settle st v) λq=>match q.2.at l with
  |some (.Ah e te rows none kp)=>Dh (Cg q.2 τ q.1) λu=>if h:τ=e then K (q.2.Fb l (.Ah e te (rows.set i ((rows.getD i []).set j (h▸u.2))) none kp)) else False
  |_=>False
 | .at (.Ey l j)=>Dh (T.ty t) λτ=>match st.at l,v with
  |some (.Ah e te rows out kp), .at (.own m off len)=>match st.at m with
   |some (.arr _ _ e' _ xs)=>if h:e'=e/\(Nat.blt l Ag&&(!Nat.beq m l&&!τ.Ab))=true then
     off=0/\len=xs.length/\(match out with|none=>True|some i=>i=j)/\K (Ln st l j m e te rows (h.1▸xs) (Te j kp))
    else False
   |_=>False
  |_,_=>False
 |_=>False
def qj (st:St) (t:TypeId) (p v:AV) (K:St->Prop):Prop:=match x5 st p with
 |true=>xx T st t p v K
 |false=>wu T st t p v K
def ek (st:St) (dst:Nat) (t:TypeId) (x y:Operand) (K:AV->St->Prop):Prop:=
 Dh (T.elem t) λte=>Dh (T.ty te) λe=>Dh (settle st (st.ev y)) λq=>Dh (Cg q.2 (.slice e) q.1) λu=>match q.2.ev x with
  | .at .Gr=>match Nat.blt dst Ag with
   |true=>List.length u.2<=Bq/\K (.at (.own dst 0 (List.length u.2))) ((q.2.new dst (.arr (T.lX||e.flat) T.qR e te [])).new dst (.arr ((T.lX||e.flat)&&(u.1||e.flat)) (T.qR&&(e.flat||(Lk st (st.ev y)&&e.tree))) e te u.2))
   |false=>False
  | .at (.own l off len)=>match q.2.at l with
   |some (.arr fr tr e' tid xs)=>if h:e'=e/\tid=te/\Nat.blt l Ag=true then
     off=0/\len=xs.length/\len+List.length u.2<=Bq/\K (.at (.own l 0 (List.length ((h.1▸xs:List e.den)++u.2)))) (q.2.new l (.arr (fr&&(u.1||e.flat)) (tr&&(e.flat||(Lk st (st.ev y)&&e.tree))) e te ((h.1▸xs:List e.den)++u.2)))
    else False
   |_=>False
  |_=>False
def jL (st:St) (dst:Nat) (t:TypeId) (x y:Operand) (K:AV->St->Prop):Prop:=
 match x with
 | .tmp tx=>match st.get tx with
  | .at (.sub l i _)=>Dh (T.elem t) λtid=>match st.at l with
   |some (.Ah e te rows none kp)=>match Nat.blt l Ag&&(Nat.blt dst Ag&&!Nat.beq dst l) with
    |true=>ek T ((Jg st l i dst e te tid rows kp).put (some tx) (.at (.own dst 0 (rows.getD i []).length))) dst t x y K
    |false=>False
   |_=>False
  |_=>ek T st dst t x y K
 |_=>ek T st dst t x y K
def BH (st:St) (dst:Nat) (t:TypeId) (l c:AV) (K:AV->St->Prop):Prop:=
 match l,c with
 | .at (.data _ (.int _) n), .at (.data _ (.int _) m)=>Dh (T.elem t) λte=>Dh (T.ty te) λe=>match Yw e&&Nat.blt dst Ag with
  |true=>(0<=n/\n<Bq+1)/\n=m/\K (.at (.own dst 0 (List.replicate n.toNat e.zero).length)) (st.new dst (.arr (T.lX||e.flat) (T.qR&&e.tree) e te (List.replicate n.toNat e.zero)))
  |false=>False
 |_,_=>False
def vz (st:St) (dst:Nat) (t:TypeId) (l c:AV) (K:AV->St->Prop):Prop:=
 match Vx T t with
 |none=>BH T st dst t l c K
 |some p=>match l,c with
  | .at (.data _ (.int _) n), .at (.data _ (.int _) m)=>match Nat.blt dst Ag with
   |true=>(0<=n/\n<Bq+1)/\n=m/\K (.at (.own dst 0 (List.replicate n.toNat ([]:List p.2.den)).length)) (Jy st dst dst (.Ah p.2 p.1 (List.replicate n.toNat []) none none))
   |false=>False
  |_,_=>False
def Xg (st:St) (dst:Nat) (t:TypeId) (len:Nat) (parts:Array (Nat×Operand)) (K:AV->St->Prop):Prop:=
 match Vx T t with
 |none=>Dh (Gk T st dst t len parts) λr=>K r.1 r.2
 |some p=>match parts.toList with
  | [(0,x)]=>match st.ev x with
   | .at (.own m off ln)=>match st.at m with
    |some (.arr _ _ e' _ xs)=>if h:e'=p.2/\(Nat.beq len 1&&(Nat.blt dst Ag&&Nat.blt m Ag))=true then off=0/\ln=xs.length/\K (.at (.own dst 0 1)) (Jy st dst m (.Ah p.2 p.1 [h.1▸xs] none none)) else False
    |_=>False
   |_=>False
  |_=>False
def jN (st:St) (dst:Nat) (t:TypeId) (x y:Operand) (K:AV->St->Prop):Prop:=
 match Vx T t with
 |none=>jL T st dst t x y K
 |some p=>match st.ev x,st.ev y with
  | .at (.own l off len), .at (.own m BL kL)=>match st.at l,st.at m with
   |some (.Ah e1 TV A none _),some (.Ah e2 mW B none _)=>
    if h:(e1=p.2/\e2=p.2)/\(decide (TV=p.1)&&decide (mW=p.1)&&(Nat.blt l Ag&&(Nat.blt m Ag&&!Nat.beq m l)))=true then
     (off=0/\len=A.length)/\(BL=0/\kL=B.length)/\0<B.length/\A.length+B.length<=Bq/\
      K (.at (.own l 0 (List.length ((h.1.1▸A:List (List p.2.den))++(h.1.2▸B:List (List p.2.den)))))) (Jy st l m (.Ah p.2 p.1 ((h.1.1▸A:List (List p.2.den))++(h.1.2▸B:List (List p.2.den))) none none))
    else False
   |_,_=>False
  |_,_=>False
def Yr (st:St) (io:Bool) (k:Nat):(c:CK)->AC->(c.den->List (Nat×Loc)->Prop)->Prop
 | .Gd τ, .own l off len,K=>Dh (Bf st τ (.own l off len)) λp=>K p.2 [(Bk false k, .view l)]
 | .Gd τ, .clo g Bn,K=>match To st (Bn.map (·.1))&&!τ.Ab with
  |true=>Dh (Ep st τ (.clo g Bn)) λp=>K p.2 (views k (Bn.map (·.1)))
  |false=>False
 | .Gd τ, .Df l i,K=>match To st [l]&&!τ.Ab with
  |true=>Dh (Ep st τ (.Df l i)) λp=>K p.2 (views k [l])
  |false=>False
 | .Gd τ, .sub l i c,K=>Dh (Bf st τ (.sub l i c)) λp=>K p.2 [(Bk false k, .view l)]
 | .Gd τ,a,K=>match τ.flat||a.settled with
  |true=>Dh (Bf st τ a) λp=>K p.2 []
  |false=>False
 | .row e te, .own l off len,K=>match st.at l with
  |some (.arr _ _ e' Kc xs)=>if h:e'=e/\Kc=te then off=0/\len=xs.length/\K (h.1▸xs:List e.den) [(Bk io k, .row l)] else False
  |_=>False
 | .row e _, .sub l i c,K=>match st.at l with
  |some (.Cq e' _ xs)=>if h:e'= .slice e/\e.flat=true/\io=true/\c=0 then ∃y,xs[i]?=some y/\K (h.1▸y:(Ty.slice e).den) [(Bk io k, .sub l i c)] else False
  |_=>False
 | .row _ _, .Gr,K=>K [] []
 | .Dc e te, .own l off len,K=>match st.at l with
  |some (.Cq e' Kc xs)=>if h:e'=e/\Kc=te then off=0/\len=xs.length/\K (h.1▸xs:List e.den) [(Bk io k, .row l)] else False
  |_=>False
 | .Dc e _, .sub l i c,K=>match st.at l with
  |some (.Cq e' _ xs)=>if h:e'= .slice e/\io=true/\c=0 then ∃y,xs[i]?=some y/\K (h.1▸y:(Ty.slice e).den) [(Bk io k, .sub l i c)] else False
  |_=>False
 | .Dc _ _, .Gr,K=>K [] []
 | .part e te, .own l off len,K=>match st.at l with
  |some (.arr _ _ e' Kc xs)=>if h:e'=e/\Kc=te/\e.flat=true/\io=true then K ((h.1▸xs:List e.den),off,len) [(Bk io k, .row l)] else False
  |_=>False
 | .Ah e te _, .own l off len,K=>match st.at l with
  |some (.Ah e' Kc rows none _)=>if h:e'=e/\Kc=te/\io=false then off=0/\len=rows.length/\K (h.1▸rows:List (List e.den)) [(Bk io k, .row l)] else False
  |_=>False
 |_,_,_=>False
def qA (st:St):(k:Nat)->(cs:List (Bool×CK))->List AC->(Ins.den cs->List (Nat×Loc)->Prop)->Prop
 |_,[],[],K=>K () []
 |k,p::r,a::as,K=>Yr st p.1 k p.2 a λx t1=>qA st (k+1) r as λy t2=>K (x,y) (t1++t2)
 |_,_,_,_=>False
def iM (st:St):(c:CK)->c.den->AC->(St->Prop)->Prop
 | .row e _,ys, .own l _ len,K=>match st.at l with
  |some (.arr fr tr e' te xs)=>if h:e=e' then (List.length ys=len/\xs.length=len)/\K (st.Fb l (.arr (fr&&e'.flat) (tr&&e'.flat) e' te (h▸ys))) else False
  |_=>False
 | .Dc e _,ys, .own l _ len,K=>match st.at l with
  |some (.Cq e' te xs)=>if h:e=e' then (List.length ys=len/\xs.length=len)/\K (st.Fb l (.Cq e' te (h▸ys))) else False
  |_=>False
 | .row e _,ys, .sub l i _,K=>match st.at l with
  |some (.Cq e' te xs)=>if h: .slice e=e' then ∃y,xs[i]?=some y/\List.length ys=List.length (h▸y:(Ty.slice e).den)/\K (st.Fb l (.Cq e' te (xs.set i (h▸(ys:(Ty.slice e).den))))) else False
  |_=>False
 | .Dc e _,ys, .sub l i _,K=>match st.at l with
  |some (.Cq e' te xs)=>if h: .slice e=e' then ∃y,xs[i]?=some y/\List.length ys=List.length (h▸y:(Ty.slice e).den)/\K (st.Fb l (.Cq e' te (xs.set i (h▸(ys:(Ty.slice e).den))))) else False
  |_=>False
 |_,_, .Gr,K=>K st
 |_,_,_,_=>False
def BX (st:St) (e:Ty) (ys:List e.den):AC->(St->Prop)->Prop
 | .own l _ _,K=>match st.at l with
  |some (.arr fr tr e' te xs)=>if h:e=e' then List.length ys=xs.length/\K (st.Fb l (.arr fr tr e' te (h▸ys))) else False
  |_=>False
 |_,_=>False
def bb:(cs:List (Bool×CK))->IOs.den cs->List AC->St->(St->Prop)->Prop
 | [],_,_,st,K=>K st
 |(true, .Gd _)::r,x,_::as,st,K=>bb r x as st K
 |(true, .row e te)::r,x,a::as,st,K=>iM st (.row e te) x.1 a λst'=>bb r x.2 as st' K
 |(true, .Dc e te)::r,x,a::as,st,K=>iM st (.Dc e te) x.1 a λst'=>bb r x.2 as st' K
 |(true, .part e _)::r,x,a::as,st,K=>BX st e x.1 a λst'=>bb r x.2 as st' K
 |(true, .Ah _ _ _)::r,x,_::as,st,K=>bb r x as st K
 |(false,_)::r,x,_::as,st,K=>bb r x as st K
 |_,_,_,_,_=>False
def lJ (H:List (Nat×OB)) (ls:List Nat) (n:Nat):List AV->Prop->Prop
 | [],K=>K
 | .at (.sub l i _)::r,K=>match ls.contains l with
  |true=>(i<n/\i<jv H l)/\lJ H ls n r K
  |false=>lJ H ls n r K
 |_::r,K=>lJ H ls n r K
def uv (st:St) (dst:Option Nat) (s:MSpec) (args:List AV) (K:AV->St->Prop):Prop:=
 Dh (xp st s args) λq=>Dh (ungroup s.Gc q.2.2) λfN=>qA st 0 s.ins (q.2.1++fN) λx tks=>
  match Qt (tks.map λt=>t.2.Oa)&&pt (Kq s tks (dst.getD 0)) (s.outs.length+(dU s (dst.getD 0)).length)&&Nat.blt s.outs.length 1000&&Nat.blt s.ins.length 1000&&(Nj s.ins q.2.1&&q.1.all λl=>!((tks.map λt=>t.2.Oa)++Kq s tks (dst.getD 0)).contains l) with
  |true=> ∃p,s.fn x=some p/\bb s.ins p.2 (q.2.1++fN) st λst1=>Dh (FN s (dst.getD 0) ((Th (Bl (Kq s tks (dst.getD 0))) 0 s.outs p.1).drop s.Rc)) λv=>
    lJ (dr st st1 (dst.getD 0) s q.1 tks p.1).heap (Tb st.heap (Kq s tks (dst.getD 0)) tks s.keeps) (s.Ch x) st.tmps
     (K v (dM st (dr st st1 (dst.getD 0) s q.1 tks p.1) (Tb st.heap (Kq s tks (dst.getD 0)) tks s.keeps) (s.Ch x)))
  |false=>False
def IF (w:WS) (o:Oper) (K:AV->WS->Prop):Prop:=
 match o.op with
 | .store t p x=>qj T w.st t (w.st.ev p) (w.st.ev x) λs=>K .undef (w.to s)
 | .makeSlice t l c=>Dh o.dst λd=>vz T w.st d t (w.st.ev l) (w.st.ev c) λv s=>K v (w.to s)
 | .call {callee:= .builtin .append,args,argTypes} =>match o.dst,args.toList,argTypes.toList with
  |some d,[x,y],[t,t']=>if t=t' then jN T w.st d t x y λv s=>K v (w.to s) else False
  |_,_,_=>False
 | .assign _=>Dh (evalOp T Γ w.st o) λr=>K r.1 (w.to r.2)
 | .alloc _=>Dh (evalOp T Γ w.st o) λr=>K r.1 (w.to r.2)
 | .box _ _=>Dh (evalOp T Γ w.st o) λr=>K r.1 (w.to r.2)
 | .buildSlice t len parts=>Dh o.dst λd=>Xg T w.st d t len parts λv s=>K v (w.to s)
 | .build _ _=>Dh (evalOp T Γ w.st o) λr=>K r.1 (w.to r.2)
 | .makeMap _ _=>Dh (evalOp T Γ w.st o) λr=>K r.1 (w.to r.2)
 | .mapUpdate _ _ _ _=>Dh (evalOp T Γ w.st o) λr=>K r.1 (w.to r.2)
 | .insert _ _ _ _=>Dh (evalOp T Γ w.st o) λr=>K r.1 (w.to r.2)
 | .call {callee:= .builtin .copy, .. } =>Dh (evalOp T Γ w.st o) λr=>K r.1 (w.to r.2)
 | .call {callee:= .builtin .clear, .. } =>Dh (evalOp T Γ w.st o) λr=>K r.1 (w.to r.2)
 | .call {callee:= .value (.func f),args, .. } =>match Γ f with
  |some (.m s)=>uv w.st o.dst s (args.toList.map w.st.ev) λv s'=>K v (w.to s')
  |some (.q s)=>match Xy s (args.toList.map w.st.ev) with
   |true=>Dh (Im args.toList w.st) λst1=>qW T Γ (w.to st1) o K
   |false=>qW T Γ w o K
  |_=>qW T Γ w o K
 |_=>qW T Γ w o K
def AV.AZ:AV->Bool
 | .at .skip=>true
 |_=>false
def bW (w:WS) (o:Oper) (K:AV->WS->Prop):Prop:=
 match o.op with
 | .buildSlice t len parts=>Dh (Sr T w.st t len parts) λv=>K v w
 | .build t parts=>Dh (Ok T w.st t parts) λv=>K v w
 |_=>qW T Γ w o K
def cT (ops:Array Oper) (w:WS) (o:Oper) (run:(AV->WS->Prop)->WS->Prop) (K:WS->Prop):Prop:=
 match o.guard with
 |none=>run (λv w'=>K (w'.mJ o v)) w
 |some (j,want)=>Dh ((ops[j]?).bind (·.dst)) λt=>match (w.st.get t).AZ with
  |true=>K (w.put o.dst (.at .skip))
  |false=>SG w t λb w'=>match b,want with
   |true,true=>run (λv lU=>K (lU.mJ o v)) w'
   |false,false=>run (λv lU=>K (lU.mJ o v)) w'
   |_,_=>K (w'.put o.dst (.at .skip))
def LG (ops:Array Oper):List Oper->WS->(WS->Prop)->Prop
 | [],w,K=>K w
 |o::r,w,K=>cT ops w o (λk w'=>IF T Γ w' o k) λw'=>LG ops r w' K
def AP (ops:Array Oper):List Nat->WS->(WS->Prop)->Prop
 | [],w,K=>K w
 |i::r,w,K=>Dh ops[i]? λo=>cT ops w o (λk w'=>IF T Γ w' o k) λw'=>AP ops r w' K
def nC (ops:Array Oper):List Nat->WS->(WS->Prop)->Prop
 | [],w,K=>K w
 |i::r,w,K=>Dh ops[i]? λo=>cT ops w o (λk w'=>bW T Γ w' o k) λw'=>nC ops r w' K
def DT:List Nat->(Nat->Prop)->Prop
 | [],_=>True
 | [i],P=>P i
 |i::j::r,P=>P i/\DT (j::r) P
def xG (ops:Array Oper):Nat->Array Bool->WS->(WS->Prop)->Prop
 |0,Aa,w,K=>match Region.ready .any ops Aa with
  | []=>K w
  |_::_=>False
 |f+1,Aa,w,K=>match Region.ready .any ops Aa with
  | []=>False
  |i::r=>DT (i::r) λk=>Dh ops[k]? λo=>cT ops w o (λkk w'=>IF T Γ w' o kk) λw'=>xG ops f (Aa.setIfInBounds k true) w' K
def MI:AC->Type->Type
 | .data _ τ _,R=>τ.den×R
 | .sub _ _ _,R=>Nat×R
 | .Ey _ _,R=>Nat×R
 | .Ew _ _ _,R=>Nat×Nat×R
 |_,R=>R
def uh:List AC->Type->Type
 | [],R=>R
 |c::r,R=>MI c (uh r R)
def MJ:AV->Type->Type
 | .at a,R=>MI a R
 | .agg cs,R=>uh cs R
 | .Si _ τ _,R=>τ.den×R
 | .Hv _,R=>R
def QS:OB->Type->Type
 | .arr _ _ e _ _,R=>List e.den×R
 | .Cq e _ _,R=>List e.den×R
 | .var _ vs,R=>uh vs R
 | .Ah e _ _ _ none,R=>List (List e.den)×R
 | .Ah e _ _ _ (some _),R=>List (List e.den)×(Nat×R)
 | .Mz v _,R=>(ByteArray->Option v.den)×R
def iW:List AV->Type->Type
 | [],R=>R
 |v::r,R=>MJ v (iW r R)
def nD:List (Nat×OB)->Type->Type
 | [],R=>R
 |p::r,R=>QS p.2 (nD r R)
def RK (s:St):Type:=iW s.tmps (nD s.heap Unit)
def wM:(c:AC)-> {R:Type} ->R->MI c R
 | .data _ _ x,_,r=>(x,r)
 | .undef,_,r=>r
 | .skip,_,r=>r
 | .Gr,_,r=>r
 | .Ox,_,r=>r
 | .own _ _ _,_,r=>r
 | .Df _ _,_,r=>r
 | .Ey _ i,_,r=>(i,r)
 | .clo _ _,_,r=>r
 | .Fm _,_,r=>r
 | .sub _ i _,_,r=>(i,r)
 | .Ew _ i j,_,r=>(i,j,r)
def jI:(l:List AC)-> {R:Type} ->R->uh l R
 | [],_,r=>r
 |c::l,_,r=>wM c (jI l r)
def GL:(c:AV)-> {R:Type} ->R->MJ c R
 | .at a,_,r=>wM a r
 | .agg cs,_,r=>jI cs r
 | .Si _ _ x,_,r=>(x,r)
 | .Hv _,_,r=>r
def IE:(b:OB)-> {R:Type} ->R->QS b R
 | .arr _ _ _ _ xs,_,r=>(xs,r)
 | .Cq _ _ xs,_,r=>(xs,r)
 | .var _ vs,_,r=>jI vs r
 | .Ah _ _ rows _ none,_,r=>(rows,r)
 | .Ah _ _ rows _ (some p),_,r=>(rows,p.2,r)
 | .Mz _ m,_,r=>(m,r)
def jB:(l:List AV)-> {R:Type} ->R->iW l R
 | [],_,r=>r
 |c::l,_,r=>GL c (jB l r)
def jw:(l:List (Nat×OB))-> {R:Type} ->R->nD l R
 | [],_,r=>r
 |p::l,_,r=>IE p.2 (jw l r)
def xu (s:St):RK s:=jB s.tmps (jw s.heap ())
def fQ:(c d:AC)-> {R:Type} ->R->Option (MI c R)
 | .data fr τ _, .data Nf Hz x,_,r=>if h:Hz=τ/\Nf=fr then some (h.1▸x,r) else none
 | .undef, .undef,_,r=>some r
 | .skip, .skip,_,r=>some r
 | .Gr, .Gr,_,r=>some r
 | .Ox, .Ox,_,r=>some r
 | .own l _ _, .own l' _ _,_,r=>if l=l' then some r else none
 | .Df l i, .Df l' i',_,r=>if l=l'/\i=i' then some r else none
 | .Ey l _, .Ey l' i',_,r=>if l=l' then some (i',r) else none
 | .clo f c, .clo f' c',_,r=>if f=f'/\c=c' then some r else none
 | .Fm l, .Fm l',_,r=>if l=l' then some r else none
 | .sub l _ c, .sub l' i' c',_,r=>if l=l'/\c=c' then some (i',r) else none
 | .Ew l _ _, .Ew l' i' j',_,r=>if l=l' then some (i',j',r) else none
 |_,_,_,_=>none
def Kp:(l m:List AC)-> {R:Type} ->R->Option (uh l R)
 | [],[],_,r=>some r
 |c::l,d::m,_,r=>(Kp l m r).bind λr'=>fQ c d r'
 |_,_,_,_=>none
def dv:(c d:AV)-> {R:Type} ->R->Option (MJ c R)
 | .at a, .at b,_,r=>fQ a b r
 | .agg cs, .agg ds,_,r=>Kp cs ds r
 | .Si fr τ _, .Si Nf Hz x,_,r=>if h:Hz=τ/\Nf=fr then some (h.1▸x,r) else none
 |_,_,_,_=>none
def Lg:(b d:OB)-> {R:Type} ->R->Option (QS b R)
 | .arr fr tr e tid _, .arr Nf CV e' Mk xs,_,r=>if h:e'=e/\Nf=fr/\CV=tr/\Mk=tid then some (h.1▸xs,r) else none
 | .Cq e tid _, .Cq e' Mk xs,_,r=>if h:e'=e/\Mk=tid then some (h.1▸xs,r) else none
 | .Mz v _, .Mz v' m,_,r=>if h:v'=v then some (h▸m,r) else none
 | .var t vs, .var t' us,_,r=>if t'=t then Kp vs us r else none
 | .Ah e te _ out none, .Ah e' Kc rows Zy none,_,r=>if h:e'=e/\Kc=te/\Zy=out then some (h.1▸rows,r) else none
 | .Ah e te _ out (some p), .Ah e' Kc rows Zy (some p'),_,r=>if h:e'=e/\Kc=te/\Zy=out/\p'.1=p.1 then some (h.1▸rows,p'.2,r) else none
 |_,_,_,_=>none
def Io:(l m:List AV)-> {R:Type} ->R->Option (iW l R)
 | [],[],_,r=>some r
 |c::l,d::m,_,r=>(Io l m r).bind λr'=>dv c d r'
 |_,_,_,_=>none
def Ji:(l m:List (Nat×OB))-> {R:Type} ->R->Option (nD l R)
 | [],[],_,r=>some r
 |p::l,q::m,_,r=>if q.1=p.1 then (Ji l m r).bind λr'=>Lg p.2 q.2 r' else none
 |_,_,_,_=>none
def bC (s t:St):Option (RK s):=(Ji s.heap t.heap ()).bind λr=>Io s.tmps t.tmps r
def dq:(c:AC)-> {R:Type} ->MI c R->AC×R
 | .data fr τ _,_,v=>(.data fr τ v.1,v.2)
 | .undef,_,r=>(.undef,r)
 | .skip,_,r=>(.skip,r)
 | .Gr,_,r=>(.Gr,r)
 | .Ox,_,r=>(.Ox,r)
 | .own l off len,_,r=>(.own l off len,r)
 | .Df l i,_,r=>(.Df l i,r)
 | .Ey l _,_,v=>(.Ey l v.1,v.2)
 | .clo f c,_,r=>(.clo f c,r)
 | .Fm l,_,r=>(.Fm l,r)
 | .sub l _ c,_,v=>(.sub l v.1 c,v.2)
 | .Ew l _ _,_,v=>(.Ew l v.1 v.2.1,v.2.2)
def Rf:(l:List AC)-> {R:Type} ->uh l R->List AC×R
 | [],_,r=>([],r)
 |c::l,_,v=>((dq c v).1::(Rf l (dq c v).2).1,(Rf l (dq c v).2).2)
def jQ:(c:AV)-> {R:Type} ->MJ c R->AV×R
 | .at a,_,v=>(.at (dq a v).1,(dq a v).2)
 | .agg cs,_,v=>(.agg (Rf cs v).1,(Rf cs v).2)
 | .Si fr τ _,_,v=>(.Si fr τ v.1,v.2)
 | .Hv l,_,r=>(.Hv l,r)
def kU:(b:OB)-> {R:Type} ->QS b R->OB×R
 | .arr fr tr e tid _,_,v=>(.arr fr tr e tid v.1,v.2)
 | .Cq e tid _,_,v=>(.Cq e tid v.1,v.2)
 | .Mz w _,_,v=>(.Mz w v.1,v.2)
 | .var t vs,_,v=>(.var t (Rf vs v).1,(Rf vs v).2)
 | .Ah e te _ out none,_,v=>(.Ah e te v.1 out none,v.2)
 | .Ah e te _ out (some p),_,v=>(.Ah e te v.1 out (some (p.1,v.2.1)),v.2.2)
def Nw:(l:List AV)-> {R:Type} ->iW l R->List AV×R
 | [],_,r=>([],r)
 |c::l,_,v=>((jQ c v).1::(Nw l (jQ c v).2).1,(Nw l (jQ c v).2).2)
def Wa:(l:List (Nat×OB))-> {R:Type} ->nD l R->List (Nat×OB)×R
 | [],_,r=>([],r)
 |p::l,_,v=>((p.1,(kU p.2 v).1)::(Wa l (kU p.2 v).2).1,(Wa l (kU p.2 v).2).2)
def bB (s:St) (v:RK s):St:= {tmps:=(Nw s.tmps v).1,heap:=(Wa s.heap (Nw s.tmps v).2).1}
def lenOf (H:List (Nat×OB)) (l:Nat):Nat:=match Ad H l with|some (.arr _ _ _ _ xs)=>xs.length|some (.Cq _ _ xs)=>xs.length|some (.Ah _ _ rows _ _)=>rows.length|_=>0
def Qp (ps:List Nat):List AV->List (Nat×Nat×Nat)
 | []=> []
 | .at (.own l off len)::r=>if ps.contains l then (l,off,len)::Qp ps r else Qp ps r
 |_::r=>Qp ps r
def LD:List (Nat×Nat×Nat)->Nat->Nat
 | [],_=>0
 |(k,o,_)::r,l=>if k=l then o else LD r l
def yf:List (Nat×Nat×Nat)->List (Nat×OB)->Nat->Nat
 | [],H,l=>lenOf H l
 |(k,_,n)::r,H,l=>if k=l then n else yf r H l
def Yv (B:List (Nat×Nat×Nat)) (H:List (Nat×OB)):AC->AC
 | .own l _ _=> .own l (LD B l) (yf B H l)
 |c=>c
def St.whole (B:List (Nat×Nat×Nat)) (s:St):St:=s.Fl (Yv B s.heap)
def oE (B:List (Nat×Nat×Nat)) (H:List (Nat×OB)) (c:AC) (K:Prop):Prop:=match c with
 | .own l off len=>off=LD B l/\len=yf B H l/\K
 |_=>K
def Vj (B:List (Nat×Nat×Nat)) (H:List (Nat×OB)):List AC->Prop->Prop
 | [],K=>K
 |c::r,K=>oE B H c (Vj B H r K)
def wO (B:List (Nat×Nat×Nat)) (H:List (Nat×OB)) (c:AV) (K:Prop):Prop:=match c with
 | .at a=>oE B H a K
 | .agg cs=>Vj B H cs K
 | .Si _ _ _=>K
 | .Hv _=>False
def Sh (B:List (Nat×Nat×Nat)) (H:List (Nat×OB)):List AV->Prop->Prop
 | [],K=>K
 |c::r,K=>wO B H c (Sh B H r K)
def bV (B:List (Nat×Nat×Nat)) (H:List (Nat×OB)):List (Nat×OB)->Prop->Prop
 | [],K=>K
 |p::r,K=>match p.2 with
  | .var _ vs=>Vj B H vs (bV B H r K)
  |_=>bV B H r K
def qi (B:List (Nat×Nat×Nat)) (s:St) (K:Prop):Prop:=Sh B s.heap s.tmps (bV B s.heap s.heap K)
def AV.Ow:AV->Bool
 | .at (.data _ _ _)=>true
 |_=>false
def Gl (p:Nat->Bool):Nat->List AV->List Bool
 |_,[]=> []
 |i,v::r=>(v.Ow&&p i)::Gl p (i+1) r
def stays (live:Nat->List Nat) (c:Code) (t:Nat):Bool:=!(writes c).contains t&&Ta live c t
def Mq:List Bool->List AV->List AV
 |true::f,_::r=> .undef::Mq f r
 |false::f,v::r=>v::Mq f r
 |_,l=>l
def No:List Bool->List AV->List AV->List AV
 |true::f,a::s,_::r=>a::No f s r
 |false::f,_::s,v::r=>v::No f s r
 |_,_,l=>l
def St.mask (fx:List Bool) (s:St):St:= {tmps:=Mq fx s.tmps,heap:=s.heap}
def St.mD (fx:List Bool) (s0 s:St):St:= {tmps:=No fx s0.tmps s.tmps,heap:=s.heap}
def js (c:AC) (k:AC->Prop):Prop:=match c with
 | .undef=>k .undef
 | .skip=>k .skip
 | .Gr=>k .Gr
 | .Ox=>k .Ox
 | .data fr τ x=>match fr with
  |true=>k (.data true τ x)
  |false=>k (.data false τ x)
 | .own l off len=>k (.own l off len)
 | .Df l i=>k (.Df l i)
 | .Ey l i=>k (.Ey l i)
 | .clo f c=>k (.clo f c)
 | .Fm l=>k (.Fm l)
 | .sub l i c=>k (.sub l i c)
 | .Ew l i c=>k (.Ew l i c)
def aE:List AC->(List AC->Prop)->Prop
 | [],k=>k []
 |c::r,k=>js c λc'=>aE r λr'=>k (c'::r')
def oW (c:AV) (k:AV->Prop):Prop:=match c with
 | .at a=>js a λa'=>k (.at a')
 | .agg cs=>aE cs λau=>k (.agg au)
 | .Si fr τ x=>k (.Si fr τ x)
 | .Hv l=>k (.Hv l)
def aF:List AV->(List AV->Prop)->Prop
 | [],k=>k []
 |c::r,k=>oW c λc'=>aF r λr'=>k (c'::r')
def oX (b:OB) (k:OB->Prop):Prop:=match b with
 | .arr fr tr e tid xs=>match fr,tr with
  |true,true=>k (.arr true true e tid xs)
  |true,false=>k (.arr true false e tid xs)
  |false,true=>k (.arr false true e tid xs)
  |false,false=>k (.arr false false e tid xs)
 | .Cq e tid xs=>k (.Cq e tid xs)
 | .var t vs=>aE vs λqT=>k (.var t qT)
 | .Ah e te rows out kp=>match out,kp with
  |none,none=>k (.Ah e te rows none none)
  |none,some (l,n)=>k (.Ah e te rows none (some (l,n)))
  |some i,none=>k (.Ah e te rows (some i) none)
  |some i,some (l,n)=>k (.Ah e te rows (some i) (some (l,n)))
 | .Mz v m=>k (.Mz v m)
def kl:List (Nat×OB)->(List (Nat×OB)->Prop)->Prop
 | [],k=>k []
 |(l,b)::r,k=>oX b λb'=>kl r λr'=>k ((l,b')::r')
def gf (w:WS) (k:WS->Prop):Prop:=aF w.st.tmps λt=>kl w.st.heap λh=>k {kn:=w.kn,st:= {tmps:=t,heap:=h} }
def gb (s:St) (k:St->Prop):Prop:=aF s.tmps λt=>kl s.heap λh=>k {tmps:=t,heap:=h}
def bS:List Bool->(List Bool->Prop)->Prop
 | [],k=>k []
 |true::r,k=>bS r λr'=>k (true::r')
 |false::r,k=>bS r λr'=>k (false::r')
theorem ir {c:AC} {k:AC->Prop} :js c k↔k c:=by
 cases c<;>simp only [js]
 split<;>rfl
theorem Xn: ∀ {l:List AC} {k:List AC->Prop},aE l k↔k l
 | [],k=>Iff.rfl
 |c::r,k=>by simp only [aE];rw [ir,Xn]
theorem rP {c:AV} {k:AV->Prop} :oW c k↔k c:=by
 cases c<;>simp only [oW]
 ·exact ir
 ·exact Xn
theorem Xo: ∀ {l:List AV} {k:List AV->Prop},aF l k↔k l
 | [],k=>Iff.rfl
 |c::r,k=>by simp only [aF];rw [rP,Xo]
theorem rQ {b:OB} {k:OB->Prop} :oX b k↔k b:=by
 cases b<;>simp only [oX]
 ·split<;>rfl
 ·exact Xn
 ·split<;>rfl
theorem dD: ∀ {l:List (Nat×OB)} {k:List (Nat×OB)->Prop},kl l k↔k l
 | [],k=>Iff.rfl
 |(l,b)::r,k=>by simp only [kl];rw [rQ,dD]
theorem xP {s:St} {k:St->Prop} :gb s k=k s:=by
 unfold gb
 exact propext (by rw [Xo,dD])
theorem dC: ∀ {l:List Bool} {k:List Bool->Prop},bS l k=k l
 | [],k=>rfl
 |true::r,k=>by simp only [bS];rw [dC]
 |false::r,k=>by simp only [bS];rw [dC]
theorem Xp {w:WS} {k:WS->Prop} :gf w k↔k w:=by
 unfold gf
 rw [Xo,dD]
def Sl:AC->List (Nat×Nat)
 | .own _ off len=> [(off,len)]
 |_=> []
def Sn:AV->List (Nat×Nat)
 | .at a=>Sl a
 | .agg cs=>cs.flatMap Sl
 |_=> []
def dR:OB->List (Nat×Nat)
 | .var _ vs=>vs.flatMap Sl
 |_=> []
def wq (s:St):List (Nat×Nat):=s.tmps.flatMap Sn++s.heap.flatMap λp=>dR p.2
def UG (s0 s:St):Prop:=wq s=wq s0/\Dh (bC s0 s) λv=>v=xu s0
def ga (ops:Array Oper):Nat->Array Bool->WS->(WS->Prop)->Prop
 |0,Aa,w,K=>match Region.ready .any ops Aa with
  | []=>K w
  |_::_=>False
 |f+1,Aa,w,K=>match Region.ready .any ops Aa with
  | []=>False
  |k::_=>Dh ops[k]? λo=>cT ops w o (λkk w'=>IF T Γ w' o kk) λw'=>ga ops f (Aa.setIfInBounds k true) w' K
def r8 (P:List (Nat×Nat×AV×OB)) (ops:Array Oper):Nat->Array Bool->WS->(WS->Prop)->Prop
 |0,Aa,w,K=>match Region.ready .any ops Aa with
  | []=>K w
  |_::_=>False
 |f+1,Aa,w,K=>match Region.ready .any ops Aa with
  | []=>False
  |i::r=>DT (i::r) λk=>Dh ops[k]? λo=>match vF P Γ ops w.st o k with
   |true=>cT ops w o (λkk w'=>IF T Γ w' o kk) λw'=>r8 P ops f (Aa.setIfInBounds k true) w' K
   |false=>False
def oK (P:List (Nat×Nat×AV×OB)) (n:Nat) (L0:Array Bool) (ops:Array Oper) (w:WS) (K:WS->Prop):Prop:=
 match (Qt (P.map (·.1))&&Qt (P.map (·.2.1)))&&((P.all λa=>gA a.2.1 w.st)&&(Nat.ble P.length n&&Nat.ble (n-P.length) 10)) with
 |true=>AP T Γ ops (P.map (·.1)) w λw1=>gf w1 λw1=>ga T Γ ops (n-P.length) (Dr (P.map (·.1)) L0) w1 λw0=>gf w0 λw0=>K w0/\r8 T Γ P ops (n-P.length) (Dr (P.map (·.1)) L0) w1 λw2=>UG w0.st w2.st
 |false=>False
def pW (ops:Array Oper) (draw:Bool) (w:WS) (K:WS->Prop):Prop:=
 match draw with
 |true=>match c6 false Γ ops with
  |true=>nC T Γ ops (bU false Γ ops) w λw'=>AP T Γ ops (Em false Γ ops) w' K
  |false=>match c6 true Γ ops with
   |true=>nC T Γ ops (bU true Γ ops) w λw'=>AP T Γ ops (Em true Γ ops) w' K
   |false=>match Region.noSelect ops&&Nat.ble (ops.size-(Iz ops).length) 8 with
    |true=>nC T Γ ops (Iz ops) w λw'=>match bR false ops with
     |true=>xG T Γ ops (ops.size-(Iz ops).length) (Dr (Iz ops) (Array.replicate ops.size false)) w' K
     |false=>ga T Γ ops (ops.size-(Iz ops).length) (Dr (Iz ops) (Array.replicate ops.size false)) w' λw0=>gf w0 λw0=>K w0/\xG T Γ ops (ops.size-(Iz ops).length) (Dr (Iz ops) (Array.replicate ops.size false)) w' λw1=>UG w0.st w1.st
    |false=>match Region.noSelect ops with
     |true=>nC T Γ ops (Iz ops) w λw'=>oK T Γ (Px T ops (Dr (Iz ops) (Array.replicate ops.size false))) (ops.size-(Iz ops).length) (Dr (Iz ops) (Array.replicate ops.size false)) ops w' K
     |false=>False
 |false=>LG T Γ ops ops.toList w K
def Vn (live:Nat->List Nat):Code->WS->(Fy->WS->Prop)->Prop
 | .skip,w,Q=>Q .normal w
 | .label _,w,Q=>Q .normal w
 | .region _ ops draw,w,Q=>pW T (pV Γ draw) ops draw w λw'=>gf w' (Q .normal)
 | .seq a b,w,Q=>Vn live a w λe w'=>match e with
  | .normal=>Vn live b w' Q
  | .exit id=>Q (.exit id) w'
  | .ret=>Q .ret w'
 | .cond c a b,w,Q=>SF w c λt w'=>match t with
  |true=>Vn live a w' Q
  |false=>Vn live b w' Q
 | .block id c,w,Q=>Vn live c w λe w'=>match e with
  | .normal=>Q .normal w'
  | .exit yb=>if yb=id then Q .normal w' else Q (.exit yb) w'
  | .ret=>Q .ret w'
 | .loop c,w,Q=>
  gb (w.st.clean (live (Bv c))) λs0=>bS (Gl (stays live c) 0 s0.tmps) λfx=>gb (s0.mask fx) λm=>
  qi (Qp T.parts s0.tmps) s0 (Cl (V:=RK m) (λv k=>gb ((St.mD fx s0 (bB m v)).whole (Qp T.parts s0.tmps)) λsb=>Vn live c ⟨[],sb⟩ λe w'=>match e with
   | .normal=>gb (w'.st.clean (live (Bv c))) λs1=>qi (Qp T.parts s0.tmps) s1 (Dh (bC m (s1.mask fx)) k)
   | .exit id=>Q (.exit id) w'
   | .ret=>Q .ret w') (xu m))
 | .exit id,w,Q=>Q (.exit id) w
 | .ret,w,Q=>Q .ret w
 |_,_,_=>False
def IW (s:Spec) (fn:Func) (P:s.res.den->Prop) (st:St):Prop:=
 Dh (eJ T s fn st) λp=>match p.1||!s.fresh with|true=>P p.2|false=>False
def aO (st:St) (K:Prop):List AC->List (Bool×CK)->Prop
 | .own l off len::as,(true,_)::r=>match st.at l with
  |some (.arr _ _ _ _ xs)=>(off=0/\len=xs.length)/\aO st K as r
  |some (.Cq _ _ xs)=>(off=0/\len=xs.length)/\aO st K as r
  |_=>False
 |_::as,(false,_)::r=>aO st K as r
 |_,_=>K
def gB (st:St):(cs:List CK)->List AC->(CKs.den cs->List Nat->Prop)->Prop
 | [],[],K=>K () []
 | .Ah e te _::r, .own l off len::as,K=>match st.at l with
  |some (.Ah e' Kc rows none _)=>if h:e'=e/\Kc=te then (off=0/\len=rows.length)/\gB st r as λy t=>K ((h.1▸rows:List (List e.den)),y) (l::t) else False
  |_=>False
 |c::r,a::as,K=>Dh (cm st c a) λp=>gB st r as λy t=>K (p.1,y) (p.2++t)
 |_,_,_=>False
def pq (st:St) (n:Nat) (as:List AC):List (Nat×Nat)->Prop->Prop
 | [],K=>K
 |(k,j)::r,K=>match as[j]? with
  |some (.own l _ _)=>match st.at l with
   |some (.Ah _ _ _ _ (some p))=>match Nat.beq p.1 (Bk false k)&&Nat.blt k 1000 with
    |true=>n<=p.2/\pq st n as r K
    |false=>False
   |_=>False
  |_=>False
def ld (s:MSpec) (fn:Func) (x:Ins.den s.ins) (st:St) (cs:List AC) (P:CKs.den s.outs×IOs.den s.ins->Prop):Prop:=
 Dh (Vd T st fn.results.toList) λl=>Dh (vY s st l) λp=>gB st s.outs (cs++p.1) λr ls=>Dh (Ih st 0 s.ins) λo=>
  match Qt (p.2++ls++Ix 0 s.ins)&&Nat.blt s.ins.length 1000&&Nat.blt s.outs.length 1000&&s.BI with
  |true=>pq st (s.Ch x) (cs++p.1) s.keeps (P (r,o))
  |false=>False
def xq (s:MSpec) (fn:Func) (x:Ins.den s.ins) (st:St) (P:CKs.den s.outs×IOs.den s.ins->Prop):Prop:=
 match s.ptr with
 |none=>ld T s fn x st [] P
 |some p=>match st.at Kn with
  |some (.var tid vs)=>match Nat.beq tid p.1&&Nat.beq vs.length p.2 with
   |true=>Dh (Ei 0 s.ins vs) λcs=>aO st (ld T s fn x st cs P) vs s.ins
   |false=>False
  |_=>False
@[irreducible] def fnMW (s:MSpec) (fn:Func) (x:Ins.den s.ins) (P:CKs.den s.outs×IOs.den s.ins->Prop):Prop:=
 match Nat.blt s.ins.length 1000&&pR s with
 |false=>False
 |true=>Dh fn.body λc=>Vn T Γ (py T.marks fn c) c {kn:= [],st:= {tmps:=Rb s (Sz 0 s.ins x)++List.replicate (fn.ntmps-(Rb s (Sz 0 s.ins x)).length) .undef,heap:=iA s x} } λe w=>match e with
  | .normal=>xq T s fn x w.st P
  | .ret=>xq T s fn x w.st P
  | .exit _=>False
@[irreducible] def fnW (s:Spec) (fn:Func) (x:s.arg.den) (P:s.res.den->Prop):Prop:=
 Dh fn.body λc=>Vn T Γ (py T.marks fn c) c {kn:= [],st:= {tmps:=Lc s.arg x++List.replicate (fn.ntmps-(Lc s.arg x).length) .undef,heap:= []} } λe w=>match e with
  | .normal=>IW T s fn P w.st
  | .ret=>IW T s fn P w.st
  | .exit _=>False
end Go.Proofs.Ytjbdmibbbpdnnaa
