/-
  Part 31 of the proof that the statement FnNoShorterSolution holds.
-/
import Derived.Test.YtkkdpknjohcekaaGreatCFNoShorterSolution29
namespace Go.Proofs.YtkkdpknjohcekaaGreat
open Go.RowKit
inductive Br (b:Bool) (A B:Prop):Prop
 |mk (t:b=true->A) (f:b=false->B)
inductive Dn {V:Type} (step:V->(V->Prop)->Prop) (v0:V):Prop
 |mk (I:V->Prop) (μ:V->Nat) (h0:I v0) (h: ∀v,I v->step v (λv'=>I v'/\μ v'<μ v))
structure WS where
 kn:List (Nat×Bool)
 st:St
def nW:List (Nat×Bool)->Nat->Option Bool
 | [],_=>none
 |(k,b)::r,t=>if k=t then some b else nW r t
def xF:List (Nat×Bool)->Nat->List (Nat×Bool)
 | [],_=> []
 |(k,b)::r,t=>if k=t then xF r t else (k,b)::xF r t
def WS.put (w:WS) (dst:Option Tmp) (v:AV):WS:=
 match dst with
 |some d=> {kn:=xF w.kn d,st:=w.st.put (some d) v}
 |none=>w
def Wt (kn:List (Nat×Bool)):Operand->Option Bool
 | .const (.bool b)=>some b
 | .tmp t=>nW kn t
 |_=>none
def Hw (kn:List (Nat×Bool)) (o:Oper):Option Bool:=
 match o.op with
 | .assign x=>Wt kn x
 | .move x=>Wt kn x
 | .unOp .not _ x=>(Wt kn x).map (!·)
 | .pick c a b=>match Wt kn c with
  |some true=>Wt kn a
  |some false=>Wt kn b
  |none=>none
 |_=>none
def WS.wo (w:WS) (o:Oper) (v:AV):WS:=
 match o.dst,Hw w.kn o with
 |some d,some b=>match (w.st.put (some d) v).get d with
  | .at (.data _ .bool _)=> {kn:=(d,b)::xF w.kn d,st:=w.st.put (some d) v}
  |_=>w.put (some d) v
 |dst,_=>w.put dst v
def WS.to (w:WS) (st:St):WS:= {kn:=w.kn,st:=st}
def brT (w:WS) (t:Nat) (K:Bool->WS->Prop):Prop:=
 match nW w.kn t with
 |some b=>K b w
 |none=>match w.st.get t with
  | .at (.data _ .bool b)=>Br b (K true {kn:=(t,true)::w.kn,st:=w.st}) (K false {kn:=(t,false)::w.kn,st:=w.st})
  |_=>False
def brO (w:WS) (c:Operand) (K:Bool->WS->Prop):Prop:=
 match c with
 | .tmp t=>brT w t K
 | .const (.bool b)=>K b w
 |_=>False
def Ik {α:Type} (o:Option α) (K:α->Prop):Prop:=match o with|some x=>K x|none=>False
def Ajg (T:Tab) (st:St) (t:TypeId) (x:AV) (l h:Int):Option AV:=
 match x with
 | .at (.data fr (.slice e) xs)=>if (T.elem t).bind T.ty=some e then some (.at (.data fr (.slice e) ((xs.take h.toNat).drop l.toNat))) else none
 | .at (.own k off _)=>match st.at k with
  |some (.arr _ _ e tid _)=>if T.elem t=some tid/\T.ty tid=some e then some (.at (.own k (off+l.toNat) (h.toNat-l.toNat))) else none
  |_=>none
 | .at (.data _ .str s)=>if T.ty t=some .str then some (.at (.data true .str (s.extract l.toNat h.toNat))) else none
 |_=>none
variable (T:Tab) (Γ:Env)
def Ah5 (op:BinOp) (t:TypeId) (x y:AV) (K:AV->Prop):Prop:=
 match op,x,y with
 | .quo, .at (.data _ (.int k) a), .at (.data _ (.int k') b)=>if k=k' then b≠0/\K (.at (.data true (.int k) (k.wrap (a.tdiv b)))) else False
 | .rem, .at (.data _ (.int k) a), .at (.data _ (.int k') b)=>if k=k' then b≠0/\K (.at (.data true (.int k) (a.tmod b))) else False
 | .shl, .at (.data _ (.int k) a), .at (.data _ (.int _) b)=> ¬b<0/\K (.at (.data true (.int k) (k.wrap (a*2^(min b.toNat k.bits)))))
 | .shr, .at (.data _ (.int k) a), .at (.data _ (.int _) b)=> ¬b<0/\K (.at (.data true (.int k) (a.fdiv (2^(min b.toNat k.bits)))))
 | .add, .at (.data _ .str a), .at (.data _ .str b)=>a.size+b.size<=4294967296/\K (.at (.data true .str (a++b)))
 |op,x,y=>Ik (Uc T op t x y) K
def ZQ (st:St) (t:TypeId) (p:AV) (K:AV->Prop):Prop:=
 match p with
 | .at (.Kw l i)=>Ik (T.ty t) λτ=>match st.at l with
  |some (.arr fr _ e _ xs)=>if e=τ then ∃x,xs[i]?=some x/\K (.at (.data (fr||e.flat) e x)) else False
  |some (.He e _ xs)=>if e=τ then ∃x,xs[i]?=some x/\K (if e.Aq then .agg (gz l i 0 e x) else .at ((gz l i 0 e x).headD .undef)) else False
  |some (.Bo _ _ _ none _)=>if τ.Aq then False else K (.at (.sub l i 0))
  |_=>False
 | .at (.data fr (.optr Ox) x)=>Ik (T.ty t) λτ=>if Ox=τ then ∃y,x=some y/\K (.at (.data (fr||Ox.flat) Ox y)) else False
 |p=>Ik (Qu T st t p) K
def mi (s:TypeId) (x:AV) (f:Nat) (K:AV->Prop):Prop:=
 match x with
 | .at (.data fr (.optr τ) x)=> ∃y,x=some y/\Ik (On T s (.at (.data fr (.ptr τ) y)) f) K
 |x=>Ik (On T s x f) K
def xM (st:St) (x:Operand) (K:AV->Prop) (d:Option AV):Prop:=
 match st.ev x with
 | .at (.data fr (.optr τ) x)=> ∃y,x=some y/\K (.at (.data fr (.ptr τ) y))
 |_=>Ik d K
def NC (st:St) (t:TypeId) (x:AV) (lo hi:Option AV) (K:AV->Prop):Prop:=
 Ik (EY x) λn=>Ik (WI lo 0) λl=>Ik (WI hi n) λh=>(0<=l/\l<=h/\h<=n)/\Ik (Ajg T st t x l h) K
def my (st:St) (t:TypeId) (x i:AV) (K:AV->Prop):Prop:=
 match x,i with
 | .at (.data fr (.slice e) xs), .at (.data _ (.int _) n)=>if (T.elem t).bind T.ty=some e then ∃x,idx xs n=some x/\K (.at (.data fr (.ptr e) x)) else False
 | .at (.own l off len), .at (.data _ (.int _) n)=>match st.at l with
  |some (.arr _ _ e tid _)=>if T.elem t=some tid/\T.ty tid=some e then (0<=n/\n<len)/\K (.at (.Kw l (off+n.toNat))) else False
  |some (.He e tid _)=>if T.elem t=some tid/\T.ty tid=some e then (0<=n/\n<len)/\K (.at (.Kw l (off+n.toNat))) else False
  |some (.Bo _ te _ _ _)=>if T.elem t=some te/\(T.ty te).map Ty.size=some 1 then (0<=n/\n<len)/\K (.at (.Kw l (off+n.toNat))) else False
  |_=>False
 | .at (.sub l i _), .at (.data _ (.int _) n)=>match st.at l with
  |some (.Bo e _ rows none _)=>if ((T.elem t).bind T.ty).map Ty.size=some e.size then (0<=n/\n<(rows.getD i []).length)/\K (.at (.Kq l i n.toNat)) else False
  |_=>False
 |_,_=>False
def KS (t:TypeId) (x i:AV) (K:AV->Prop):Prop:=
 match x,i with
 | .at (.data _ .str s), .at (.data _ (.int _) n)=>if T.ty t=some .str then 0<=n/\ ∃b,s[n.toNat]?=some b/\K (.at (.data true (.int .u8) b.toNat)) else False
 |_,_=>False
def xd (st:St) (f:FuncId) (args:List AV) (K:AV->Prop):Prop:=
 Ik (match Γ f with|some (.q s)=>some s|_=>none) λs=>match s.fresh||s.res.flat||args.all (·.settled) with
  |true=>Ik (Dw st s.arg args) λp=> ∃y,s.fn p.2=some y/\K (if s.Ht then .bF (s.fresh||s.res.flat) s.res y else .at (.data (s.fresh||s.res.flat) s.res y))
  |false=>False
def JO (st:St) (v:AV) (args:List AV) (K:AV->Prop):Prop:=
 match v with
 | .at (.data fr (.clo f τ) x)=>match τ.chain with|true=>(match Nat.blt f 1000000000 with|true=>xd Γ st f (args++bM fr τ x) K|false=>xd Γ st (f-1000000000) (bM fr τ x++args) K)|false=>False
 | .at (.clo f Ee)=>xd Γ st f (args++Ee.map λp=> .at (.Hu p.1 p.2)) K
 |_=>False
def qW (w:WS) (o:Oper) (K:AV->WS->Prop):Prop:=
 match o.op with
 | .pick c a b=>brO w c λt w'=>match t with|true=>K (w'.st.ev a) w'|false=>K (w'.st.ev b) w'
 | .load t a=>ZQ T w.st t (w.st.ev a) λv=>K v w
 | .binOp op t x y _=>Ah5 T op t (w.st.ev x) (w.st.ev y) λv=>K v w
 | .slice t x lo hi mx=>match mx with
  |none=>NC T w.st t (w.st.ev x) (lo.map w.st.ev) (hi.map w.st.ev) λv=>K v w
  |some _=>False
 | .indexAddr t x i=>my T w.st t (pC (w.st.ev x)) (w.st.ev i) λv=>K v w
 | .index t x i=>KS T t (w.st.ev x) (w.st.ev i) λv=>K v w
 | .call {callee:= .value (.func f),args, .. } =>xd Γ w.st f (args.toList.map w.st.ev) λv=>K v w
 | .call {callee:= .value (.tmp t),args, .. } =>JO Γ w.st (w.st.get t) (args.toList.map w.st.ev) λv=>K v w
 | .fieldAddr s x f=>mi T s (w.st.ev x) f λv=>K v w
 | .nilCheck x=>xM w.st x (λv=>K v w) (Fc T Γ w.st o)
 |_=>Ik (Fc T Γ w.st o) λv=>K v w
def NR (st:St) (t:TypeId) (p v:AV) (K:St->Prop):Prop:=
 match p with
 | .at (.Kw l j)=>Ik (T.ty t) λτ=>Ik (settle st v) λq=>match q.2.at l with
  |some (.arr fr tr e tid xs)=>Ik (Fv q.2 τ q.1) λu=>if h:τ=e then j<xs.length/\K (q.2.Kp l (.arr (fr&&u.1) (tr&&(Ts st v&&e.tree)) e tid (xs.set j (h▸u.2)))) else False
  |_=>False
 |p=>Ik (Vg T st t p v) K
def RD (st:St) (t:TypeId) (p v:AV) (K:St->Prop):Prop:=
 match p with
 | .at (.Kq l i j)=>Ik (T.ty t) λτ=>Ik (settle st v) λq=>match q.2.at l with
  |some (.Bo e te rows none kp)=>Ik (Fv q.2 τ q.1) λu=>if h:τ=e then K (q.2.Kp l (.Bo e te (rows.set i ((rows.getD i []).set j (h▸u.2))) none kp)) else False
  |_=>False
 | .at (.Kw l j)=>Ik (T.ty t) λτ=>match st.at l,v with
  |some (.Bo e te rows out kp), .at (.own m off len)=>match st.at m with
   |some (.arr _ _ e' _ xs)=>if h:e'=e/\(Nat.blt l Bl&&(!Nat.beq m l&&!τ.Aq))=true then
     off=0/\len=xs.length/\(match out with|none=>True|some i=>i=j)/\K (Ua st l j m e te rows (h.1▸xs) (c8 j kp))
    else False
   |_=>False
  |_,_=>False
 |_=>False
def AX (st:St) (t:TypeId) (p v:AV) (K:St->Prop):Prop:=match PN st p with
 |true=>RD T st t p v K
 |false=>NR T st t p v K
def nd (st:St) (dst:Nat) (t:TypeId) (x y:Operand) (K:AV->St->Prop):Prop:=
 Ik (T.elem t) λte=>Ik (T.ty te) λe=>Ik (settle st (st.ev y)) λq=>Ik (Fv q.2 (.slice e) q.1) λu=>match q.2.ev x with
  | .at .Mp=>match Nat.blt dst Bl with
   |true=>List.length u.2<=Dk/\K (.at (.own dst 0 (List.length u.2))) ((q.2.new dst (.arr (T.vu||e.flat) T.CB e te [])).new dst (.arr ((T.vu||e.flat)&&(u.1||e.flat)) (T.CB&&(e.flat||(Ts st (st.ev y)&&e.tree))) e te u.2))
   |false=>False
  | .at (.own l off len)=>match q.2.at l with
   |some (.arr fr tr e' tid xs)=>if h:e'=e/\tid=te/\Nat.blt l Bl=true then
     off=0/\len=xs.length/\len+List.length u.2<=Dk/\K (.at (.own l 0 (List.length ((h.1▸xs:List e.den)++u.2)))) (q.2.new l (.arr (fr&&(u.1||e.flat)) (tr&&(e.flat||(Ts st (st.ev y)&&e.tree))) e te ((h.1▸xs:List e.den)++u.2)))
    else False
   |_=>False
  |_=>False
def sB (st:St) (dst:Nat) (t:TypeId) (x y:Operand) (K:AV->St->Prop):Prop:=
 match x with
 | .tmp tx=>match st.get tx with
  | .at (.sub l i _)=>Ik (T.elem t) λtid=>match st.at l with
   |some (.Bo e te rows none kp)=>match Nat.blt l Bl&&(Nat.blt dst Bl&&!Nat.beq dst l) with
    |true=>nd T ((Qt st l i dst e te tid rows kp).put (some tx) (.at (.own dst 0 (rows.getD i []).length))) dst t x y K
    |false=>False
   |_=>False
  |_=>nd T st dst t x y K
 |_=>nd T st dst t x y K
def ZV (st:St) (dst:Nat) (t:TypeId) (l c:AV) (K:AV->St->Prop):Prop:=
 match l,c with
 | .at (.data _ (.int _) n), .at (.data _ (.int _) m)=>Ik (T.elem t) λte=>Ik (T.ty te) λe=>match gH e&&Nat.blt dst Bl with
  |true=>(0<=n/\n<Dk+1)/\n=m/\K (.at (.own dst 0 (List.replicate n.toNat e.zero).length)) (st.new dst (.arr (T.vu||e.flat) (T.CB&&e.tree) e te (List.replicate n.toNat e.zero)))
  |false=>False
 |_,_=>False
def LK (st:St) (dst:Nat) (t:TypeId) (l c:AV) (K:AV->St->Prop):Prop:=
 match eu T t with
 |none=>ZV T st dst t l c K
 |some p=>match l,c with
  | .at (.data _ (.int _) n), .at (.data _ (.int _) m)=>match Nat.blt dst Bl with
   |true=>(0<=n/\n<Dk+1)/\n=m/\K (.at (.own dst 0 (List.replicate n.toNat ([]:List p.2.den)).length)) (Rq st dst dst (.Bo p.2 p.1 (List.replicate n.toNat []) none none))
   |false=>False
  |_,_=>False
def fw (st:St) (dst:Nat) (t:TypeId) (len:Nat) (parts:Array (Nat×Operand)) (K:AV->St->Prop):Prop:=
 match eu T t with
 |none=>Ik (Na T st dst t len parts) λr=>K r.1 r.2
 |some p=>match parts.toList with
  | [(0,x)]=>match st.ev x with
   | .at (.own m off ln)=>match st.at m with
    |some (.arr _ _ e' _ xs)=>if h:e'=p.2/\(Nat.beq len 1&&(Nat.blt dst Bl&&Nat.blt m Bl))=true then off=0/\ln=xs.length/\K (.at (.own dst 0 1)) (Rq st dst m (.Bo p.2 p.1 [h.1▸xs] none none)) else False
    |_=>False
   |_=>False
  |_=>False
def sD (st:St) (dst:Nat) (t:TypeId) (x y:Operand) (K:AV->St->Prop):Prop:=
 match eu T t with
 |none=>sB T st dst t x y K
 |some p=>match st.ev x,st.ev y with
  | .at (.own l off len), .at (.own m Aa1 tQ)=>match st.at l,st.at m with
   |some (.Bo e1 te1 A none _),some (.Bo e2 wJ B none _)=>
    if h:(e1=p.2/\e2=p.2)/\(decide (te1=p.1)&&decide (wJ=p.1)&&(Nat.blt l Bl&&(Nat.blt m Bl&&!Nat.beq m l)))=true then
     (off=0/\len=A.length)/\(Aa1=0/\tQ=B.length)/\0<B.length/\A.length+B.length<=Dk/\
      K (.at (.own l 0 (List.length ((h.1.1▸A:List (List p.2.den))++(h.1.2▸B:List (List p.2.den)))))) (Rq st l m (.Bo p.2 p.1 ((h.1.1▸A:List (List p.2.den))++(h.1.2▸B:List (List p.2.den))) none none))
    else False
   |_,_=>False
  |_,_=>False
def gC (st:St) (io:Bool) (k:Nat):(c:CK)->AC->(c.den->List (Nat×Loc)->Prop)->Prop
 | .Ec τ, .own l off len,K=>Ik (Dr st τ (.own l off len)) λp=>K p.2 [(Dx false k, .view l)]
 | .Ec τ, .clo g Ee,K=>match cw st (Ee.map (·.1))&&!τ.Aq with
  |true=>Ik (Kn st τ (.clo g Ee)) λp=>K p.2 (views k (Ee.map (·.1)))
  |false=>False
 | .Ec τ, .Hu l i,K=>match cw st [l]&&!τ.Aq with
  |true=>Ik (Kn st τ (.Hu l i)) λp=>K p.2 (views k [l])
  |false=>False
 | .Ec τ, .sub l i c,K=>Ik (Dr st τ (.sub l i c)) λp=>K p.2 [(Dx false k, .view l)]
 | .Ec τ,a,K=>match τ.flat||a.settled with
  |true=>Ik (Dr st τ a) λp=>K p.2 []
  |false=>False
 | .row e te, .own l off len,K=>match st.at l with
  |some (.arr _ _ e' Rv xs)=>if h:e'=e/\Rv=te then off=0/\len=xs.length/\K (h.1▸xs:List e.den) [(Dx io k, .row l)] else False
  |_=>False
 | .row e _, .sub l i c,K=>match st.at l with
  |some (.He e' _ xs)=>if h:e'= .slice e/\e.flat=true/\io=true/\c=0 then ∃y,xs[i]?=some y/\K (h.1▸y:(Ty.slice e).den) [(Dx io k, .sub l i c)] else False
  |_=>False
 | .row _ _, .Mp,K=>K [] []
 | .Ij e te, .own l off len,K=>match st.at l with
  |some (.He e' Rv xs)=>if h:e'=e/\Rv=te then off=0/\len=xs.length/\K (h.1▸xs:List e.den) [(Dx io k, .row l)] else False
  |_=>False
 | .Ij e _, .sub l i c,K=>match st.at l with
  |some (.He e' _ xs)=>if h:e'= .slice e/\io=true/\c=0 then ∃y,xs[i]?=some y/\K (h.1▸y:(Ty.slice e).den) [(Dx io k, .sub l i c)] else False
  |_=>False
 | .Ij _ _, .Mp,K=>K [] []
 | .part e te, .own l off len,K=>match st.at l with
  |some (.arr _ _ e' Rv xs)=>if h:e'=e/\Rv=te/\e.flat=true/\io=true then K ((h.1▸xs:List e.den),off,len) [(Dx io k, .row l)] else False
  |_=>False
 | .Bo e te _, .own l off len,K=>match st.at l with
  |some (.Bo e' Rv rows none _)=>if h:e'=e/\Rv=te/\io=false then off=0/\len=rows.length/\K (h.1▸rows:List (List e.den)) [(Dx io k, .row l)] else False
  |_=>False
 |_,_,_=>False
def BI (st:St):(k:Nat)->(cs:List (Bool×CK))->List AC->(Ins.den cs->List (Nat×Loc)->Prop)->Prop
 |_,[],[],K=>K () []
 |k,p::r,a::as,K=>gC st p.1 k p.2 a λx t1=>BI st (k+1) r as λy t2=>K (x,y) (t1++t2)
 |_,_,_,_=>False
def qF (st:St):(c:CK)->c.den->AC->(St->Prop)->Prop
 | .row e _,ys, .own l _ len,K=>match st.at l with
  |some (.arr fr tr e' te xs)=>if h:e=e' then (List.length ys=len/\xs.length=len)/\K (st.Kp l (.arr (fr&&e'.flat) (tr&&e'.flat) e' te (h▸ys))) else False
  |_=>False
 | .Ij e _,ys, .own l _ len,K=>match st.at l with
  |some (.He e' te xs)=>if h:e=e' then (List.length ys=len/\xs.length=len)/\K (st.Kp l (.He e' te (h▸ys))) else False
  |_=>False
 | .row e _,ys, .sub l i _,K=>match st.at l with
  |some (.He e' te xs)=>if h: .slice e=e' then ∃y,xs[i]?=some y/\List.length ys=List.length (h▸y:(Ty.slice e).den)/\K (st.Kp l (.He e' te (xs.set i (h▸(ys:(Ty.slice e).den))))) else False
  |_=>False
 | .Ij e _,ys, .sub l i _,K=>match st.at l with
  |some (.He e' te xs)=>if h: .slice e=e' then ∃y,xs[i]?=some y/\List.length ys=List.length (h▸y:(Ty.slice e).den)/\K (st.Kp l (.He e' te (xs.set i (h▸(ys:(Ty.slice e).den))))) else False
  |_=>False
 |_,_, .Mp,K=>K st
 |_,_,_,_=>False
def Aap (st:St) (e:Ty) (ys:List e.den):AC->(St->Prop)->Prop
 | .own l _ _,K=>match st.at l with
  |some (.arr fr tr e' te xs)=>if h:e=e' then List.length ys=xs.length/\K (st.Kp l (.arr fr tr e' te (h▸ys))) else False
  |_=>False
 |_,_=>False
def jC:(cs:List (Bool×CK))->IOs.den cs->List AC->St->(St->Prop)->Prop
 | [],_,_,st,K=>K st
 |(true, .Ec _)::r,x,_::as,st,K=>jC r x as st K
 |(true, .row e te)::r,x,a::as,st,K=>qF st (.row e te) x.1 a λst'=>jC r x.2 as st' K
 |(true, .Ij e te)::r,x,a::as,st,K=>qF st (.Ij e te) x.1 a λst'=>jC r x.2 as st' K
 |(true, .part e _)::r,x,a::as,st,K=>Aap st e x.1 a λst'=>jC r x.2 as st' K
 |(true, .Bo _ _ _)::r,x,_::as,st,K=>jC r x as st K
 |(false,_)::r,x,_::as,st,K=>jC r x as st K
 |_,_,_,_,_=>False
def uX (H:List (Nat×OB)) (ls:List Nat) (n:Nat):List AV->Prop->Prop
 | [],K=>K
 | .at (.sub l i _)::r,K=>match ls.contains l with
  |true=>(i<n/\i<s5 H l)/\uX H ls n r K
  |false=>uX H ls n r K
 |_::r,K=>uX H ls n r K
def JN (st:St) (dst:Option Nat) (s:MSpec) (args:List AV) (K:AV->St->Prop):Prop:=
 Ik (QU st s args) λq=>Ik (ungroup s.Jb q.2.2) λoO=>BI st 0 s.ins (q.2.1++oO) λx tks=>
  match az (tks.map λt=>t.2.Xj)&&zl (Sy s tks (dst.getD 0)) (s.outs.length+(mM s (dst.getD 0)).length)&&Nat.blt s.outs.length 1000&&Nat.blt s.ins.length 1000&&(Wn s.ins q.2.1&&q.1.all λl=>!((tks.map λt=>t.2.Xj)++Sy s tks (dst.getD 0)).contains l) with
  |true=> ∃p,s.fn x=some p/\jC s.ins p.2 (q.2.1++oO) st λst1=>Ik (Aem s (dst.getD 0) ((cd (Eb (Sy s tks (dst.getD 0))) 0 s.outs p.1).drop s.aM)) λv=>
    uX (m7 st st1 (dst.getD 0) s q.1 tks p.1).heap (c7 st.heap (Sy s tks (dst.getD 0)) tks s.keeps) (s.Fp x) st.tmps
     (K v (mz st (m7 st st1 (dst.getD 0) s q.1 tks p.1) (c7 st.heap (Sy s tks (dst.getD 0)) tks s.keeps) (s.Fp x)))
  |false=>False
def opW (w:WS) (o:Oper) (K:AV->WS->Prop):Prop:=
 match o.op with
 | .store t p x=>AX T (Pc T w.st p x) t ((Pc T w.st p x).ev p) ((Pc T w.st p x).ev x) λs=>K .undef (w.to s)
 | .makeSlice t l c=>Ik o.dst λd=>LK T w.st d t (w.st.ev l) (w.st.ev c) λv s=>K v (w.to s)
 | .call {callee:= .builtin .append,args,argTypes} =>match o.dst,args.toList,argTypes.toList with
  |some d,[x,y],[t,t']=>if t=t' then sD T w.st d t x y λv s=>K v (w.to s) else False
  |_,_,_=>False
 | .assign _=>Ik (evalOp T Γ w.st o) λr=>K r.1 (w.to r.2)
 | .alloc _=>Ik (evalOp T Γ w.st o) λr=>K r.1 (w.to r.2)
 | .box _ _=>Ik (evalOp T Γ w.st o) λr=>K r.1 (w.to r.2)
 | .buildSlice t len parts=>Ik o.dst λd=>fw T w.st d t len parts λv s=>K v (w.to s)
 | .build _ _=>Ik (evalOp T Γ w.st o) λr=>K r.1 (w.to r.2)
 | .makeMap _ _=>Ik (evalOp T Γ w.st o) λr=>K r.1 (w.to r.2)
 | .mapUpdate _ _ _ _=>Ik (evalOp T Γ w.st o) λr=>K r.1 (w.to r.2)
 | .insert _ _ _ _=>Ik (evalOp T Γ w.st o) λr=>K r.1 (w.to r.2)
 | .call {callee:= .builtin .copy, .. } =>Ik (evalOp T Γ w.st o) λr=>K r.1 (w.to r.2)
 | .call {callee:= .builtin .clear, .. } =>Ik (evalOp T Γ w.st o) λr=>K r.1 (w.to r.2)
 | .call {callee:= .value (.func f),args, .. } =>match Γ f with
  |some (.m s)=>JN w.st o.dst s (args.toList.map w.st.ev) λv s'=>K v (w.to s')
  |some (.q s)=>match fU s (args.toList.map w.st.ev) with
   |true=>Ik (Ny args.toList w.st) λst1=>qW T Γ (w.to st1) o K
   |false=>qW T Γ w o K
  |_=>qW T Γ w o K
 |_=>qW T Γ w o K
def AV.ZM:AV->Bool
 | .at .skip=>true
 |_=>false
def bW (w:WS) (o:Oper) (K:AV->WS->Prop):Prop:=
 match o.op with
 | .buildSlice t len parts=>Ik (bQ T w.st t len parts) λv=>K v w
 | .build t parts=>Ik (Yc T w.st t parts) λv=>K v w
 |_=>qW T Γ w o K
def jX (ops:Array Oper) (w:WS) (o:Oper) (run:(AV->WS->Prop)->WS->Prop) (K:WS->Prop):Prop:=
 match o.guard with
 |none=>run (λv w'=>K (w'.wo o v)) w
 |some (j,want)=>Ik ((ops[j]?).bind (·.dst)) λt=>match (w.st.get t).ZM with
  |true=>K (w.put o.dst (.at .skip))
  |false=>brT w t λb w'=>match b,want with
   |true,true=>run (λv qV=>K (qV.wo o v)) w'
   |false,false=>run (λv qV=>K (qV.wo o v)) w'
   |_,_=>K (w'.put o.dst (.at .skip))
def Aj1 (ops:Array Oper):List Oper->WS->(WS->Prop)->Prop
 | [],w,K=>K w
 |o::r,w,K=>jX ops w o (λk w'=>opW T Γ w' o k) λw'=>Aj1 ops r w' K
def ZC (ops:Array Oper):List Nat->WS->(WS->Prop)->Prop
 | [],w,K=>K w
 |i::r,w,K=>Ik ops[i]? λo=>jX ops w o (λk w'=>opW T Γ w' o k) λw'=>ZC ops r w' K
def lk (ops:Array Oper):List Nat->WS->(WS->Prop)->Prop
 | [],w,K=>K w
 |i::r,w,K=>Ik ops[i]? λo=>jX ops w o (λk w'=>bW T Γ w' o k) λw'=>lk ops r w' K
def XE:List Nat->(Nat->Prop)->Prop
 | [],_=>True
 | [i],P=>P i
 |i::j::r,P=>P i/\XE (j::r) P
def RT (ops:Array Oper):Nat->Array Bool->WS->(WS->Prop)->Prop
 |0,Ah,w,K=>match Region.ready .any ops Ah with
  | []=>K w
  |_::_=>False
 |f+1,Ah,w,K=>match Region.ready .any ops Ah with
  | []=>False
  |i::r=>XE (i::r) λk=>Ik ops[k]? λo=>jX ops w o (λkk w'=>opW T Γ w' o kk) λw'=>RT ops f (Ah.setIfInBounds k true) w' K
def acV:AC->Type->Type
 | .data _ τ _,R=>τ.den×R
 | .sub _ _ _,R=>Nat×R
 | .Kw _ _,R=>Nat×R
 | .Kq _ _ _,R=>Nat×Nat×R
 |_,R=>R
def JF:List AC->Type->Type
 | [],R=>R
 |c::r,R=>acV c (JF r R)
def avV:AV->Type->Type
 | .at a,R=>acV a R
 | .agg cs,R=>JF cs R
 | .bF _ τ _,R=>τ.den×R
 | .Ng _,R=>R
def obV:OB->Type->Type
 | .arr _ _ e _ _,R=>List e.den×R
 | .He e _ _,R=>List e.den×R
 | .var _ vs,R=>JF vs R
 | .Bo e _ _ _ none,R=>List (List e.den)×R
 | .Bo e _ _ _ (some _),R=>List (List e.den)×(Nat×R)
 | .Vy v _,R=>(ByteArray->Option v.den)×R
def qT:List AV->Type->Type
 | [],R=>R
 |v::r,R=>avV v (qT r R)
def xt:List (Nat×OB)->Type->Type
 | [],R=>R
 |p::r,R=>obV p.2 (xt r R)
def stV (s:St):Type:=qT s.tmps (xt s.heap Unit)
def OU:(c:AC)-> {R:Type} ->R->acV c R
 | .data _ _ x,_,r=>(x,r)
 | .undef,_,r=>r
 | .skip,_,r=>r
 | .Mp,_,r=>r
 | .Vx,_,r=>r
 | .own _ _ _,_,r=>r
 | .Hu _ _,_,r=>r
 | .Kw _ i,_,r=>(i,r)
 | .clo _ _,_,r=>r
 | .Lc _,_,r=>r
 | .sub _ i _,_,r=>(i,r)
 | .Kq _ i j,_,r=>(i,j,r)
def sx:(l:List AC)-> {R:Type} ->R->JF l R
 | [],_,r=>r
 |c::l,_,r=>OU c (sx l r)
def Af9:(c:AV)-> {R:Type} ->R->avV c R
 | .at a,_,r=>OU a r
 | .agg cs,_,r=>sx cs r
 | .bF _ _ x,_,r=>(x,r)
 | .Ng _,_,r=>r
def Agp:(b:OB)-> {R:Type} ->R->obV b R
 | .arr _ _ _ _ xs,_,r=>(xs,r)
 | .He _ _ xs,_,r=>(xs,r)
 | .var _ vs,_,r=>sx vs r
 | .Bo _ _ rows _ none,_,r=>(rows,r)
 | .Bo _ _ rows _ (some p),_,r=>(rows,p.2,r)
 | .Vy _ m,_,r=>(m,r)
def sm:(l:List AV)-> {R:Type} ->R->qT l R
 | [],_,r=>r
 |c::l,_,r=>Af9 c (sm l r)
def s6:(l:List (Nat×OB))-> {R:Type} ->R->xt l R
 | [],_,r=>r
 |p::l,_,r=>Agp p.2 (s6 l r)
def QY (s:St):stV s:=sm s.tmps (s6 s.heap ())
def oU:(c d:AC)-> {R:Type} ->R->Option (acV c R)
 | .data fr τ _, .data Wh Ox x,_,r=>if h:Ox=τ/\Wh=fr then some (h.1▸x,r) else none
 | .undef, .undef,_,r=>some r
 | .skip, .skip,_,r=>some r
 | .Mp, .Mp,_,r=>some r
 | .Vx, .Vx,_,r=>some r
 | .own l _ _, .own l' _ _,_,r=>if l=l' then some r else none
 | .Hu l i, .Hu l' i',_,r=>if l=l'/\i=i' then some r else none
 | .Kw l _, .Kw l' i',_,r=>if l=l' then some (i',r) else none
 | .clo f c, .clo f' c',_,r=>if f=f'/\c=c' then some r else none
 | .Lc l, .Lc l',_,r=>if l=l' then some r else none
 | .sub l _ c, .sub l' i' c',_,r=>if l=l'/\c=c' then some (i',r) else none
 | .Kq l _ _, .Kq l' i' j',_,r=>if l=l' then some (i',j',r) else none
 |_,_,_,_=>none
def Sx:(l m:List AC)-> {R:Type} ->R->Option (JF l R)
 | [],[],_,r=>some r
 |c::l,d::m,_,r=>(Sx l m r).bind λr'=>oU c d r'
 |_,_,_,_=>none
def mb:(c d:AV)-> {R:Type} ->R->Option (avV c R)
 | .at a, .at b,_,r=>oU a b r
 | .agg cs, .agg ds,_,r=>Sx cs ds r
 | .bF fr τ _, .bF Wh Ox x,_,r=>if h:Ox=τ/\Wh=fr then some (h.1▸x,r) else none
 |_,_,_,_=>none
def Tm:(b d:OB)-> {R:Type} ->R->Option (obV b R)
 | .arr fr tr e tid _, .arr Wh tr' e' Vd xs,_,r=>if h:e'=e/\Wh=fr/\tr'=tr/\Vd=tid then some (h.1▸xs,r) else none
 | .He e tid _, .He e' Vd xs,_,r=>if h:e'=e/\Vd=tid then some (h.1▸xs,r) else none
 | .Vy v _, .Vy v' m,_,r=>if h:v'=v then some (h▸m,r) else none
 | .var t vs, .var t' us,_,r=>if t'=t then Sx vs us r else none
 | .Bo e te _ out none, .Bo e' Rv rows ix none,_,r=>if h:e'=e/\Rv=te/\ix=out then some (h.1▸rows,r) else none
 | .Bo e te _ out (some p), .Bo e' Rv rows ix (some p'),_,r=>if h:e'=e/\Rv=te/\ix=out/\p'.1=p.1 then some (h.1▸rows,p'.2,r) else none
 |_,_,_,_=>none
def Ps:(l m:List AV)-> {R:Type} ->R->Option (qT l R)
 | [],[],_,r=>some r
 |c::l,d::m,_,r=>(Ps l m r).bind λr'=>mb c d r'
 |_,_,_,_=>none
def Qv:(l m:List (Nat×OB))-> {R:Type} ->R->Option (xt l R)
 | [],[],_,r=>some r
 |p::l,q::m,_,r=>if q.1=p.1 then (Qv l m r).bind λr'=>Tm p.2 q.2 r' else none
 |_,_,_,_=>none
def jV (s t:St):Option (stV s):=(Qv s.heap t.heap ()).bind λr=>Ps s.tmps t.tmps r
def m6:(c:AC)-> {R:Type} ->acV c R->AC×R
 | .data fr τ _,_,v=>(.data fr τ v.1,v.2)
 | .undef,_,r=>(.undef,r)
 | .skip,_,r=>(.skip,r)
 | .Mp,_,r=>(.Mp,r)
 | .Vx,_,r=>(.Vx,r)
 | .own l off len,_,r=>(.own l off len,r)
 | .Hu l i,_,r=>(.Hu l i,r)
 | .Kw l _,_,v=>(.Kw l v.1,v.2)
 | .clo f c,_,r=>(.clo f c,r)
 | .Lc l,_,r=>(.Lc l,r)
 | .sub l _ c,_,v=>(.sub l v.1 c,v.2)
 | .Kq l _ _,_,v=>(.Kq l v.1 v.2.1,v.2.2)
def aP:(l:List AC)-> {R:Type} ->JF l R->List AC×R
 | [],_,r=>([],r)
 |c::l,_,v=>((m6 c v).1::(aP l (m6 c v).2).1,(aP l (m6 c v).2).2)
def sH:(c:AV)-> {R:Type} ->avV c R->AV×R
 | .at a,_,v=>(.at (m6 a v).1,(m6 a v).2)
 | .agg cs,_,v=>(.agg (aP cs v).1,(aP cs v).2)
 | .bF fr τ _,_,v=>(.bF fr τ v.1,v.2)
 | .Ng l,_,r=>(.Ng l,r)
def u7:(b:OB)-> {R:Type} ->obV b R->OB×R
 | .arr fr tr e tid _,_,v=>(.arr fr tr e tid v.1,v.2)
 | .He e tid _,_,v=>(.He e tid v.1,v.2)
 | .Vy w _,_,v=>(.Vy w v.1,v.2)
 | .var t vs,_,v=>(.var t (aP vs v).1,(aP vs v).2)
 | .Bo e te _ out none,_,v=>(.Bo e te v.1 out none,v.2)
 | .Bo e te _ out (some p),_,v=>(.Bo e te v.1 out (some (p.1,v.2.1)),v.2.2)
def Xd:(l:List AV)-> {R:Type} ->qT l R->List AV×R
 | [],_,r=>([],r)
 |c::l,_,v=>((sH c v).1::(Xd l (sH c v).2).1,(Xd l (sH c v).2).2)
def eA:(l:List (Nat×OB))-> {R:Type} ->xt l R->List (Nat×OB)×R
 | [],_,r=>([],r)
 |p::l,_,v=>((p.1,(u7 p.2 v).1)::(eA l (u7 p.2 v).2).1,(eA l (u7 p.2 v).2).2)
def jU (s:St) (v:stV s):St:= {tmps:=(Xd s.tmps v).1,heap:=(eA s.heap (Xd s.tmps v).2).1}
def lenOf (H:List (Nat×OB)) (l:Nat):Nat:=match Aw H l with|some (.arr _ _ _ _ xs)=>xs.length|some (.He _ _ xs)=>xs.length|some (.Bo _ _ rows _ _)=>rows.length|_=>0
def ar (ps:List Nat):List AV->List (Nat×Nat×Nat)
 | []=> []
 | .at (.own l off len)::r=>if ps.contains l then (l,off,len)::ar ps r else ar ps r
 |_::r=>ar ps r
def Aiz:List (Nat×Nat×Nat)->Nat->Nat
 | [],_=>0
 |(k,o,_)::r,l=>if k=l then o else Aiz r l
def TB:List (Nat×Nat×Nat)->List (Nat×OB)->Nat->Nat
 | [],H,l=>lenOf H l
 |(k,_,n)::r,H,l=>if k=l then n else TB r H l
def gG (B:List (Nat×Nat×Nat)) (H:List (Nat×OB)):AC->AC
 | .own l _ _=> .own l (Aiz B l) (TB B H l)
 |c=>c
def St.whole (B:List (Nat×Nat×Nat)) (s:St):St:=s.Lp (gG B s.heap)
def yC (B:List (Nat×Nat×Nat)) (H:List (Nat×OB)) (c:AC) (K:Prop):Prop:=match c with
 | .own l off len=>off=Aiz B l/\len=TB B H l/\K
 |_=>K
def dY (B:List (Nat×Nat×Nat)) (H:List (Nat×OB)):List AC->Prop->Prop
 | [],K=>K
 |c::r,K=>yC B H c (dY B H r K)
def OW (B:List (Nat×Nat×Nat)) (H:List (Nat×OB)) (c:AV) (K:Prop):Prop:=match c with
 | .at a=>yC B H a K
 | .agg cs=>dY B H cs K
 | .bF _ _ _=>K
 | .Ng _=>False
def bE (B:List (Nat×Nat×Nat)) (H:List (Nat×OB)):List AV->Prop->Prop
 | [],K=>K
 |c::r,K=>OW B H c (bE B H r K)
def ky (B:List (Nat×Nat×Nat)) (H:List (Nat×OB)):List (Nat×OB)->Prop->Prop
 | [],K=>K
 |p::r,K=>match p.2 with
  | .var _ vs=>dY B H vs (ky B H r K)
  |_=>ky B H r K
def AU (B:List (Nat×Nat×Nat)) (s:St) (K:Prop):Prop:=bE B s.heap s.tmps (ky B s.heap s.heap K)
def AV.Ym:AV->Bool
 | .at (.data _ _ _)=>true
 |_=>false
def Lb (p:Nat->Bool):Nat->List AV->List Bool
 |_,[]=> []
 |i,v::r=>(v.Ym&&p i)::Lb p (i+1) r
def stays (live:Nat->List Nat) (c:Code) (t:Nat):Bool:=!(writes c).contains t&&c6 live c t
def Uf:List Bool->List AV->List AV
 |true::f,_::r=> .undef::Uf f r
 |false::f,v::r=>v::Uf f r
 |_,l=>l
def Vn:List Bool->List AV->List AV->List AV
 |true::f,a::s,_::r=>a::Vn f s r
 |false::f,_::s,v::r=>v::Vn f s r
 |_,_,l=>l
def St.mask (fx:List Bool) (s:St):St:= {tmps:=Uf fx s.tmps,heap:=s.heap}
def St.w7 (fx:List Bool) (s0 s:St):St:= {tmps:=Vn fx s0.tmps s.tmps,heap:=s.heap}
def rX (c:AC) (k:AC->Prop):Prop:=match c with
 | .undef=>k .undef
 | .skip=>k .skip
 | .Mp=>k .Mp
 | .Vx=>k .Vx
 | .data fr τ x=>match fr with
  |true=>k (.data true τ x)
  |false=>k (.data false τ x)
 | .own l off len=>k (.own l off len)
 | .Hu l i=>k (.Hu l i)
 | .Kw l i=>k (.Kw l i)
 | .clo f c=>k (.clo f c)
 | .Lc l=>k (.Lc l)
 | .sub l i c=>k (.sub l i c)
 | .Kq l i c=>k (.Kq l i c)
def jb:List AC->(List AC->Prop)->Prop
 | [],k=>k []
 |c::r,k=>rX c λc'=>jb r λr'=>k (c'::r')
def yX (c:AV) (k:AV->Prop):Prop:=match c with
 | .at a=>rX a λa'=>k (.at a')
 | .agg cs=>jb cs λj0=>k (.agg j0)
 | .bF fr τ x=>k (.bF fr τ x)
 | .Ng l=>k (.Ng l)
def jc:List AV->(List AV->Prop)->Prop
 | [],k=>k []
 |c::r,k=>yX c λc'=>jc r λr'=>k (c'::r')
def yY (b:OB) (k:OB->Prop):Prop:=match b with
 | .arr fr tr e tid xs=>match fr,tr with
  |true,true=>k (.arr true true e tid xs)
  |true,false=>k (.arr true false e tid xs)
  |false,true=>k (.arr false true e tid xs)
  |false,false=>k (.arr false false e tid xs)
 | .He e tid xs=>k (.He e tid xs)
 | .var t vs=>jb vs λvs'=>k (.var t vs')
 | .Bo e te rows out kp=>match out,kp with
  |none,none=>k (.Bo e te rows none none)
  |none,some (l,n)=>k (.Bo e te rows none (some (l,n)))
  |some i,none=>k (.Bo e te rows (some i) none)
  |some i,some (l,n)=>k (.Bo e te rows (some i) (some (l,n)))
 | .Vy v m=>k (.Vy v m)
def ta:List (Nat×OB)->(List (Nat×OB)->Prop)->Prop
 | [],k=>k []
 |(l,b)::r,k=>yY b λb'=>ta r λr'=>k ((l,b')::r')
def ay (w:WS) (k:WS->Prop):Prop:=jc w.st.tmps λt=>ta w.st.heap λh=>k {kn:=w.kn,st:= {tmps:=t,heap:=h} }
def pb (s:St) (k:St->Prop):Prop:=jc s.tmps λt=>ta s.heap λh=>k {tmps:=t,heap:=h}
def fJ:List Bool->(List Bool->Prop)->Prop
 | [],k=>k []
 |true::r,k=>fJ r λr'=>k (true::r')
 |false::r,k=>fJ r λr'=>k (false::r')
theorem qg {c:AC} {k:AC->Prop} :rX c k↔k c:=by
 cases c<;>simp only [rX]
 split<;>rfl
theorem fH: ∀ {l:List AC} {k:List AC->Prop},jb l k↔k l
 | [],k=>Iff.rfl
 |c::r,k=>by simp only [jb];rw [qg,fH]
theorem DW {c:AV} {k:AV->Prop} :yX c k↔k c:=by
 cases c<;>simp only [yX]
 ·exact qg
 ·exact fH
theorem fI: ∀ {l:List AV} {k:List AV->Prop},jc l k↔k l
 | [],k=>Iff.rfl
 |c::r,k=>by simp only [jc];rw [DW,fI]
theorem DX {b:OB} {k:OB->Prop} :yY b k↔k b:=by
 cases b<;>simp only [yY]
 ·split<;>rfl
 ·exact fH
 ·split<;>rfl
theorem mn: ∀ {l:List (Nat×OB)} {k:List (Nat×OB)->Prop},ta l k↔k l
 | [],k=>Iff.rfl
 |(l,b)::r,k=>by simp only [ta];rw [DX,mn]
theorem SJ {s:St} {k:St->Prop} :pb s k=k s:=by
 unfold pb
 exact propext (by rw [fI,mn])
theorem fK: ∀ {l:List Bool} {k:List Bool->Prop},fJ l k=k l
 | [],k=>rfl
 |true::r,k=>by simp only [fJ];rw [fK]
 |false::r,k=>by simp only [fJ];rw [fK]
theorem Oo {w:WS} {k:WS->Prop} :ay w k↔k w:=by
 unfold ay
 rw [fI,mn]
def bJ:AC->List (Nat×Nat)
 | .own _ off len=> [(off,len)]
 |_=> []
def bL:AV->List (Nat×Nat)
 | .at a=>bJ a
 | .agg cs=>cs.flatMap bJ
 |_=> []
def mG:OB->List (Nat×Nat)
 | .var _ vs=>vs.flatMap bJ
 |_=> []
def NO (s:St):List (Nat×Nat):=s.tmps.flatMap bL++s.heap.flatMap λp=>mG p.2
def eqW (s0 s:St):Prop:=NO s=NO s0/\Ik (jV s0 s) λv=>v=QY s0
def bU (ops:Array Oper):Nat->Array Bool->WS->(WS->Prop)->Prop
 |0,Ah,w,K=>match Region.ready .any ops Ah with
  | []=>K w
  |_::_=>False
 |f+1,Ah,w,K=>match Region.ready .any ops Ah with
  | []=>False
  |k::_=>Ik ops[k]? λo=>jX ops w o (λkk w'=>opW T Γ w' o kk) λw'=>bU ops f (Ah.setIfInBounds k true) w' K
def CN (P:List (Nat×Nat×AV×OB)) (ops:Array Oper):Nat->Array Bool->WS->(WS->Prop)->Prop
 |0,Ah,w,K=>match Region.ready .any ops Ah with
  | []=>K w
  |_::_=>False
 |f+1,Ah,w,K=>match Region.ready .any ops Ah with
  | []=>False
  |i::r=>XE (i::r) λk=>Ik ops[k]? λo=>match LQ P Γ ops w.st o k with
   |true=>jX ops w o (λkk w'=>opW T Γ w' o kk) λw'=>CN P ops f (Ah.setIfInBounds k true) w' K
   |false=>False
def yo (ops:Array Oper) (E:List Nat) (Ah:Array Bool) (w:WS):List Nat->Prop->Prop
 | [],K=>K
 |r::R,K=>match sn ops E Ah r with
  |true=>yo ops E Ah w R K
  |false=>(lk T Γ ops [r] w λw'=>Ik ((ops[r]?).bind (·.dst)) λd=>match Nat.blt d w.st.tmps.length with
    |true=>eqW ⟨[w.st.get d],[]⟩ ⟨[w'.st.get d],[]⟩
    |false=>False)/\yo ops E Ah w R K
def sy (ops:Array Oper) (E:List Nat):Nat->Array Bool->WS->(WS->Prop)->Prop
 |0,Ah,w,K=>yo T Γ ops E Ah w E (match Region.ready .any ops Ah with
  | []=>K w
  |_::_=>False)
 |f+1,Ah,w,K=>yo T Γ ops E Ah w E (match Region.ready .any ops Ah with
  | []=>False
  |i::r=>XE (i::r) λk=>Ik ops[k]? λo=>jX ops w o (λkk w'=>opW T Γ w' o kk) λw'=>sy ops E f (Ah.setIfInBounds k true) w' K)
def MP (E:List Nat) (n:Nat) (L0:Array Bool) (ops:Array Oper) (w:WS) (K:WS->Prop):Prop:=
 match cW ops E L0&&(Nat.ble E.length n&&Nat.ble (n-E.length) 10) with
 |true=>lk T Γ ops E w λw1=>ay w1 λw1=>bU T Γ ops (n-E.length) (El E L0) w1 λw0=>ay w0 λw0=>K w0/\sy T Γ ops E (n-E.length) (El E L0) w1 λw2=>ay w2 λw2=>eqW w0.st w2.st
 |false=>False
def yJ (P:List (Nat×Nat×AV×OB)) (n:Nat) (L0:Array Bool) (ops:Array Oper) (w:WS) (K:WS->Prop):Prop:=
 match (az (P.map (·.1))&&az (P.map (·.2.1)))&&((P.all λa=>pv a.2.1 w.st)&&(Nat.ble P.length n&&Nat.ble (n-P.length) 10)) with
 |true=>ZC T Γ ops (P.map (·.1)) w λw1=>ay w1 λw1=>bU T Γ ops (n-P.length) (El (P.map (·.1)) L0) w1 λw0=>ay w0 λw0=>K w0/\CN T Γ P ops (n-P.length) (El (P.map (·.1)) L0) w1 λw2=>eqW w0.st w2.st
 |false=>MP T Γ (kH ops (List.range ops.size) L0) n L0 ops w K
def jy:Nat:=800000000
def FZ (ops:Array Oper):Nat->Array Bool->Bool
 |0,Ah=>(Region.ready .any ops Ah).isEmpty
 |f+1,Ah=>match Region.ready .any ops Ah with
  | [i]=>FZ ops f (Ah.setIfInBounds i true)
  |_=>false
def QT (ops:Array Oper) (L0:Array Bool):List Nat:=kH ops (List.range ops.size) L0
def xO (ops:Array Oper):Array Bool:=El (Ld ops) (Array.replicate ops.size false)
def Aa2 (ops:Array Oper):Bool:=Region.noSelect ops&&(cW ops (QT ops (xO ops)) (xO ops)&&(Nat.ble (QT ops (xO ops)).length (ops.size-(Ld ops).length)&&Nat.ble ((ops.size-(Ld ops).length)-(QT ops (xO ops)).length) 10))
def eqM (fx:List Bool) (s0 s:St):Prop:=eqW (s0.mask fx) (s.mask fx)
def Te (ops:Array Oper) (t:Nat):Bool:=!Zg ops t
def vg (ops:Array Oper):List Nat:=(ops.toList.filterMap λo=>match o.op with
 | .alloc _=>none
 | .box _ _=>none
 | .assign _=>none
 |_=>o.dst).filter λd=>ops.toList.any λo=>(o.looksAt ops).contains d
def WS.Rb (dead:List Nat) (w:WS):WS:= {kn:=w.kn.filter λp=>!dead.contains p.1,st:=w.st.Rb dead}
def Aa3 (dead E:List Nat) (n:Nat) (L0:Array Bool) (ops:Array Oper) (w:WS) (K:WS->Prop):Prop:=
 match cW ops E L0&&Nat.ble E.length n with
 |true=>lk T Γ ops E w λw1=>ay w1 λw1=>match FZ ops (n-E.length) (El E L0) with
  |true=>sy T Γ ops E (n-E.length) (El E L0) w1 λw2=>K (w2.Rb dead)
  |false=>fJ (Lb (Te ops) 0 w1.st.tmps) λfx=>bU T Γ ops (n-E.length) (El E L0) w1 λw0=>ay (w0.Rb dead) λw0=>K w0/\sy T Γ ops E (n-E.length) (El E L0) w1 λw2=>ay (w2.Rb dead) λw2=>eqM fx w0.st w2.st
 |false=>False
def sk (ops:Array Oper) (draw:Bool) (w:WS) (K:WS->Prop):Prop:=
 match draw with
 |true=>match cV false Γ ops with
  |true=>lk T Γ ops (kx false Γ ops) w λw'=>ZC T Γ ops (Kb false Γ ops) w' K
  |false=>match cV true Γ ops with
   |true=>lk T Γ ops (kx true Γ ops) w λw'=>ZC T Γ ops (Kb true Γ ops) w' K
   |false=>match Region.noSelect ops&&Nat.ble (ops.size-(Ld ops).length) 8 with
    |true=>lk T Γ ops (Ld ops) w λw'=>match ku false ops&&!T.marks.contains jy with
     |true=>RT T Γ ops (ops.size-(Ld ops).length) (El (Ld ops) (Array.replicate ops.size false)) w' K
     |false=>bU T Γ ops (ops.size-(Ld ops).length) (El (Ld ops) (Array.replicate ops.size false)) w' λw0=>ay w0 λw0=>K w0/\RT T Γ ops (ops.size-(Ld ops).length) (El (Ld ops) (Array.replicate ops.size false)) w' λw1=>eqW w0.st w1.st
    |false=>match Region.noSelect ops with
     |true=>lk T Γ ops (Ld ops) w λw'=>yJ T Γ (Zt T ops (El (Ld ops) (Array.replicate ops.size false))) (ops.size-(Ld ops).length) (El (Ld ops) (Array.replicate ops.size false)) ops w' K
     |false=>False
 |false=>Aj1 T Γ ops ops.toList w K
def zV (ops:Array Oper) (draw:Bool) (w:WS) (K:WS->Prop):Prop:=
 match T.marks.contains jy&&(vg ops).all (Zg ops) with
 |true=>match draw&&(!(cV false Γ ops||cV true Γ ops)&&Aa2 ops) with
  |true=>lk T Γ ops (Ld ops) w λw'=>Aa3 T Γ (vg ops) (QT ops (xO ops)) (ops.size-(Ld ops).length) (xO ops) ops w' K
  |false=>sk T Γ ops draw w λw'=>K (w'.Rb (vg ops))
 |false=>sk T Γ ops draw w K
def ed (live:Nat->List Nat):Code->WS->(Mb->WS->Prop)->Prop
 | .skip,w,Q=>Q .normal w
 | .label _,w,Q=>Q .normal w
 | .region _ ops draw,w,Q=>zV T (zU Γ draw) ops draw {w with st:=w.st.nq ops} λw'=>ay w' (Q .normal)
 | .seq a b,w,Q=>ed live a w λe w'=>match e with
  | .normal=>ed live b w' Q
  | .exit id=>Q (.exit id) w'
  | .ret=>Q .ret w'
 | .cond c a b,w,Q=>brO w c λt w'=>match t with
  |true=>ed live a w' Q
  |false=>ed live b w' Q
 | .block id c,w,Q=>ed live c w λe w'=>match e with
  | .normal=>Q .normal w'
  | .exit SX=>if SX=id then Q .normal w' else Q (.exit SX) w'
  | .ret=>Q .ret w'
 | .loop c,w,Q=>
  pb (w.st.clean (live (Ez c))) λs0=>fJ (Lb (stays live c) 0 s0.tmps) λfx=>pb (s0.mask fx) λm=>
  AU (ar T.parts s0.tmps) s0 (Dn (V:=stV m) (λv k=>pb ((St.w7 fx s0 (jU m v)).whole (ar T.parts s0.tmps)) λsb=>ed live c ⟨[],sb⟩ λe w'=>match e with
   | .normal=>pb (w'.st.clean (live (Ez c))) λs1=>AU (ar T.parts s0.tmps) s1 (Ik (jV m (s1.mask fx)) k)
   | .exit id=>Q (.exit id) w'
   | .ret=>Q .ret w') (QY m))
 | .exit id,w,Q=>Q (.exit id) w
 | .ret,w,Q=>Q .ret w
 |_,_,_=>False
def Ah9 (s:Spec) (fn:Func) (P:s.res.den->Prop) (st:St):Prop:=
 Ik (nE T s fn st) λp=>match p.1||!s.fresh with|true=>P p.2|false=>False
def js (st:St) (K:Prop):List AC->List (Bool×CK)->Prop
 | .own l off len::as,(true,_)::r=>match st.at l with
  |some (.arr _ _ _ _ xs)=>(off=0/\len=xs.length)/\js st K as r
  |some (.He _ _ xs)=>(off=0/\len=xs.length)/\js st K as r
  |_=>False
 |_::as,(false,_)::r=>js st K as r
 |_,_=>K
def px (st:St):(cs:List CK)->List AC->(CKs.den cs->List Nat->Prop)->Prop
 | [],[],K=>K () []
 | .Bo e te _::r, .own l off len::as,K=>match st.at l with
  |some (.Bo e' Rv rows none _)=>if h:e'=e/\Rv=te then (off=0/\len=rows.length)/\px st r as λy t=>K ((h.1▸rows:List (List e.den)),y) (l::t) else False
  |_=>False
 |c::r,a::as,K=>Ik (kV st c a) λp=>px st r as λy t=>K (p.1,y) (p.2++t)
 |_,_,_=>False
def zk (st:St) (n:Nat) (as:List AC):List (Nat×Nat)->Prop->Prop
 | [],K=>K
 |(k,j)::r,K=>match as[j]? with
  |some (.own l _ _)=>match st.at l with
   |some (.Bo _ _ _ _ (some p))=>match Nat.beq p.1 (Dx false k)&&Nat.blt k 1000 with
    |true=>n<=p.2/\zk st n as r K
    |false=>False
   |_=>False
  |_=>False
def uw (s:MSpec) (fn:Func) (x:Ins.den s.ins) (st:St) (cs:List AC) (P:CKs.den s.outs×IOs.den s.ins->Prop):Prop:=
 Ik (dL T st fn.results.toList) λl=>Ik (MT s st l) λp=>px st s.outs (cs++p.1) λr ls=>Ik (Pe st 0 s.ins) λo=>
  match az (p.2++ls++Qk 0 s.ins)&&Nat.blt s.ins.length 1000&&Nat.blt s.outs.length 1000&&s.ZW with
  |true=>zk st (s.Fp x) (cs++p.1) s.keeps (P (r,o))
  |false=>False
def QV (s:MSpec) (fn:Func) (x:Ins.den s.ins) (st:St) (P:CKs.den s.outs×IOs.den s.ins->Prop):Prop:=
 match s.ptr with
 |none=>uw T s fn x st [] P
 |some p=>match st.at Pu with
  |some (.var tid vs)=>match Nat.beq tid p.1&&Nat.beq vs.length p.2 with
   |true=>Ik (Jz 0 s.ins vs) λcs=>js st (uw T s fn x st cs P) vs s.ins
   |false=>False
  |_=>False
@[irreducible] def fnMW (s:MSpec) (fn:Func) (x:Ins.den s.ins) (P:CKs.den s.outs×IOs.den s.ins->Prop):Prop:=
 match Nat.blt s.ins.length 1000&&zP s with
 |false=>False
 |true=>Ik fn.body λc=>ed T Γ (zp T.marks fn c) c {kn:= [],st:= {tmps:=aI s (c5 0 s.ins x)++List.replicate (fn.ntmps-(aI s (c5 0 s.ins x)).length) .undef,heap:=qp s x} } λe w=>match e with
  | .normal=>QV T s fn x w.st P
  | .ret=>QV T s fn x w.st P
  | .exit _=>False
@[irreducible] def fnW (s:Spec) (fn:Func) (x:s.arg.den) (P:s.res.den->Prop):Prop:=
 Ik fn.body λc=>ed T Γ (zp T.marks fn c) c {kn:= [],st:= {tmps:=Ti s.arg x++List.replicate (fn.ntmps-(Ti s.arg x).length) .undef,heap:= []} } λe w=>match e with
  | .normal=>Ah9 T s fn P w.st
  | .ret=>Ah9 T s fn P w.st
  | .exit _=>False
end Go.Proofs.YtkkdpknjohcekaaGreat
