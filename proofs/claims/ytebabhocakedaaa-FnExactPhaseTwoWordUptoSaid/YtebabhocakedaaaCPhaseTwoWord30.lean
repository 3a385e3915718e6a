/-
  Part 31 of the proof that the statement FnExactPhaseTwoWord holds.
-/
import Derived.Test.YtebabhocakedaaaCPhaseTwoWord29
namespace Go.Proofs.Ytebabhocakedaaa
open Go.RowKit
inductive Br (b:Bool) (A B:Prop):Prop
 |mk (t:b=true→A) (f:b=false→B)
inductive Bx {V:Type} (step:V→(V→Prop)→Prop) (v0:V):Prop
 |mk (I:V→Prop) (μ:V→Nat) (h0:I v0) (h: ∀v,I v→step v (fun v'=>I v'∧μ v'<μ v))
structure WS where
 kn:List (Nat×Bool)
 st:St
def Amv:List (Nat×Bool)→Nat→Option Bool
 | [],_=>none
 |(k,b)::r,t=>if k=t then some b else Amv r t
def Aom:List (Nat×Bool)→Nat→List (Nat×Bool)
 | [],_=> []
 |(k,b)::r,t=>if k=t then Aom r t else (k,b)::Aom r t
def WS.put (w:WS) (dst:Option Tmp) (v:AV):WS:=
 match dst with
 |some d=> {kn:=Aom w.kn d,st:=w.st.put (some d) v}
 |none=>w
def Ng (kn:List (Nat×Bool)):Operand→Option Bool
 | .const (.bool b)=>some b
 | .tmp t=>Amv kn t
 |_=>none
def De (kn:List (Nat×Bool)) (o:Oper):Option Bool:=
 match o.op with
 | .assign x=>Ng kn x
 | .move x=>Ng kn x
 | .unOp .not _ x=>(Ng kn x).map (!·)
 | .pick c a b=>match Ng kn c with
  |some true=>Ng kn a
  |some false=>Ng kn b
  |none=>none
 |_=>none
def WS.An9 (w:WS) (o:Oper) (v:AV):WS:=
 match o.dst,De w.kn o with
 |some d,some b=>match (w.st.put (some d) v).get d with
  | .at (.data _ .bool _)=> {kn:=(d,b)::Aom w.kn d,st:=w.st.put (some d) v}
  |_=>w.put (some d) v
 |dst,_=>w.put dst v
def WS.to (w:WS) (st:St):WS:= {kn:=w.kn,st:=st}
def brT (w:WS) (t:Nat) (K:Bool→WS→Prop):Prop:=
 match Amv w.kn t with
 |some b=>K b w
 |none=>match w.st.get t with
  | .at (.data _ .bool b)=>Br b (K true {kn:=(t,true)::w.kn,st:=w.st}) (K false {kn:=(t,false)::w.kn,st:=w.st})
  |_=>False
def brO (w:WS) (c:Operand) (K:Bool→WS→Prop):Prop:=
 match c with
 | .tmp t=>brT w t K
 | .const (.bool b)=>K b w
 |_=>False
def Dm {α:Type} (o:Option α) (K:α→Prop):Prop:=match o with|some x=>K x|none=>False
def Bhl (T:Tab) (st:St) (t:TypeId) (x:AV) (l h:Int):Option AV:=
 match x with
 | .at (.data fr (.slice e) xs)=>if (T.elem t).bind T.ty=some e then some (.at (.data fr (.slice e) ((xs.take h.toNat).drop l.toNat))) else none
 | .at (.own k off _)=>match st.at k with
  |some (.arr _ _ e tid _)=>if T.elem t=some tid∧T.ty tid=some e then some (.at (.own k (off+l.toNat) (h.toNat-l.toNat))) else none
  |_=>none
 | .at (.data _ .str s)=>if T.ty t=some .str then some (.at (.data true .str (s.extract l.toNat h.toNat))) else none
 |_=>none
variable (T:Tab) (Γ:Env)
def Bgy (op:BinOp) (t:TypeId) (x y:AV) (K:AV→Prop):Prop:=
 match op,x,y with
 | .quo, .at (.data _ (.int k) a), .at (.data _ (.int k') b)=>if k=k' then b≠0∧K (.at (.data true (.int k) (k.wrap (a.tdiv b)))) else False
 | .rem, .at (.data _ (.int k) a), .at (.data _ (.int k') b)=>if k=k' then b≠0∧K (.at (.data true (.int k) (a.tmod b))) else False
 | .shl, .at (.data _ (.int k) a), .at (.data _ (.int _) b)=> ¬b<0∧K (.at (.data true (.int k) (k.wrap (a*2^(min b.toNat k.bits)))))
 | .shr, .at (.data _ (.int k) a), .at (.data _ (.int _) b)=> ¬b<0∧K (.at (.data true (.int k) (a.fdiv (2^(min b.toNat k.bits)))))
 | .add, .at (.data _ .str a), .at (.data _ .str b)=>a.size+b.size≤4294967296∧K (.at (.data true .str (a++b)))
 |op,x,y=>Dm (Ll T op t x y) K
def Bdf (st:St) (t:TypeId) (p:AV) (K:AV→Prop):Prop:=
 match p with
 | .at (.eptr l i)=>Dm (T.ty t) fun τ=>match st.at l with
  |some (.arr fr _ e _ xs)=>if e=τ then ∃x,xs[i]?=some x∧K (.at (.data (fr||e.flat) e x)) else False
  |some (.xarr e _ xs)=>if e=τ then ∃x,xs[i]?=some x∧K (if e.Ac then .agg (Yc l i 0 e x) else .at ((Yc l i 0 e x).headD .undef)) else False
  |some (.grid _ _ _ none _)=>if τ.Ac then False else K (.at (.sub l i 0))
  |_=>False
 | .at (.data fr (.optr τ') x)=>Dm (T.ty t) fun τ=>if τ'=τ then ∃y,x=some y∧K (.at (.data (fr||τ'.flat) τ' y)) else False
 |p=>Dm (Jg T st t p) K
def Adq (s:TypeId) (x:AV) (f:Nat) (K:AV→Prop):Prop:=
 match x with
 | .at (.data fr (.optr τ) x)=> ∃y,x=some y∧Dm (Hs T s (.at (.data fr (.ptr τ) y)) f) K
 |x=>Dm (Hs T s x f) K
def Aox (st:St) (x:Operand) (K:AV→Prop) (d:Option AV):Prop:=
 match st.ev x with
 | .at (.data fr (.optr τ) x)=> ∃y,x=some y∧K (.at (.data fr (.ptr τ) y))
 |_=>Dm d K
def Aym (st:St) (t:TypeId) (x:AV) (lo hi:Option AV) (K:AV→Prop):Prop:=
 Dm (Au7 x) fun n=>Dm (bnd lo 0) fun l=>Dm (bnd hi n) fun h=>(0≤l∧l≤h∧h≤n)∧Dm (Bhl T st t x l h) K
def Adw (st:St) (t:TypeId) (x i:AV) (K:AV→Prop):Prop:=
 match x,i with
 | .at (.data fr (.slice e) xs), .at (.data _ (.int _) n)=>if (T.elem t).bind T.ty=some e then ∃x,idx xs n=some x∧K (.at (.data fr (.ptr e) x)) else False
 | .at (.own l off len), .at (.data _ (.int _) n)=>match st.at l with
  |some (.arr _ _ e tid _)=>if T.elem t=some tid∧T.ty tid=some e then (0≤n∧n<len)∧K (.at (.eptr l (off+n.toNat))) else False
  |some (.xarr e tid _)=>if T.elem t=some tid∧T.ty tid=some e then (0≤n∧n<len)∧K (.at (.eptr l (off+n.toNat))) else False
  |some (.grid _ te _ _ _)=>if T.elem t=some te∧(T.ty te).map Ty.size=some 1 then (0≤n∧n<len)∧K (.at (.eptr l (off+n.toNat))) else False
  |_=>False
 | .at (.sub l i _), .at (.data _ (.int _) n)=>match st.at l with
  |some (.grid e _ rows none _)=>if ((T.elem t).bind T.ty).map Ty.size=some e.size then (0≤n∧n<(rows.getD i []).length)∧K (.at (.sptr l i n.toNat)) else False
  |_=>False
 |_,_=>False
def Axb (t:TypeId) (x i:AV) (K:AV→Prop):Prop:=
 match x,i with
 | .at (.data _ .str s), .at (.data _ (.int _) n)=>if T.ty t=some .str then 0≤n∧ ∃b,s[n.toNat]?=some b∧K (.at (.data true (.int .u8) b.toNat)) else False
 |_,_=>False
def Atc (st:St) (f:FuncId) (args:List AV) (K:AV→Prop):Prop:=
 Dm (match Γ f with|some (.q s)=>some s|_=>none) fun s=>match s.fresh||s.res.flat||args.all (·.settled) with
  |true=>Dm (Bt st s.arg args) fun p=> ∃y,s.fn p.2=some y∧K (if s.multi then .tup (s.fresh||s.res.flat) s.res y else .at (.data (s.fresh||s.res.flat) s.res y))
  |false=>False
def Awx (st:St) (v:AV) (args:List AV) (K:AV→Prop):Prop:=
 match v with
 | .at (.data fr (.clo f τ) x)=>match τ.chain with|true=>Atc Γ st f (args++Ws fr τ x) K|false=>False
 | .at (.clo f caps)=>Atc Γ st f (args++caps.map fun p=> .at (.vptr p.1 p.2)) K
 |_=>False
def qW (w:WS) (o:Oper) (K:AV→WS→Prop):Prop:=
 match o.op with
 | .pick c a b=>brO w c fun t w'=>match t with|true=>K (w'.st.ev a) w'|false=>K (w'.st.ev b) w'
 | .load t a=>Bdf T w.st t (w.st.ev a) fun v=>K v w
 | .binOp op t x y _=>Bgy T op t (w.st.ev x) (w.st.ev y) fun v=>K v w
 | .slice t x lo hi mx=>match mx with
  |none=>Aym T w.st t (w.st.ev x) (lo.map w.st.ev) (hi.map w.st.ev) fun v=>K v w
  |some _=>False
 | .indexAddr t x i=>Adw T w.st t (Ah6 (w.st.ev x)) (w.st.ev i) fun v=>K v w
 | .index t x i=>Axb T t (w.st.ev x) (w.st.ev i) fun v=>K v w
 | .call {callee:= .value (.func f),args, .. } =>Atc Γ w.st f (args.toList.map w.st.ev) fun v=>K v w
 | .call {callee:= .value (.tmp t),args, .. } =>Awx Γ w.st (w.st.get t) (args.toList.map w.st.ev) fun v=>K v w
 | .fieldAddr s x f=>Adq T s (w.st.ev x) f fun v=>K v w
 | .nilCheck x=>Aox w.st x (fun v=>K v w) (Ch T Γ w.st o)
 |_=>Dm (Ch T Γ w.st o) fun v=>K v w
def Ayz (st:St) (t:TypeId) (p v:AV) (K:St→Prop):Prop:=
 match p with
 | .at (.eptr l j)=>Dm (T.ty t) fun τ=>Dm (settle st v) fun q=>match q.2.at l with
  |some (.arr fr tr e tid xs)=>Dm (Cs q.2 τ q.1) fun u=>if h:τ=e then j<xs.length∧K (q.2.Ff l (.arr (fr&&u.1) (tr&&(Lh st v&&e.tree)) e tid (xs.set j (h▸u.2)))) else False
  |_=>False
 |p=>Dm (Mk T st t p v) K
def Ba5 (st:St) (t:TypeId) (p v:AV) (K:St→Prop):Prop:=
 match p with
 | .at (.sptr l i j)=>Dm (T.ty t) fun τ=>Dm (settle st v) fun q=>match q.2.at l with
  |some (.grid e te rows none kp)=>Dm (Cs q.2 τ q.1) fun u=>if h:τ=e then K (q.2.Ff l (.grid e te (rows.set i ((rows.getD i []).set j (h▸u.2))) none kp)) else False
  |_=>False
 | .at (.eptr l j)=>Dm (T.ty t) fun τ=>match st.at l,v with
  |some (.grid e te rows out kp), .at (.own m off len)=>match st.at m with
   |some (.arr _ _ e' _ xs)=>if h:e'=e∧(Nat.blt l Aj&&(!Nat.beq m l&&!τ.Ac))=true then
     off=0∧len=xs.length∧(match out with|none=>True|some i=>i=j)∧K (Lk st l j m e te rows (h.1▸xs) (Sp j kp))
    else False
   |_=>False
  |_,_=>False
 |_=>False
def As3 (st:St) (t:TypeId) (p v:AV) (K:St→Prop):Prop:=match Azs st p with
 |true=>Ba5 T st t p v K
 |false=>Ayz T st t p v K
def Aei (st:St) (dst:Nat) (t:TypeId) (x y:Operand) (K:AV→St→Prop):Prop:=
 Dm (T.elem t) fun te=>Dm (T.ty te) fun e=>Dm (settle st (st.ev y)) fun q=>Dm (Cs q.2 (.slice e) q.1) fun u=>match q.2.ev x with
  | .at .nilv=>match Nat.blt dst Aj with
   |true=>List.length u.2≤Ap∧K (.at (.own dst 0 (List.length u.2))) ((q.2.new dst (.arr (T.fr0||e.flat) T.tr0 e te [])).new dst (.arr ((T.fr0||e.flat)&&(u.1||e.flat)) (T.tr0&&(e.flat||(Lh st (st.ev y)&&e.tree))) e te u.2))
   |false=>False
  | .at (.own l off len)=>match q.2.at l with
   |some (.arr fr tr e' tid xs)=>if h:e'=e∧tid=te∧Nat.blt l Aj=true then
     off=0∧len=xs.length∧len+List.length u.2≤Ap∧K (.at (.own l 0 (List.length ((h.1▸xs:List e.den)++u.2)))) (q.2.new l (.arr (fr&&(u.1||e.flat)) (tr&&(e.flat||(Lh st (st.ev y)&&e.tree))) e te ((h.1▸xs:List e.den)++u.2)))
    else False
   |_=>False
  |_=>False
def Ak0 (st:St) (dst:Nat) (t:TypeId) (x y:Operand) (K:AV→St→Prop):Prop:=
 match x with
 | .tmp tx=>match st.get tx with
  | .at (.sub l i _)=>Dm (T.elem t) fun tid=>match st.at l with
   |some (.grid e te rows none kp)=>match Nat.blt l Aj&&(Nat.blt dst Aj&&!Nat.beq dst l) with
    |true=>Aei T ((Je st l i dst e te tid rows kp).put (some tx) (.at (.own dst 0 (rows.getD i []).length))) dst t x y K
    |false=>False
   |_=>False
  |_=>Aei T st dst t x y K
 |_=>Aei T st dst t x y K
def Bdl (st:St) (dst:Nat) (t:TypeId) (l c:AV) (K:AV→St→Prop):Prop:=
 match l,c with
 | .at (.data _ (.int _) n), .at (.data _ (.int _) m)=>Dm (T.elem t) fun te=>Dm (T.ty te) fun e=>match Yi e&&Nat.blt dst Aj with
  |true=>(0≤n∧n<Ap+1)∧n=m∧K (.at (.own dst 0 (List.replicate n.toNat e.zero).length)) (st.new dst (.arr (T.fr0||e.flat) (T.tr0&&e.tree) e te (List.replicate n.toNat e.zero)))
  |false=>False
 |_,_=>False
def Axn (st:St) (dst:Nat) (t:TypeId) (l c:AV) (K:AV→St→Prop):Prop:=
 match Vl T t with
 |none=>Bdl T st dst t l c K
 |some p=>match l,c with
  | .at (.data _ (.int _) n), .at (.data _ (.int _) m)=>match Nat.blt dst Aj with
   |true=>(0≤n∧n<Ap+1)∧n=m∧K (.at (.own dst 0 (List.replicate n.toNat ([]:List p.2.den)).length)) (Jw st dst dst (.grid p.2 p.1 (List.replicate n.toNat []) none none))
   |false=>False
  |_,_=>False
def Wr (st:St) (dst:Nat) (t:TypeId) (len:Nat) (parts:Array (Nat×Operand)) (K:AV→St→Prop):Prop:=
 match Vl T t with
 |none=>Dm (Gp T st dst t len parts) fun r=>K r.1 r.2
 |some p=>match parts.toList with
  | [(0,x)]=>match st.ev x with
   | .at (.own m off ln)=>match st.at m with
    |some (.arr _ _ e' _ xs)=>if h:e'=p.2∧(Nat.beq len 1&&(Nat.blt dst Aj&&Nat.blt m Aj))=true then off=0∧ln=xs.length∧K (.at (.own dst 0 1)) (Jw st dst m (.grid p.2 p.1 [h.1▸xs] none none)) else False
    |_=>False
   |_=>False
  |_=>False
def Ak2 (st:St) (dst:Nat) (t:TypeId) (x y:Operand) (K:AV→St→Prop):Prop:=
 match Vl T t with
 |none=>Ak0 T st dst t x y K
 |some p=>match st.ev x,st.ev y with
  | .at (.own l off len), .at (.own m off2 Akz)=>match st.at l,st.at m with
   |some (.grid e1 te1 A none _),some (.grid e2 te2 B none _)=>
    if h:(e1=p.2∧e2=p.2)∧(decide (te1=p.1)&&decide (te2=p.1)&&(Nat.blt l Aj&&(Nat.blt m Aj&&!Nat.beq m l)))=true then
     (off=0∧len=A.length)∧(off2=0∧Akz=B.length)∧0<B.length∧A.length+B.length≤Ap∧
      K (.at (.own l 0 (List.length ((h.1.1▸A:List (List p.2.den))++(h.1.2▸B:List (List p.2.den)))))) (Jw st l m (.grid p.2 p.1 ((h.1.1▸A:List (List p.2.den))++(h.1.2▸B:List (List p.2.den))) none none))
    else False
   |_,_=>False
  |_,_=>False
def Ye (st:St) (io:Bool) (k:Nat):(c:CK)→AC→(c.den→List (Nat×Loc)→Prop)→Prop
 | .dat τ, .own l off len,K=>Dm (Bo st τ (.own l off len)) fun p=>K p.2 [(Bu false k, .view l)]
 | .dat τ, .clo g caps,K=>match Tc st (caps.map (·.1))&&!τ.Ac with
  |true=>Dm (Et st τ (.clo g caps)) fun p=>K p.2 (views k (caps.map (·.1)))
  |false=>False
 | .dat τ, .vptr l i,K=>match Tc st [l]&&!τ.Ac with
  |true=>Dm (Et st τ (.vptr l i)) fun p=>K p.2 (views k [l])
  |false=>False
 | .dat τ, .sub l i c,K=>Dm (Bo st τ (.sub l i c)) fun p=>K p.2 [(Bu false k, .view l)]
 | .dat τ,a,K=>match τ.flat||a.settled with
  |true=>Dm (Bo st τ a) fun p=>K p.2 []
  |false=>False
 | .row e te, .own l off len,K=>match st.at l with
  |some (.arr _ _ e' te' xs)=>if h:e'=e∧te'=te then off=0∧len=xs.length∧K (h.1▸xs:List e.den) [(Bu io k, .row l)] else False
  |_=>False
 | .row e _, .sub l i c,K=>match st.at l with
  |some (.xarr e' _ xs)=>if h:e'= .slice e∧e.flat=true∧io=true∧c=0 then ∃y,xs[i]?=some y∧K (h.1▸y:(Ty.slice e).den) [(Bu io k, .sub l i c)] else False
  |_=>False
 | .row _ _, .nilv,K=>K [] []
 | .xrow e te, .own l off len,K=>match st.at l with
  |some (.xarr e' te' xs)=>if h:e'=e∧te'=te then off=0∧len=xs.length∧K (h.1▸xs:List e.den) [(Bu io k, .row l)] else False
  |_=>False
 | .xrow e _, .sub l i c,K=>match st.at l with
  |some (.xarr e' _ xs)=>if h:e'= .slice e∧io=true∧c=0 then ∃y,xs[i]?=some y∧K (h.1▸y:(Ty.slice e).den) [(Bu io k, .sub l i c)] else False
  |_=>False
 | .xrow _ _, .nilv,K=>K [] []
 | .part e te, .own l off len,K=>match st.at l with
  |some (.arr _ _ e' te' xs)=>if h:e'=e∧te'=te∧e.flat=true∧io=true then K ((h.1▸xs:List e.den),off,len) [(Bu io k, .row l)] else False
  |_=>False
 | .grid e te _, .own l off len,K=>match st.at l with
  |some (.grid e' te' rows none _)=>if h:e'=e∧te'=te∧io=false then off=0∧len=rows.length∧K (h.1▸rows:List (List e.den)) [(Bu io k, .row l)] else False
  |_=>False
 |_,_,_=>False
def Asc (st:St):(k:Nat)→(cs:List (Bool×CK))→List AC→(Ins.den cs→List (Nat×Loc)→Prop)→Prop
 |_,[],[],K=>K () []
 |k,p::r,a::as,K=>Ye st p.1 k p.2 a fun x t1=>Asc st (k+1) r as fun y t2=>K (x,y) (t1++t2)
 |_,_,_,_=>False
def Aig (st:St):(c:CK)→c.den→AC→(St→Prop)→Prop
 | .row e _,ys, .own l _ len,K=>match st.at l with
  |some (.arr fr tr e' te xs)=>if h:e=e' then (List.length ys=len∧xs.length=len)∧K (st.Ff l (.arr (fr&&e'.flat) (tr&&e'.flat) e' te (h▸ys))) else False
  |_=>False
 | .xrow e _,ys, .own l _ len,K=>match st.at l with
  |some (.xarr e' te xs)=>if h:e=e' then (List.length ys=len∧xs.length=len)∧K (st.Ff l (.xarr e' te (h▸ys))) else False
  |_=>False
 | .row e _,ys, .sub l i _,K=>match st.at l with
  |some (.xarr e' te xs)=>if h: .slice e=e' then ∃y,xs[i]?=some y∧List.length ys=List.length (h▸y:(Ty.slice e).den)∧K (st.Ff l (.xarr e' te (xs.set i (h▸(ys:(Ty.slice e).den))))) else False
  |_=>False
 | .xrow e _,ys, .sub l i _,K=>match st.at l with
  |some (.xarr e' te xs)=>if h: .slice e=e' then ∃y,xs[i]?=some y∧List.length ys=List.length (h▸y:(Ty.slice e).den)∧K (st.Ff l (.xarr e' te (xs.set i (h▸(ys:(Ty.slice e).den))))) else False
  |_=>False
 |_,_, .nilv,K=>K st
 |_,_,_,_=>False
def Be8 (st:St) (e:Ty) (ys:List e.den):AC→(St→Prop)→Prop
 | .own l _ _,K=>match st.at l with
  |some (.arr fr tr e' te xs)=>if h:e=e' then List.length ys=xs.length∧K (st.Ff l (.arr fr tr e' te (h▸ys))) else False
  |_=>False
 |_,_=>False
def Aan:(cs:List (Bool×CK))→IOs.den cs→List AC→St→(St→Prop)→Prop
 | [],_,_,st,K=>K st
 |(true, .dat _)::r,x,_::as,st,K=>Aan r x as st K
 |(true, .row e te)::r,x,a::as,st,K=>Aig st (.row e te) x.1 a fun st'=>Aan r x.2 as st' K
 |(true, .xrow e te)::r,x,a::as,st,K=>Aig st (.xrow e te) x.1 a fun st'=>Aan r x.2 as st' K
 |(true, .part e _)::r,x,a::as,st,K=>Be8 st e x.1 a fun st'=>Aan r x.2 as st' K
 |(true, .grid _ _ _)::r,x,_::as,st,K=>Aan r x as st K
 |(false,_)::r,x,_::as,st,K=>Aan r x as st K
 |_,_,_,_,_=>False
def Amd (H:List (Nat×OB)) (ls:List Nat) (n:Nat):List AV→Prop→Prop
 | [],K=>K
 | .at (.sub l i _)::r,K=>match ls.contains l with
  |true=>(i<n∧i<Aji H l)∧Amd H ls n r K
  |false=>Amd H ls n r K
 |_::r,K=>Amd H ls n r K
def Aww (st:St) (dst:Option Nat) (s:Bl) (args:List AV) (K:AV→St→Prop):Prop:=
 Dm (Azy st s args) fun q=>Dm (ungroup s.shapes q.2.2) fun as0=>Asc st 0 s.ins (q.2.1++as0) fun x tks=>
  match Qi (tks.map fun t=>t.2.lab)&&Aqq (Km s tks (dst.getD 0)) (s.outs.length+(Ae7 s (dst.getD 0)).length)&&Nat.blt s.outs.length 1000&&Nat.blt s.ins.length 1000&&(Mz s.ins q.2.1&&q.1.all fun l=>!((tks.map fun t=>t.2.lab)++Km s tks (dst.getD 0)).contains l) with
  |true=> ∃p,s.fn x=some p∧Aan s.ins p.2 (q.2.1++as0) st fun st1=>Dm (Bfz s (dst.getD 0) ((Sv (Bw (Km s tks (dst.getD 0))) 0 s.outs p.1).drop s.Qp)) fun v=>
    Amd (Adg st st1 (dst.getD 0) s q.1 tks p.1).heap (So st.heap (Km s tks (dst.getD 0)) tks s.keeps) (s.Cr x) st.tmps
     (K v (Adx st (Adg st st1 (dst.getD 0) s q.1 tks p.1) (So st.heap (Km s tks (dst.getD 0)) tks s.keeps) (s.Cr x)))
  |false=>False
def opW (w:WS) (o:Oper) (K:AV→WS→Prop):Prop:=
 match o.op with
 | .store t p x=>As3 T w.st t (w.st.ev p) (w.st.ev x) fun s=>K .undef (w.to s)
 | .makeSlice t l c=>Dm o.dst fun d=>Axn T w.st d t (w.st.ev l) (w.st.ev c) fun v s=>K v (w.to s)
 | .call {callee:= .builtin .append,args,argTypes} =>match o.dst,args.toList,argTypes.toList with
  |some d,[x,y],[t,t']=>if t=t' then Ak2 T w.st d t x y fun v s=>K v (w.to s) else False
  |_,_,_=>False
 | .assign _=>Dm (evalOp T Γ w.st o) fun r=>K r.1 (w.to r.2)
 | .alloc _=>Dm (evalOp T Γ w.st o) fun r=>K r.1 (w.to r.2)
 | .box _ _=>Dm (evalOp T Γ w.st o) fun r=>K r.1 (w.to r.2)
 | .buildSlice t len parts=>Dm o.dst fun d=>Wr T w.st d t len parts fun v s=>K v (w.to s)
 | .build _ _=>Dm (evalOp T Γ w.st o) fun r=>K r.1 (w.to r.2)
 | .makeMap _ _=>Dm (evalOp T Γ w.st o) fun r=>K r.1 (w.to r.2)
 | .mapUpdate _ _ _ _=>Dm (evalOp T Γ w.st o) fun r=>K r.1 (w.to r.2)
 | .insert _ _ _ _=>Dm (evalOp T Γ w.st o) fun r=>K r.1 (w.to r.2)
 | .call {callee:= .builtin .copy, .. } =>Dm (evalOp T Γ w.st o) fun r=>K r.1 (w.to r.2)
 | .call {callee:= .builtin .clear, .. } =>Dm (evalOp T Γ w.st o) fun r=>K r.1 (w.to r.2)
 | .call {callee:= .value (.func f),args, .. } =>match Γ f with
  |some (.m s)=>Aww w.st o.dst s (args.toList.map w.st.ev) fun v s'=>K v (w.to s')
  |some (.q s)=>match Xh s (args.toList.map w.st.ev) with
   |true=>Dm (Ik args.toList w.st) fun st1=>qW T Γ (w.to st1) o K
   |false=>qW T Γ w o K
  |_=>qW T Γ w o K
 |_=>qW T Γ w o K
def AV.Bdd:AV→Bool
 | .at .skip=>true
 |_=>false
def bW (w:WS) (o:Oper) (K:AV→WS→Prop):Prop:=
 match o.op with
 | .buildSlice t len parts=>Dm (Sd T w.st t len parts) fun v=>K v w
 | .build t parts=>Dm (Ob T w.st t parts) fun v=>K v w
 |_=>qW T Γ w o K
def Acy (ops:Array Oper) (w:WS) (o:Oper) (run:(AV→WS→Prop)→WS→Prop) (K:WS→Prop):Prop:=
 match o.guard with
 |none=>run (fun v w'=>K (w'.An9 o v)) w
 |some (j,want)=>Dm ((ops[j]?).bind (·.dst)) fun t=>match (w.st.get t).Bdd with
  |true=>K (w.put o.dst (.at .skip))
  |false=>brT w t fun b w'=>match b,want with
   |true,true=>run (fun v w''=>K (w''.An9 o v)) w'
   |false,false=>run (fun v w''=>K (w''.An9 o v)) w'
   |_,_=>K (w'.put o.dst (.at .skip))
def Bh8 (ops:Array Oper):List Oper→WS→(WS→Prop)→Prop
 | [],w,K=>K w
 |o::r,w,K=>Acy ops w o (fun k w'=>opW T Γ w' o k) fun w'=>Bh8 ops r w' K
def Bd5 (ops:Array Oper):List Nat→WS→(WS→Prop)→Prop
 | [],w,K=>K w
 |i::r,w,K=>Dm ops[i]? fun o=>Acy ops w o (fun k w'=>opW T Γ w' o k) fun w'=>Bd5 ops r w' K
def Aof (ops:Array Oper):List Nat→WS→(WS→Prop)→Prop
 | [],w,K=>K w
 |i::r,w,K=>Dm ops[i]? fun o=>Acy ops w o (fun k w'=>bW T Γ w' o k) fun w'=>Aof ops r w' K
def Bf8:List Nat→(Nat→Prop)→Prop
 | [],_=>True
 | [i],P=>P i
 |i::j::r,P=>P i∧Bf8 (j::r) P
def Bab (ops:Array Oper):Nat→Array Bool→WS→(WS→Prop)→Prop
 |0,listed,w,K=>match Region.ready .any ops listed with
  | []=>K w
  |_::_=>False
 |f+1,listed,w,K=>match Region.ready .any ops listed with
  | []=>False
  |i::r=>Bf8 (i::r) fun k=>Dm ops[k]? fun o=>Acy ops w o (fun kk w'=>opW T Γ w' o kk) fun w'=>Bab ops f (listed.setIfInBounds k true) w' K
def acV:AC→Type→Type
 | .data _ τ _,R=>τ.den×R
 | .sub _ _ _,R=>Nat×R
 | .eptr _ _,R=>Nat×R
 | .sptr _ _ _,R=>Nat×Nat×R
 |_,R=>R
def Awn:List AC→Type→Type
 | [],R=>R
 |c::r,R=>acV c (Awn r R)
def avV:AV→Type→Type
 | .at a,R=>acV a R
 | .agg cs,R=>Awn cs R
 | .tup _ τ _,R=>τ.den×R
 | .tupc _,R=>R
def obV:OB→Type→Type
 | .arr _ _ e _ _,R=>List e.den×R
 | .xarr e _ _,R=>List e.den×R
 | .var _ vs,R=>Awn vs R
 | .grid e _ _ _ none,R=>List (List e.den)×R
 | .grid e _ _ _ (some _),R=>List (List e.den)×(Nat×R)
 | .smp v _,R=>(ByteArray→Option v.den)×R
def Air:List AV→Type→Type
 | [],R=>R
 |v::r,R=>avV v (Air r R)
def Aog:List (Nat×OB)→Type→Type
 | [],R=>R
 |p::r,R=>obV p.2 (Aog r R)
def stV (s:St):Type:=Air s.tmps (Aog s.heap Unit)
def Aze:(c:AC)→ {R:Type} →R→acV c R
 | .data _ _ x,_,r=>(x,r)
 | .undef,_,r=>r
 | .skip,_,r=>r
 | .nilv,_,r=>r
 | .nilp,_,r=>r
 | .own _ _ _,_,r=>r
 | .vptr _ _,_,r=>r
 | .eptr _ i,_,r=>(i,r)
 | .clo _ _,_,r=>r
 | .mapr _,_,r=>r
 | .sub _ i _,_,r=>(i,r)
 | .sptr _ i j,_,r=>(i,j,r)
def Ajx:(l:List AC)→ {R:Type} →R→Awn l R
 | [],_,r=>r
 |c::l,_,r=>Aze c (Ajx l r)
def Bgm:(c:AV)→ {R:Type} →R→avV c R
 | .at a,_,r=>Aze a r
 | .agg cs,_,r=>Ajx cs r
 | .tup _ _ x,_,r=>(x,r)
 | .tupc _,_,r=>r
def Bgr:(b:OB)→ {R:Type} →R→obV b R
 | .arr _ _ _ _ xs,_,r=>(xs,r)
 | .xarr _ _ xs,_,r=>(xs,r)
 | .var _ vs,_,r=>Ajx vs r
 | .grid _ _ rows _ none,_,r=>(rows,r)
 | .grid _ _ rows _ (some p),_,r=>(rows,p.2,r)
 | .smp _ m,_,r=>(m,r)
def Ajo:(l:List AV)→ {R:Type} →R→Air l R
 | [],_,r=>r
 |c::l,_,r=>Bgm c (Ajo l r)
def Ajj:(l:List (Nat×OB))→ {R:Type} →R→Aog l R
 | [],_,r=>r
 |p::l,_,r=>Bgr p.2 (Ajj l r)
def Ba2 (s:St):stV s:=Ajo s.tmps (Ajj s.heap ())
def Ag8:(c d:AC)→ {R:Type} →R→Option (acV c R)
 | .data fr τ _, .data fr' τ' x,_,r=>if h:τ'=τ∧fr'=fr then some (h.1▸x,r) else none
 | .undef, .undef,_,r=>some r
 | .skip, .skip,_,r=>some r
 | .nilv, .nilv,_,r=>some r
 | .nilp, .nilp,_,r=>some r
 | .own l _ _, .own l' _ _,_,r=>if l=l' then some r else none
 | .vptr l i, .vptr l' i',_,r=>if l=l'∧i=i' then some r else none
 | .eptr l _, .eptr l' i',_,r=>if l=l' then some (i',r) else none
 | .clo f c, .clo f' c',_,r=>if f=f'∧c=c' then some r else none
 | .mapr l, .mapr l',_,r=>if l=l' then some r else none
 | .sub l _ c, .sub l' i' c',_,r=>if l=l'∧c=c' then some (i',r) else none
 | .sptr l _ _, .sptr l' i' j',_,r=>if l=l' then some (i',j',r) else none
 |_,_,_,_=>none
def Kl:(l m:List AC)→ {R:Type} →R→Option (Awn l R)
 | [],[],_,r=>some r
 |c::l,d::m,_,r=>(Kl l m r).bind fun r'=>Ag8 c d r'
 |_,_,_,_=>none
def Adj:(c d:AV)→ {R:Type} →R→Option (avV c R)
 | .at a, .at b,_,r=>Ag8 a b r
 | .agg cs, .agg ds,_,r=>Kl cs ds r
 | .tup fr τ _, .tup fr' τ' x,_,r=>if h:τ'=τ∧fr'=fr then some (h.1▸x,r) else none
 |_,_,_,_=>none
def Lb:(b d:OB)→ {R:Type} →R→Option (obV b R)
 | .arr fr tr e tid _, .arr fr' tr' e' tid' xs,_,r=>if h:e'=e∧fr'=fr∧tr'=tr∧tid'=tid then some (h.1▸xs,r) else none
 | .xarr e tid _, .xarr e' tid' xs,_,r=>if h:e'=e∧tid'=tid then some (h.1▸xs,r) else none
 | .smp v _, .smp v' m,_,r=>if h:v'=v then some (h▸m,r) else none
 | .var t vs, .var t' us,_,r=>if t'=t then Kl vs us r else none
 | .grid e te _ out none, .grid e' te' rows out' none,_,r=>if h:e'=e∧te'=te∧out'=out then some (h.1▸rows,r) else none
 | .grid e te _ out (some p), .grid e' te' rows out' (some p'),_,r=>if h:e'=e∧te'=te∧out'=out∧p'.1=p.1 then some (h.1▸rows,p'.2,r) else none
 |_,_,_,_=>none
def Il:(l m:List AV)→ {R:Type} →R→Option (Air l R)
 | [],[],_,r=>some r
 |c::l,d::m,_,r=>(Il l m r).bind fun r'=>Adj c d r'
 |_,_,_,_=>none
def Jh:(l m:List (Nat×OB))→ {R:Type} →R→Option (Aog l R)
 | [],[],_,r=>some r
 |p::l,q::m,_,r=>if q.1=p.1 then (Jh l m r).bind fun r'=>Lb p.2 q.2 r' else none
 |_,_,_,_=>none
def Ab7 (s t:St):Option (stV s):=(Jh s.heap t.heap ()).bind fun r=>Il s.tmps t.tmps r
def Adf:(c:AC)→ {R:Type} →acV c R→AC×R
 | .data fr τ _,_,v=>(.data fr τ v.1,v.2)
 | .undef,_,r=>(.undef,r)
 | .skip,_,r=>(.skip,r)
 | .nilv,_,r=>(.nilv,r)
 | .nilp,_,r=>(.nilp,r)
 | .own l off len,_,r=>(.own l off len,r)
 | .vptr l i,_,r=>(.vptr l i,r)
 | .eptr l _,_,v=>(.eptr l v.1,v.2)
 | .clo f c,_,r=>(.clo f c,r)
 | .mapr l,_,r=>(.mapr l,r)
 | .sub l _ c,_,v=>(.sub l v.1 c,v.2)
 | .sptr l _ _,_,v=>(.sptr l v.1 v.2.1,v.2.2)
def Qs:(l:List AC)→ {R:Type} →Awn l R→List AC×R
 | [],_,r=>([],r)
 |c::l,_,v=>((Adf c v).1::(Qs l (Adf c v).2).1,(Qs l (Adf c v).2).2)
def Ak5:(c:AV)→ {R:Type} →avV c R→AV×R
 | .at a,_,v=>(.at (Adf a v).1,(Adf a v).2)
 | .agg cs,_,v=>(.agg (Qs cs v).1,(Qs cs v).2)
 | .tup fr τ _,_,v=>(.tup fr τ v.1,v.2)
 | .tupc l,_,r=>(.tupc l,r)
def Al9:(b:OB)→ {R:Type} →obV b R→OB×R
 | .arr fr tr e tid _,_,v=>(.arr fr tr e tid v.1,v.2)
 | .xarr e tid _,_,v=>(.xarr e tid v.1,v.2)
 | .smp w _,_,v=>(.smp w v.1,v.2)
 | .var t vs,_,v=>(.var t (Qs vs v).1,(Qs vs v).2)
 | .grid e te _ out none,_,v=>(.grid e te v.1 out none,v.2)
 | .grid e te _ out (some p),_,v=>(.grid e te v.1 out (some (p.1,v.2.1)),v.2.2)
def Nq:(l:List AV)→ {R:Type} →Air l R→List AV×R
 | [],_,r=>([],r)
 |c::l,_,v=>((Ak5 c v).1::(Nq l (Ak5 c v).2).1,(Nq l (Ak5 c v).2).2)
def Vn:(l:List (Nat×OB))→ {R:Type} →Aog l R→List (Nat×OB)×R
 | [],_,r=>([],r)
 |p::l,_,v=>((p.1,(Al9 p.2 v).1)::(Vn l (Al9 p.2 v).2).1,(Vn l (Al9 p.2 v).2).2)
def Ab6 (s:St) (v:stV s):St:= {tmps:=(Nq s.tmps v).1,heap:=(Vn s.heap (Nq s.tmps v).2).1}
def lenOf (H:List (Nat×OB)) (l:Nat):Nat:=match Ad H l with|some (.arr _ _ _ _ xs)=>xs.length|some (.xarr _ _ xs)=>xs.length|some (.grid _ _ rows _ _)=>rows.length|_=>0
def Qe (ps:List Nat):List AV→List (Nat×Nat×Nat)
 | []=> []
 | .at (.own l off len)::r=>if ps.contains l then (l,off,len)::Qe ps r else Qe ps r
 |_::r=>Qe ps r
def Bh6:List (Nat×Nat×Nat)→Nat→Nat
 | [],_=>0
 |(k,o,_)::r,l=>if k=l then o else Bh6 r l
def Bap:List (Nat×Nat×Nat)→List (Nat×OB)→Nat→Nat
 | [],H,l=>lenOf H l
 |(k,_,n)::r,H,l=>if k=l then n else Bap r H l
def Yh (B:List (Nat×Nat×Nat)) (H:List (Nat×OB)):AC→AC
 | .own l _ _=> .own l (Bh6 B l) (Bap B H l)
 |c=>c
def St.whole (B:List (Nat×Nat×Nat)) (s:St):St:=s.Fo (Yh B s.heap)
def Apx (B:List (Nat×Nat×Nat)) (H:List (Nat×OB)) (c:AC) (K:Prop):Prop:=match c with
 | .own l off len=>off=Bh6 B l∧len=Bap B H l∧K
 |_=>K
def Uy (B:List (Nat×Nat×Nat)) (H:List (Nat×OB)):List AC→Prop→Prop
 | [],K=>K
 |c::r,K=>Apx B H c (Uy B H r K)
def Azg (B:List (Nat×Nat×Nat)) (H:List (Nat×OB)) (c:AV) (K:Prop):Prop:=match c with
 | .at a=>Apx B H a K
 | .agg cs=>Uy B H cs K
 | .tup _ _ _=>K
 | .tupc _=>False
def Rv (B:List (Nat×Nat×Nat)) (H:List (Nat×OB)):List AV→Prop→Prop
 | [],K=>K
 |c::r,K=>Azg B H c (Rv B H r K)
def Abr (B:List (Nat×Nat×Nat)) (H:List (Nat×OB)):List (Nat×OB)→Prop→Prop
 | [],K=>K
 |p::r,K=>match p.2 with
  | .var _ vs=>Uy B H vs (Abr B H r K)
  |_=>Abr B H r K
def As2 (B:List (Nat×Nat×Nat)) (s:St) (K:Prop):Prop:=Rv B s.heap s.tmps (Abr B s.heap s.heap K)
def AV.Og:AV→Bool
 | .at (.data _ _ _)=>true
 |_=>false
def Gq (p:Nat→Bool):Nat→List AV→List Bool
 |_,[]=> []
 |i,v::r=>(v.Og&&p i)::Gq p (i+1) r
def stays (live:Nat→List Nat) (c:Code) (t:Nat):Bool:=!(writes c).contains t&&Sn live c t
def Mn:List Bool→List AV→List AV
 |true::f,_::r=> .undef::Mn f r
 |false::f,v::r=>v::Mn f r
 |_,l=>l
def Nh:List Bool→List AV→List AV→List AV
 |true::f,a::s,_::r=>a::Nh f s r
 |false::f,_::s,v::r=>v::Nh f s r
 |_,_,l=>l
def St.mask (fx:List Bool) (s:St):St:= {tmps:=Mn fx s.tmps,heap:=s.heap}
def St.An2 (fx:List Bool) (s0 s:St):St:= {tmps:=Nh fx s0.tmps s.tmps,heap:=s.heap}
def Ajg (c:AC) (k:AC→Prop):Prop:=match c with
 | .undef=>k .undef
 | .skip=>k .skip
 | .nilv=>k .nilv
 | .nilp=>k .nilp
 | .data fr τ x=>match fr with
  |true=>k (.data true τ x)
  |false=>k (.data false τ x)
 | .own l off len=>k (.own l off len)
 | .vptr l i=>k (.vptr l i)
 | .eptr l i=>k (.eptr l i)
 | .clo f c=>k (.clo f c)
 | .mapr l=>k (.mapr l)
 | .sub l i c=>k (.sub l i c)
 | .sptr l i c=>k (.sptr l i c)
def Aa5:List AC→(List AC→Prop)→Prop
 | [],k=>k []
 |c::r,k=>Ajg c fun c'=>Aa5 r fun r'=>k (c'::r')
def Aqe (c:AV) (k:AV→Prop):Prop:=match c with
 | .at a=>Ajg a fun a'=>k (.at a')
 | .agg cs=>Aa5 cs fun cs'=>k (.agg cs')
 | .tup fr τ x=>k (.tup fr τ x)
 | .tupc l=>k (.tupc l)
def Aa6:List AV→(List AV→Prop)→Prop
 | [],k=>k []
 |c::r,k=>Aqe c fun c'=>Aa6 r fun r'=>k (c'::r')
def Aqf (b:OB) (k:OB→Prop):Prop:=match b with
 | .arr fr tr e tid xs=>match fr,tr with
  |true,true=>k (.arr true true e tid xs)
  |true,false=>k (.arr true false e tid xs)
  |false,true=>k (.arr false true e tid xs)
  |false,false=>k (.arr false false e tid xs)
 | .xarr e tid xs=>k (.xarr e tid xs)
 | .var t vs=>Aa5 vs fun vs'=>k (.var t vs')
 | .grid e te rows out kp=>match out,kp with
  |none,none=>k (.grid e te rows none none)
  |none,some (l,n)=>k (.grid e te rows none (some (l,n)))
  |some i,none=>k (.grid e te rows (some i) none)
  |some i,some (l,n)=>k (.grid e te rows (some i) (some (l,n)))
 | .smp v m=>k (.smp v m)
def Akm:List (Nat×OB)→(List (Nat×OB)→Prop)→Prop
 | [],k=>k []
 |(l,b)::r,k=>Aqf b fun b'=>Akm r fun r'=>k ((l,b')::r')
def Agn (w:WS) (k:WS→Prop):Prop:=Aa6 w.st.tmps fun t=>Akm w.st.heap fun h=>k {kn:=w.kn,st:= {tmps:=t,heap:=h} }
def Agm (s:St) (k:St→Prop):Prop:=Aa6 s.tmps fun t=>Akm s.heap fun h=>k {tmps:=t,heap:=h}
def Abo:List Bool→(List Bool→Prop)→Prop
 | [],k=>k []
 |true::r,k=>Abo r fun r'=>k (true::r')
 |false::r,k=>Abo r fun r'=>k (false::r')
theorem Ai0 {c:AC} {k:AC→Prop} :Ajg c k↔k c:=by
 cases c<;>simp only [Ajg]
 split<;>rfl
theorem Wy: ∀ {l:List AC} {k:List AC→Prop},Aa5 l k↔k l
 | [],k=>Iff.rfl
 |c::r,k=>by simp only [Aa5];rw [Ai0,Wy]
theorem Ats {c:AV} {k:AV→Prop} :Aqe c k↔k c:=by
 cases c<;>simp only [Aqe]
 ·exact Ai0
 ·exact Wy
theorem Wz: ∀ {l:List AV} {k:List AV→Prop},Aa6 l k↔k l
 | [],k=>Iff.rfl
 |c::r,k=>by simp only [Aa6];rw [Ats,Wz]
theorem Att {b:OB} {k:OB→Prop} :Aqf b k↔k b:=by
 cases b<;>simp only [Aqf]
 ·split<;>rfl
 ·exact Wy
 ·split<;>rfl
theorem Adt: ∀ {l:List (Nat×OB)} {k:List (Nat×OB)→Prop},Akm l k↔k l
 | [],k=>Iff.rfl
 |(l,b)::r,k=>by simp only [Akm];rw [Att,Adt]
theorem Bak {s:St} {k:St→Prop} :Agm s k=k s:=by
 unfold Agm
 exact propext (by rw [Wz,Adt])
theorem Ads: ∀ {l:List Bool} {k:List Bool→Prop},Abo l k=k l
 | [],k=>rfl
 |true::r,k=>by simp only [Abo];rw [Ads]
 |false::r,k=>by simp only [Abo];rw [Ads]
theorem Xa {w:WS} {k:WS→Prop} :Agn w k↔k w:=by
 unfold Agn
 rw [Wz,Adt]
def Ry:AC→List (Nat×Nat)
 | .own _ off len=> [(off,len)]
 |_=> []
def Sa:AV→List (Nat×Nat)
 | .at a=>Ry a
 | .agg cs=>cs.flatMap Ry
 |_=> []
def Ae3:OB→List (Nat×Nat)
 | .var _ vs=>vs.flatMap Ry
 |_=> []
def Ayx (s:St):List (Nat×Nat):=s.tmps.flatMap Sa++s.heap.flatMap fun p=>Ae3 p.2
def eqW (s0 s:St):Prop:=Ayx s=Ayx s0∧Dm (Ab7 s0 s) fun v=>v=Ba2 s0
def Agl (ops:Array Oper):Nat→Array Bool→WS→(WS→Prop)→Prop
 |0,listed,w,K=>match Region.ready .any ops listed with
  | []=>K w
  |_::_=>False
 |f+1,listed,w,K=>match Region.ready .any ops listed with
  | []=>False
  |k::_=>Dm ops[k]? fun o=>Acy ops w o (fun kk w'=>opW T Γ w' o kk) fun w'=>Agl ops f (listed.setIfInBounds k true) w' K
def Asz (P:List (Nat×Nat×AV×OB)) (ops:Array Oper):Nat→Array Bool→WS→(WS→Prop)→Prop
 |0,listed,w,K=>match Region.ready .any ops listed with
  | []=>K w
  |_::_=>False
 |f+1,listed,w,K=>match Region.ready .any ops listed with
  | []=>False
  |i::r=>Bf8 (i::r) fun k=>Dm ops[k]? fun o=>match Axt P Γ ops w.st o k with
   |true=>Acy ops w o (fun kk w'=>opW T Γ w' o kk) fun w'=>Asz P ops f (listed.setIfInBounds k true) w' K
   |false=>False
def Aq3 (P:List (Nat×Nat×AV×OB)) (n:Nat) (L0:Array Bool) (ops:Array Oper) (w:WS) (K:WS→Prop):Prop:=
 match (Qi (P.map (·.1))&&Qi (P.map (·.2.1)))&&((P.all fun a=>Agz a.2.1 w.st)&&(Nat.ble P.length n&&Nat.ble (n-P.length) 10)) with
 |true=>Bd5 T Γ ops (P.map (·.1)) w fun w1=>Agn w1 fun w1=>Agl T Γ ops (n-P.length) (Dt (P.map (·.1)) L0) w1 fun w0=>Agn w0 fun w0=>K w0∧Asz T Γ P ops (n-P.length) (Dt (P.map (·.1)) L0) w1 fun w2=>eqW w0.st w2.st
 |false=>False
def Ark (ops:Array Oper) (draw:Bool) (w:WS) (K:WS→Prop):Prop:=
 match draw with
 |true=>match Abw false Γ ops with
  |true=>Aof T Γ ops (Abq false Γ ops) w fun w'=>Bd5 T Γ ops (Er false Γ ops) w' K
  |false=>match Abw true Γ ops with
   |true=>Aof T Γ ops (Abq true Γ ops) w fun w'=>Bd5 T Γ ops (Er true Γ ops) w' K
   |false=>match Region.noSelect ops&&Nat.ble (ops.size-(Iz ops).length) 8 with
    |true=>Aof T Γ ops (Iz ops) w fun w'=>match Abm false ops with
     |true=>Bab T Γ ops (ops.size-(Iz ops).length) (Dt (Iz ops) (Array.replicate ops.size false)) w' K
     |false=>Agl T Γ ops (ops.size-(Iz ops).length) (Dt (Iz ops) (Array.replicate ops.size false)) w' fun w0=>Agn w0 fun w0=>K w0∧Bab T Γ ops (ops.size-(Iz ops).length) (Dt (Iz ops) (Array.replicate ops.size false)) w' fun w1=>eqW w0.st w1.st
    |false=>match Region.noSelect ops with
     |true=>Aof T Γ ops (Iz ops) w fun w'=>Aq3 T Γ (Pl T ops (Dt (Iz ops) (Array.replicate ops.size false))) (ops.size-(Iz ops).length) (Dt (Iz ops) (Array.replicate ops.size false)) ops w' K
     |false=>False
 |false=>Bh8 T Γ ops ops.toList w K
def Vc (live:Nat→List Nat):Code→WS→(Gc→WS→Prop)→Prop
 | .skip,w,Q=>Q .normal w
 | .label _,w,Q=>Q .normal w
 | .region _ ops draw,w,Q=>Ark T (Arj Γ draw) ops draw w fun w'=>Agn w' (Q .normal)
 | .seq a b,w,Q=>Vc live a w fun e w'=>match e with
  | .normal=>Vc live b w' Q
  | .exit id=>Q (.exit id) w'
  | .ret=>Q .ret w'
 | .cond c a b,w,Q=>brO w c fun t w'=>match t with
  |true=>Vc live a w' Q
  |false=>Vc live b w' Q
 | .block id c,w,Q=>Vc live c w fun e w'=>match e with
  | .normal=>Q .normal w'
  | .exit id'=>if id'=id then Q .normal w' else Q (.exit id') w'
  | .ret=>Q .ret w'
 | .loop c,w,Q=>
  Agm (w.st.clean (live (Ce c))) fun s0=>Abo (Gq (stays live c) 0 s0.tmps) fun fx=>Agm (s0.mask fx) fun m=>
  As2 (Qe T.parts s0.tmps) s0 (Bx (V:=stV m) (fun v k=>Agm ((St.An2 fx s0 (Ab6 m v)).whole (Qe T.parts s0.tmps)) fun sb=>Vc live c ⟨[],sb⟩ fun e w'=>match e with
   | .normal=>Agm (w'.st.clean (live (Ce c))) fun s1=>As2 (Qe T.parts s0.tmps) s1 (Dm (Ab7 m (s1.mask fx)) k)
   | .exit id=>Q (.exit id) w'
   | .ret=>Q .ret w') (Ba2 m))
 | .exit id,w,Q=>Q (.exit id) w
 | .ret,w,Q=>Q .ret w
 |_,_,_=>False
def Bgz (s:Spec) (fn:Func) (P:s.res.den→Prop) (st:St):Prop:=
 Dm (Aey T s fn st) fun p=>match p.1||!s.fresh with|true=>P p.2|false=>False
def Aac (st:St) (K:Prop):List AC→List (Bool×CK)→Prop
 | .own l off len::as,(true,_)::r=>match st.at l with
  |some (.arr _ _ _ _ xs)=>(off=0∧len=xs.length)∧Aac st K as r
  |some (.xarr _ _ xs)=>(off=0∧len=xs.length)∧Aac st K as r
  |_=>False
 |_::as,(false,_)::r=>Aac st K as r
 |_,_=>K
def Ah0 (st:St):(cs:List CK)→List AC→(CKs.den cs→List Nat→Prop)→Prop
 | [],[],K=>K () []
 | .grid e te _::r, .own l off len::as,K=>match st.at l with
  |some (.grid e' te' rows none _)=>if h:e'=e∧te'=te then (off=0∧len=rows.length)∧Ah0 st r as fun y t=>K ((h.1▸rows:List (List e.den)),y) (l::t) else False
  |_=>False
 |c::r,a::as,K=>Dm (Ac7 st c a) fun p=>Ah0 st r as fun y t=>K (p.1,y) (p.2++t)
 |_,_,_=>False
def Aqp (st:St) (n:Nat) (as:List AC):List (Nat×Nat)→Prop→Prop
 | [],K=>K
 |(k,j)::r,K=>match as[j]? with
  |some (.own l _ _)=>match st.at l with
   |some (.grid _ _ _ _ (some p))=>match Nat.beq p.1 (Bu false k)&&Nat.blt k 1000 with
    |true=>n≤p.2∧Aqp st n as r K
    |false=>False
   |_=>False
  |_=>False
def Aln (s:Bl) (fn:Func) (x:Ins.den s.ins) (st:St) (cs:List AC) (P:CKs.den s.outs×IOs.den s.ins→Prop):Prop:=
 Dm (Ur T st fn.results.toList) fun l=>Dm (Ayd s st l) fun p=>Ah0 st s.outs (cs++p.1) fun r ls=>Dm (Ie st 0 s.ins) fun o=>
  match Qi (p.2++ls++Iy 0 s.ins)&&Nat.blt s.ins.length 1000&&Nat.blt s.outs.length 1000&&s.Bdm with
  |true=>Aqp st (s.Cr x) (cs++p.1) s.keeps (P (r,o))
  |false=>False
def Azz (s:Bl) (fn:Func) (x:Ins.den s.ins) (st:St) (P:CKs.den s.outs×IOs.den s.ins→Prop):Prop:=
 match s.ptr with
 |none=>Aln T s fn x st [] P
 |some p=>match st.at Kk with
  |some (.var tid vs)=>match Nat.beq tid p.1&&Nat.beq vs.length p.2 with
   |true=>Dm (El 0 s.ins vs) fun cs=>Aac st (Aln T s fn x st cs P) vs s.ins
   |false=>False
  |_=>False
@[irreducible] def Hy (s:Bl) (fn:Func) (x:Ins.den s.ins) (P:CKs.den s.outs×IOs.den s.ins→Prop):Prop:=
 match Nat.blt s.ins.length 1000&&Are s with
 |false=>False
 |true=>Dm fn.body fun c=>Vc T Γ (Aqt T.marks fn c) c {kn:= [],st:= {tmps:=Qo s (Sl 0 s.ins x)++List.replicate (fn.ntmps-(Qo s (Sl 0 s.ins x)).length) .undef,heap:=Ai4 s x} } fun e w=>match e with
  | .normal=>Azz T s fn x w.st P
  | .ret=>Azz T s fn x w.st P
  | .exit _=>False
@[irreducible] def fnW (s:Spec) (fn:Func) (x:s.arg.den) (P:s.res.den→Prop):Prop:=
 Dm fn.body fun c=>Vc T Γ (Aqt T.marks fn c) c {kn:= [],st:= {tmps:=Kv s.arg x++List.replicate (fn.ntmps-(Kv s.arg x).length) .undef,heap:= []} } fun e w=>match e with
  | .normal=>Bgz T s fn P w.st
  | .ret=>Bgz T s fn P w.st
  | .exit _=>False
end Go.Proofs.Ytebabhocakedaaa
