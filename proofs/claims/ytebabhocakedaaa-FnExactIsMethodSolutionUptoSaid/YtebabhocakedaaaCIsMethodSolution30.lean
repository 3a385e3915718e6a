/-
  Part 31 of the proof that the statement FnExactIsMethodSolution holds.
-/
import Derived.Test.YtebabhocakedaaaCIsMethodSolution29
namespace Go.Proofs.Ytebabhocakedaaa
open Go.RowKit
inductive Br (b:Bool) (A B:Prop):Prop
 |mk (t:b=true→A) (f:b=false→B)
inductive Bv {V:Type} (step:V→(V→Prop)→Prop) (v0:V):Prop
 |mk (I:V→Prop) (μ:V→Nat) (h0:I v0) (h: ∀v,I v→step v (fun v'=>I v'∧μ v'<μ v))
structure WS where
 kn:List (Nat×Bool)
 st:St
def Alc:List (Nat×Bool)→Nat→Option Bool
 | [],_=>none
 |(k,b)::r,t=>if k=t then some b else Alc r t
def An2:List (Nat×Bool)→Nat→List (Nat×Bool)
 | [],_=> []
 |(k,b)::r,t=>if k=t then An2 r t else (k,b)::An2 r t
def WS.put (w:WS) (dst:Option Tmp) (v:AV):WS:=
 match dst with
 |some d=> {kn:=An2 w.kn d,st:=w.st.put (some d) v}
 |none=>w
def Mi (kn:List (Nat×Bool)):Operand→Option Bool
 | .const (.bool b)=>some b
 | .tmp t=>Alc kn t
 |_=>none
def Cv (kn:List (Nat×Bool)) (o:Oper):Option Bool:=
 match o.op with
 | .assign x=>Mi kn x
 | .move x=>Mi kn x
 | .unOp .not _ x=>(Mi kn x).map (!·)
 | .pick c a b=>match Mi kn c with
  |some true=>Mi kn a
  |some false=>Mi kn b
  |none=>none
 |_=>none
def WS.Alq (w:WS) (o:Oper) (v:AV):WS:=
 match o.dst,Cv w.kn o with
 |some d,some b=>match (w.st.put (some d) v).get d with
  | .at (.data _ .bool _)=> {kn:=(d,b)::An2 w.kn d,st:=w.st.put (some d) v}
  |_=>w.put (some d) v
 |dst,_=>w.put dst v
def WS.to (w:WS) (st:St):WS:= {kn:=w.kn,st:=st}
def brT (w:WS) (t:Nat) (K:Bool→WS→Prop):Prop:=
 match Alc w.kn t with
 |some b=>K b w
 |none=>match w.st.get t with
  | .at (.data _ .bool b)=>Br b (K true {kn:=(t,true)::w.kn,st:=w.st}) (K false {kn:=(t,false)::w.kn,st:=w.st})
  |_=>False
def brO (w:WS) (c:Operand) (K:Bool→WS→Prop):Prop:=
 match c with
 | .tmp t=>brT w t K
 | .const (.bool b)=>K b w
 |_=>False
def Dg {α:Type} (o:Option α) (K:α→Prop):Prop:=match o with|some x=>K x|none=>False
def Bfa (T:Tab) (st:St) (t:TypeId) (x:AV) (l h:Int):Option AV:=
 match x with
 | .at (.data fr (.slice e) xs)=>if (T.elem t).bind T.ty=some e then some (.at (.data fr (.slice e) ((xs.take h.toNat).drop l.toNat))) else none
 | .at (.own k off _)=>match st.at k with
  |some (.arr _ _ e tid _)=>if T.elem t=some tid∧T.ty tid=some e then some (.at (.own k (off+l.toNat) (h.toNat-l.toNat))) else none
  |_=>none
 | .at (.data _ .str s)=>if T.ty t=some .str then some (.at (.data true .str (s.extract l.toNat h.toNat))) else none
 |_=>none
variable (T:Tab) (Γ:Env)
def Bep (op:BinOp) (t:TypeId) (x y:AV) (K:AV→Prop):Prop:=
 match op,x,y with
 | .quo, .at (.data _ (.int k) a), .at (.data _ (.int k') b)=>if k=k' then b≠0∧K (.at (.data true (.int k) (k.wrap (a.tdiv b)))) else False
 | .rem, .at (.data _ (.int k) a), .at (.data _ (.int k') b)=>if k=k' then b≠0∧K (.at (.data true (.int k) (a.tmod b))) else False
 | .shl, .at (.data _ (.int k) a), .at (.data _ (.int _) b)=> ¬b<0∧K (.at (.data true (.int k) (k.wrap (a*2^(min b.toNat k.bits)))))
 | .shr, .at (.data _ (.int k) a), .at (.data _ (.int _) b)=> ¬b<0∧K (.at (.data true (.int k) (a.fdiv (2^(min b.toNat k.bits)))))
 | .add, .at (.data _ .str a), .at (.data _ .str b)=>a.size+b.size≤4294967296∧K (.at (.data true .str (a++b)))
 |op,x,y=>Dg (Ks T op t x y) K
def Bbj (st:St) (t:TypeId) (p:AV) (K:AV→Prop):Prop:=
 match p with
 | .at (.eptr l i)=>Dg (T.ty t) fun τ=>match st.at l with
  |some (.arr fr _ e _ xs)=>if e=τ then ∃x,xs[i]?=some x∧K (.at (.data (fr||e.flat) e x)) else False
  |some (.xarr e _ xs)=>if e=τ then ∃x,xs[i]?=some x∧K (if e.Ab then .agg (Wo l i 0 e x) else .at ((Wo l i 0 e x).headD .undef)) else False
  |some (.grid _ _ _ none _)=>if τ.Ab then False else K (.at (.sub l i 0))
  |_=>False
 | .at (.data fr (.optr τ') x)=>Dg (T.ty t) fun τ=>if τ'=τ then ∃y,x=some y∧K (.at (.data (fr||τ'.flat) τ' y)) else False
 |p=>Dg (Iv T st t p) K
def Aca (s:TypeId) (x:AV) (f:Nat) (K:AV→Prop):Prop:=
 match x with
 | .at (.data fr (.optr τ) x)=> ∃y,x=some y∧Dg (Hi T s (.at (.data fr (.ptr τ) y)) f) K
 |x=>Dg (Hi T s x f) K
def Anc (st:St) (x:Operand) (K:AV→Prop) (d:Option AV):Prop:=
 match st.ev x with
 | .at (.data fr (.optr τ) x)=> ∃y,x=some y∧K (.at (.data fr (.ptr τ) y))
 |_=>Dg d K
def Awy (st:St) (t:TypeId) (x:AV) (lo hi:Option AV) (K:AV→Prop):Prop:=
 Dg (Asm x) fun n=>Dg (bnd lo 0) fun l=>Dg (bnd hi n) fun h=>(0≤l∧l≤h∧h≤n)∧Dg (Bfa T st t x l h) K
def Ach (st:St) (t:TypeId) (x i:AV) (K:AV→Prop):Prop:=
 match x,i with
 | .at (.data fr (.slice e) xs), .at (.data _ (.int _) n)=>if (T.elem t).bind T.ty=some e then ∃x,idx xs n=some x∧K (.at (.data fr (.ptr e) x)) else False
 | .at (.own l off len), .at (.data _ (.int _) n)=>match st.at l with
  |some (.arr _ _ e tid _)=>if T.elem t=some tid∧T.ty tid=some e then (0≤n∧n<len)∧K (.at (.eptr l (off+n.toNat))) else False
  |some (.xarr e tid _)=>if T.elem t=some tid∧T.ty tid=some e then (0≤n∧n<len)∧K (.at (.eptr l (off+n.toNat))) else False
  |some (.grid _ te _ _ _)=>if T.elem t=some te∧(T.ty te).map Ty.size=some 1 then (0≤n∧n<len)∧K (.at (.eptr l (off+n.toNat))) else False
  |_=>False
 | .at (.sub l i _), .at (.data _ (.int _) n)=>match st.at l with
  |some (.grid e _ rows none _)=>if ((T.elem t).bind T.ty).map Ty.size=some e.size then (0≤n∧n<(rows.getD i []).length)∧K (.at (.sptr l i n.toNat)) else False
  |_=>False
 |_,_=>False
def Avm (t:TypeId) (x i:AV) (K:AV→Prop):Prop:=
 match x,i with
 | .at (.data _ .str s), .at (.data _ (.int _) n)=>if T.ty t=some .str then 0≤n∧ ∃b,s[n.toNat]?=some b∧K (.at (.data true (.int .u8) b.toNat)) else False
 |_,_=>False
def Arr (st:St) (f:FuncId) (args:List AV) (K:AV→Prop):Prop:=
 Dg (match Γ f with|some (.q s)=>some s|_=>none) fun s=>match s.fresh||s.res.flat||args.all (·.settled) with
  |true=>Dg (Bm st s.arg args) fun p=> ∃y,s.fn p.2=some y∧K (if s.multi then .tup (s.fresh||s.res.flat) s.res y else .at (.data (s.fresh||s.res.flat) s.res y))
  |false=>False
def Av9 (st:St) (v:AV) (args:List AV) (K:AV→Prop):Prop:=
 match v with
 | .at (.data fr (.clo f τ) x)=>match τ.chain with|true=>Arr Γ st f (args++Vf fr τ x) K|false=>False
 | .at (.clo f caps)=>Arr Γ st f (args++caps.map fun p=> .at (.vptr p.1 p.2)) K
 |_=>False
def qW (w:WS) (o:Oper) (K:AV→WS→Prop):Prop:=
 match o.op with
 | .pick c a b=>brO w c fun t w'=>match t with|true=>K (w'.st.ev a) w'|false=>K (w'.st.ev b) w'
 | .load t a=>Bbj T w.st t (w.st.ev a) fun v=>K v w
 | .binOp op t x y _=>Bep T op t (w.st.ev x) (w.st.ev y) fun v=>K v w
 | .slice t x lo hi mx=>match mx with
  |none=>Awy T w.st t (w.st.ev x) (lo.map w.st.ev) (hi.map w.st.ev) fun v=>K v w
  |some _=>False
 | .indexAddr t x i=>Ach T w.st t (Afw (w.st.ev x)) (w.st.ev i) fun v=>K v w
 | .index t x i=>Avm T t (w.st.ev x) (w.st.ev i) fun v=>K v w
 | .call {callee:= .value (.func f),args, .. } =>Arr Γ w.st f (args.toList.map w.st.ev) fun v=>K v w
 | .call {callee:= .value (.tmp t),args, .. } =>Av9 Γ w.st (w.st.get t) (args.toList.map w.st.ev) fun v=>K v w
 | .fieldAddr s x f=>Aca T s (w.st.ev x) f fun v=>K v w
 | .nilCheck x=>Anc w.st x (fun v=>K v w) (Bz T Γ w.st o)
 |_=>Dg (Bz T Γ w.st o) fun v=>K v w
def Ax6 (st:St) (t:TypeId) (p v:AV) (K:St→Prop):Prop:=
 match p with
 | .at (.eptr l j)=>Dg (T.ty t) fun τ=>Dg (settle st v) fun q=>match q.2.at l with
  |some (.arr fr tr e tid xs)=>Dg (Ci q.2 τ q.1) fun u=>if h:τ=e then j<xs.length∧K (q.2.Ew l (.arr (fr&&u.1) (tr&&(Ko st v&&e.tree)) e tid (xs.set j (h▸u.2)))) else False
  |_=>False
 |p=>Dg (Lp T st t p v) K
def Aye (st:St) (t:TypeId) (p v:AV) (K:St→Prop):Prop:=
 match p with
 | .at (.sptr l i j)=>Dg (T.ty t) fun τ=>Dg (settle st v) fun q=>match q.2.at l with
  |some (.grid e te rows none kp)=>Dg (Ci q.2 τ q.1) fun u=>if h:τ=e then K (q.2.Ew l (.grid e te (rows.set i ((rows.getD i []).set j (h▸u.2))) none kp)) else False
  |_=>False
 | .at (.eptr l j)=>Dg (T.ty t) fun τ=>match st.at l,v with
  |some (.grid e te rows out kp), .at (.own m off len)=>match st.at m with
   |some (.arr _ _ e' _ xs)=>if h:e'=e∧(Nat.blt l Ag&&(!Nat.beq m l&&!τ.Ab))=true then
     off=0∧len=xs.length∧(match out with|none=>True|some i=>i=j)∧K (Kr st l j m e te rows (h.1▸xs) (Rh j kp))
    else False
   |_=>False
  |_,_=>False
 |_=>False
def Aqi (st:St) (t:TypeId) (p v:AV) (K:St→Prop):Prop:=match Ay2 st p with
 |true=>Aye T st t p v K
 |false=>Ax6 T st t p v K
def Ad9 (st:St) (dst:Nat) (t:TypeId) (x y:Operand) (K:AV→St→Prop):Prop:=
 Dg (T.elem t) fun te=>Dg (T.ty te) fun e=>Dg (settle st (st.ev y)) fun q=>Dg (Ci q.2 (.slice e) q.1) fun u=>match q.2.ev x with
  | .at .nilv=>match Nat.blt dst Ag with
   |true=>List.length u.2≤Az∧K (.at (.own dst 0 (List.length u.2))) ((q.2.new dst (.arr (T.fr0||e.flat) T.tr0 e te [])).new dst (.arr ((T.fr0||e.flat)&&(u.1||e.flat)) (T.tr0&&(e.flat||(Ko st (st.ev y)&&e.tree))) e te u.2))
   |false=>False
  | .at (.own l off len)=>match q.2.at l with
   |some (.arr fr tr e' tid xs)=>if h:e'=e∧tid=te∧Nat.blt l Ag=true then
     off=0∧len=xs.length∧len+List.length u.2≤Az∧K (.at (.own l 0 (List.length ((h.1▸xs:List e.den)++u.2)))) (q.2.new l (.arr (fr&&(u.1||e.flat)) (tr&&(e.flat||(Ko st (st.ev y)&&e.tree))) e te ((h.1▸xs:List e.den)++u.2)))
    else False
   |_=>False
  |_=>False
def Aie (st:St) (dst:Nat) (t:TypeId) (x y:Operand) (K:AV→St→Prop):Prop:=
 match x with
 | .tmp tx=>match st.get tx with
  | .at (.sub l i _)=>Dg (T.elem t) fun tid=>match st.at l with
   |some (.grid e te rows none kp)=>match Nat.blt l Ag&&(Nat.blt dst Ag&&!Nat.beq dst l) with
    |true=>Ad9 T ((It st l i dst e te tid rows kp).put (some tx) (.at (.own dst 0 (rows.getD i []).length))) dst t x y K
    |false=>False
   |_=>False
  |_=>Ad9 T st dst t x y K
 |_=>Ad9 T st dst t x y K
def Bbo (st:St) (dst:Nat) (t:TypeId) (l c:AV) (K:AV→St→Prop):Prop:=
 match l,c with
 | .at (.data _ (.int _) n), .at (.data _ (.int _) m)=>Dg (T.elem t) fun te=>Dg (T.ty te) fun e=>match Wv e&&Nat.blt dst Ag with
  |true=>(0≤n∧n<Az+1)∧n=m∧K (.at (.own dst 0 (List.replicate n.toNat e.zero).length)) (st.new dst (.arr (T.fr0||e.flat) (T.tr0&&e.tree) e te (List.replicate n.toNat e.zero)))
  |false=>False
 |_,_=>False
def Avy (st:St) (dst:Nat) (t:TypeId) (l c:AV) (K:AV→St→Prop):Prop:=
 match Uc T t with
 |none=>Bbo T st dst t l c K
 |some p=>match l,c with
  | .at (.data _ (.int _) n), .at (.data _ (.int _) m)=>match Nat.blt dst Ag with
   |true=>(0≤n∧n<Az+1)∧n=m∧K (.at (.own dst 0 (List.replicate n.toNat ([]:List p.2.den)).length)) (Jj st dst dst (.grid p.2 p.1 (List.replicate n.toNat []) none none))
   |false=>False
  |_,_=>False
def Ve (st:St) (dst:Nat) (t:TypeId) (len:Nat) (parts:Array (Nat×Operand)) (K:AV→St→Prop):Prop:=
 match Uc T t with
 |none=>Dg (Gc T st dst t len parts) fun r=>K r.1 r.2
 |some p=>match parts.toList with
  | [(0,x)]=>match st.ev x with
   | .at (.own m off ln)=>match st.at m with
    |some (.arr _ _ e' _ xs)=>if h:e'=p.2∧(Nat.beq len 1&&(Nat.blt dst Ag&&Nat.blt m Ag))=true then off=0∧ln=xs.length∧K (.at (.own dst 0 1)) (Jj st dst m (.grid p.2 p.1 [h.1▸xs] none none)) else False
    |_=>False
   |_=>False
  |_=>False
def Aig (st:St) (dst:Nat) (t:TypeId) (x y:Operand) (K:AV→St→Prop):Prop:=
 match Uc T t with
 |none=>Aie T st dst t x y K
 |some p=>match st.ev x,st.ev y with
  | .at (.own l off len), .at (.own m off2 Ajc)=>match st.at l,st.at m with
   |some (.grid e1 te1 A none _),some (.grid e2 te2 B none _)=>
    if h:(e1=p.2∧e2=p.2)∧(decide (te1=p.1)&&decide (te2=p.1)&&(Nat.blt l Ag&&(Nat.blt m Ag&&!Nat.beq m l)))=true then
     (off=0∧len=A.length)∧(off2=0∧Ajc=B.length)∧0<B.length∧A.length+B.length≤Az∧
      K (.at (.own l 0 (List.length ((h.1.1▸A:List (List p.2.den))++(h.1.2▸B:List (List p.2.den)))))) (Jj st l m (.grid p.2 p.1 ((h.1.1▸A:List (List p.2.den))++(h.1.2▸B:List (List p.2.den))) none none))
    else False
   |_,_=>False
  |_,_=>False
def Wr (st:St) (io:Bool) (k:Nat):(c:CK)→AC→(c.den→List (Nat×Loc)→Prop)→Prop
 | .dat τ, .own l off len,K=>Dg (Bj st τ (.own l off len)) fun p=>K p.2 [(Bn false k, .view l)]
 | .dat τ, .clo g caps,K=>match Rv st (caps.map (·.1))&&!τ.Ab with
  |true=>Dg (Ek st τ (.clo g caps)) fun p=>K p.2 (views k (caps.map (·.1)))
  |false=>False
 | .dat τ, .vptr l i,K=>match Rv st [l]&&!τ.Ab with
  |true=>Dg (Ek st τ (.vptr l i)) fun p=>K p.2 (views k [l])
  |false=>False
 | .dat τ, .sub l i c,K=>Dg (Bj st τ (.sub l i c)) fun p=>K p.2 [(Bn false k, .view l)]
 | .dat τ,a,K=>match τ.flat||a.settled with
  |true=>Dg (Bj st τ a) fun p=>K p.2 []
  |false=>False
 | .row e te, .own l off len,K=>match st.at l with
  |some (.arr _ _ e' te' xs)=>if h:e'=e∧te'=te then off=0∧len=xs.length∧K (h.1▸xs:List e.den) [(Bn io k, .row l)] else False
  |_=>False
 | .row e _, .sub l i c,K=>match st.at l with
  |some (.xarr e' _ xs)=>if h:e'= .slice e∧e.flat=true∧io=true∧c=0 then ∃y,xs[i]?=some y∧K (h.1▸y:(Ty.slice e).den) [(Bn io k, .sub l i c)] else False
  |_=>False
 | .row _ _, .nilv,K=>K [] []
 | .xrow e te, .own l off len,K=>match st.at l with
  |some (.xarr e' te' xs)=>if h:e'=e∧te'=te then off=0∧len=xs.length∧K (h.1▸xs:List e.den) [(Bn io k, .row l)] else False
  |_=>False
 | .xrow e _, .sub l i c,K=>match st.at l with
  |some (.xarr e' _ xs)=>if h:e'= .slice e∧io=true∧c=0 then ∃y,xs[i]?=some y∧K (h.1▸y:(Ty.slice e).den) [(Bn io k, .sub l i c)] else False
  |_=>False
 | .xrow _ _, .nilv,K=>K [] []
 | .part e te, .own l off len,K=>match st.at l with
  |some (.arr _ _ e' te' xs)=>if h:e'=e∧te'=te∧e.flat=true∧io=true then K ((h.1▸xs:List e.den),off,len) [(Bn io k, .row l)] else False
  |_=>False
 | .grid e te _, .own l off len,K=>match st.at l with
  |some (.grid e' te' rows none _)=>if h:e'=e∧te'=te∧io=false then off=0∧len=rows.length∧K (h.1▸rows:List (List e.den)) [(Bn io k, .row l)] else False
  |_=>False
 |_,_,_=>False
def Aqq (st:St):(k:Nat)→(cs:List (Bool×CK))→List AC→(Ins.den cs→List (Nat×Loc)→Prop)→Prop
 |_,[],[],K=>K () []
 |k,p::r,a::as,K=>Wr st p.1 k p.2 a fun x t1=>Aqq st (k+1) r as fun y t2=>K (x,y) (t1++t2)
 |_,_,_,_=>False
def Ah3 (st:St):(c:CK)→c.den→AC→(St→Prop)→Prop
 | .row e _,ys, .own l _ len,K=>match st.at l with
  |some (.arr fr tr e' te xs)=>if h:e=e' then (List.length ys=len∧xs.length=len)∧K (st.Ew l (.arr (fr&&e'.flat) (tr&&e'.flat) e' te (h▸ys))) else False
  |_=>False
 | .xrow e _,ys, .own l _ len,K=>match st.at l with
  |some (.xarr e' te xs)=>if h:e=e' then (List.length ys=len∧xs.length=len)∧K (st.Ew l (.xarr e' te (h▸ys))) else False
  |_=>False
 | .row e _,ys, .sub l i _,K=>match st.at l with
  |some (.xarr e' te xs)=>if h: .slice e=e' then ∃y,xs[i]?=some y∧List.length ys=List.length (h▸y:(Ty.slice e).den)∧K (st.Ew l (.xarr e' te (xs.set i (h▸(ys:(Ty.slice e).den))))) else False
  |_=>False
 | .xrow e _,ys, .sub l i _,K=>match st.at l with
  |some (.xarr e' te xs)=>if h: .slice e=e' then ∃y,xs[i]?=some y∧List.length ys=List.length (h▸y:(Ty.slice e).den)∧K (st.Ew l (.xarr e' te (xs.set i (h▸(ys:(Ty.slice e).den))))) else False
  |_=>False
 |_,_, .nilv,K=>K st
 |_,_,_,_=>False
def Bc5 (st:St) (e:Ty) (ys:List e.den):AC→(St→Prop)→Prop
 | .own l _ _,K=>match st.at l with
  |some (.arr fr tr e' te xs)=>if h:e=e' then List.length ys=xs.length∧K (st.Ew l (.arr fr tr e' te (h▸ys))) else False
  |_=>False
 |_,_=>False
def Zf:(cs:List (Bool×CK))→IOs.den cs→List AC→St→(St→Prop)→Prop
 | [],_,_,st,K=>K st
 |(true, .dat _)::r,x,_::as,st,K=>Zf r x as st K
 |(true, .row e te)::r,x,a::as,st,K=>Ah3 st (.row e te) x.1 a fun st'=>Zf r x.2 as st' K
 |(true, .xrow e te)::r,x,a::as,st,K=>Ah3 st (.xrow e te) x.1 a fun st'=>Zf r x.2 as st' K
 |(true, .part e _)::r,x,a::as,st,K=>Bc5 st e x.1 a fun st'=>Zf r x.2 as st' K
 |(true, .grid _ _ _)::r,x,_::as,st,K=>Zf r x as st K
 |(false,_)::r,x,_::as,st,K=>Zf r x as st K
 |_,_,_,_,_=>False
def Akr (H:List (Nat×OB)) (ls:List Nat) (n:Nat):List AV→Prop→Prop
 | [],K=>K
 | .at (.sub l i _)::r,K=>match ls.contains l with
  |true=>(i<n∧i<Ai0 H l)∧Akr H ls n r K
  |false=>Akr H ls n r K
 |_::r,K=>Akr H ls n r K
def Av8 (st:St) (dst:Option Nat) (s:Bp) (args:List AV) (K:AV→St→Prop):Prop:=
 Dg (Ay8 st s args) fun q=>Dg (ungroup s.shapes q.2.2) fun as0=>Aqq st 0 s.ins (q.2.1++as0) fun x tks=>
  match Pe (tks.map fun t=>t.2.lab)&&Ap9 (Jw s tks (dst.getD 0)) (s.outs.length+(Acs s (dst.getD 0)).length)&&Nat.blt s.outs.length 1000&&Nat.blt s.ins.length 1000&&(Me s.ins q.2.1&&q.1.all fun l=>!((tks.map fun t=>t.2.lab)++Jw s tks (dst.getD 0)).contains l) with
  |true=> ∃p,s.fn x=some p∧Zf s.ins p.2 (q.2.1++as0) st fun st1=>Dg (Bds s (dst.getD 0) ((Rk (Bo (Jw s tks (dst.getD 0))) 0 s.outs p.1).drop s.Pp)) fun v=>
    Akr (Ac2 st st1 (dst.getD 0) s q.1 tks p.1).heap (Rg st.heap (Jw s tks (dst.getD 0)) tks s.keeps) (s.Ch x) st.tmps
     (K v (Aci st (Ac2 st st1 (dst.getD 0) s q.1 tks p.1) (Rg st.heap (Jw s tks (dst.getD 0)) tks s.keeps) (s.Ch x)))
  |false=>False
def opW (w:WS) (o:Oper) (K:AV→WS→Prop):Prop:=
 match o.op with
 | .store t p x=>Aqi T w.st t (w.st.ev p) (w.st.ev x) fun s=>K .undef (w.to s)
 | .makeSlice t l c=>Dg o.dst fun d=>Avy T w.st d t (w.st.ev l) (w.st.ev c) fun v s=>K v (w.to s)
 | .call {callee:= .builtin .append,args,argTypes} =>match o.dst,args.toList,argTypes.toList with
  |some d,[x,y],[t,t']=>if t=t' then Aig T w.st d t x y fun v s=>K v (w.to s) else False
  |_,_,_=>False
 | .assign _=>Dg (evalOp T Γ w.st o) fun r=>K r.1 (w.to r.2)
 | .alloc _=>Dg (evalOp T Γ w.st o) fun r=>K r.1 (w.to r.2)
 | .box _ _=>Dg (evalOp T Γ w.st o) fun r=>K r.1 (w.to r.2)
 | .buildSlice t len parts=>Dg o.dst fun d=>Ve T w.st d t len parts fun v s=>K v (w.to s)
 | .build _ _=>Dg (evalOp T Γ w.st o) fun r=>K r.1 (w.to r.2)
 | .makeMap _ _=>Dg (evalOp T Γ w.st o) fun r=>K r.1 (w.to r.2)
 | .mapUpdate _ _ _ _=>Dg (evalOp T Γ w.st o) fun r=>K r.1 (w.to r.2)
 | .insert _ _ _ _=>Dg (evalOp T Γ w.st o) fun r=>K r.1 (w.to r.2)
 | .call {callee:= .builtin .copy, .. } =>Dg (evalOp T Γ w.st o) fun r=>K r.1 (w.to r.2)
 | .call {callee:= .builtin .clear, .. } =>Dg (evalOp T Γ w.st o) fun r=>K r.1 (w.to r.2)
 | .call {callee:= .value (.func f),args, .. } =>match Γ f with
  |some (.m s)=>Av8 w.st o.dst s (args.toList.map w.st.ev) fun v s'=>K v (w.to s')
  |some (.q s)=>match Vw s (args.toList.map w.st.ev) with
   |true=>Dg (Hy args.toList w.st) fun st1=>qW T Γ (w.to st1) o K
   |false=>qW T Γ w o K
  |_=>qW T Γ w o K
 |_=>qW T Γ w o K
def AV.Bbg:AV→Bool
 | .at .skip=>true
 |_=>false
def bW (w:WS) (o:Oper) (K:AV→WS→Prop):Prop:=
 match o.op with
 | .buildSlice t len parts=>Dg (Qy T w.st t len parts) fun v=>K v w
 | .build t parts=>Dg (Mz T w.st t parts) fun v=>K v w
 |_=>qW T Γ w o K
def Abm (ops:Array Oper) (w:WS) (o:Oper) (run:(AV→WS→Prop)→WS→Prop) (K:WS→Prop):Prop:=
 match o.guard with
 |none=>run (fun v w'=>K (w'.Alq o v)) w
 |some (j,want)=>Dg ((ops[j]?).bind (·.dst)) fun t=>match (w.st.get t).Bbg with
  |true=>K (w.put o.dst (.at .skip))
  |false=>brT w t fun b w'=>match b,want with
   |true,true=>run (fun v w''=>K (w''.Alq o v)) w'
   |false,false=>run (fun v w''=>K (w''.Alq o v)) w'
   |_,_=>K (w'.put o.dst (.at .skip))
def Bf0 (ops:Array Oper):List Oper→WS→(WS→Prop)→Prop
 | [],w,K=>K w
 |o::r,w,K=>Abm ops w o (fun k w'=>opW T Γ w' o k) fun w'=>Bf0 ops r w' K
def Bb8 (ops:Array Oper):List Nat→WS→(WS→Prop)→Prop
 | [],w,K=>K w
 |i::r,w,K=>Dg ops[i]? fun o=>Abm ops w o (fun k w'=>opW T Γ w' o k) fun w'=>Bb8 ops r w' K
def Amv (ops:Array Oper):List Nat→WS→(WS→Prop)→Prop
 | [],w,K=>K w
 |i::r,w,K=>Dg ops[i]? fun o=>Abm ops w o (fun k w'=>bW T Γ w' o k) fun w'=>Amv ops r w' K
def Bd2:List Nat→(Nat→Prop)→Prop
 | [],_=>True
 | [i],P=>P i
 |i::j::r,P=>P i∧Bd2 (j::r) P
def Ayj (ops:Array Oper):Nat→Array Bool→WS→(WS→Prop)→Prop
 |0,listed,w,K=>match Region.ready .any ops listed with
  | []=>K w
  |_::_=>False
 |f+1,listed,w,K=>match Region.ready .any ops listed with
  | []=>False
  |i::r=>Bd2 (i::r) fun k=>Dg ops[k]? fun o=>Abm ops w o (fun kk w'=>opW T Γ w' o kk) fun w'=>Ayj ops f (listed.setIfInBounds k true) w' K
def acV:AC→Type→Type
 | .data _ τ _,R=>τ.den×R
 | .sub _ _ _,R=>Nat×R
 | .eptr _ _,R=>Nat×R
 | .sptr _ _ _,R=>Nat×Nat×R
 |_,R=>R
def Av0:List AC→Type→Type
 | [],R=>R
 |c::r,R=>acV c (Av0 r R)
def avV:AV→Type→Type
 | .at a,R=>acV a R
 | .agg cs,R=>Av0 cs R
 | .tup _ τ _,R=>τ.den×R
 | .tupc _,R=>R
def obV:OB→Type→Type
 | .arr _ _ e _ _,R=>List e.den×R
 | .xarr e _ _,R=>List e.den×R
 | .var _ vs,R=>Av0 vs R
 | .grid e _ _ _ none,R=>List (List e.den)×R
 | .grid e _ _ _ (some _),R=>List (List e.den)×(Nat×R)
 | .smp v _,R=>(ByteArray→Option v.den)×R
def Ahc:List AV→Type→Type
 | [],R=>R
 |v::r,R=>avV v (Ahc r R)
def Amw:List (Nat×OB)→Type→Type
 | [],R=>R
 |p::r,R=>obV p.2 (Amw r R)
def stV (s:St):Type:=Ahc s.tmps (Amw s.heap Unit)
def Axm:(c:AC)→ {R:Type} →R→acV c R
 | .data _ _ x,_,r=>(x,r)
 | .undef,_,r=>r
 | .skip,_,r=>r
 | .nilv,_,r=>r
 | .nilp,_,r=>r
 | .own _ _ _,_,r=>r
 | .vptr _ _,_,r=>r
 | .eptr _ i,_,r=>(i,r)
 | .clo _ _,_,r=>r
 | .mapr _,_,r=>r
 | .sub _ i _,_,r=>(i,r)
 | .sptr _ i j,_,r=>(i,j,r)
def Aib:(l:List AC)→ {R:Type} →R→Av0 l R
 | [],_,r=>r
 |c::l,_,r=>Axm c (Aib l r)
def Beg:(c:AV)→ {R:Type} →R→avV c R
 | .at a,_,r=>Axm a r
 | .agg cs,_,r=>Aib cs r
 | .tup _ _ x,_,r=>(x,r)
 | .tupc _,_,r=>r
def Bej:(b:OB)→ {R:Type} →R→obV b R
 | .arr _ _ _ _ xs,_,r=>(xs,r)
 | .xarr _ _ xs,_,r=>(xs,r)
 | .var _ vs,_,r=>Aib vs r
 | .grid _ _ rows _ none,_,r=>(rows,r)
 | .grid _ _ rows _ (some p),_,r=>(rows,p.2,r)
 | .smp _ m,_,r=>(m,r)
def Ai4:(l:List AV)→ {R:Type} →R→Ahc l R
 | [],_,r=>r
 |c::l,_,r=>Beg c (Ai4 l r)
def Ai1:(l:List (Nat×OB))→ {R:Type} →R→Amw l R
 | [],_,r=>r
 |p::l,_,r=>Bej p.2 (Ai1 l r)
def Ayc (s:St):stV s:=Ai4 s.tmps (Ai1 s.heap ())
def Aez:(c d:AC)→ {R:Type} →R→Option (acV c R)
 | .data fr τ _, .data fr' τ' x,_,r=>if h:τ'=τ∧fr'=fr then some (h.1▸x,r) else none
 | .undef, .undef,_,r=>some r
 | .skip, .skip,_,r=>some r
 | .nilv, .nilv,_,r=>some r
 | .nilp, .nilp,_,r=>some r
 | .own l _ _, .own l' _ _,_,r=>if l=l' then some r else none
 | .vptr l i, .vptr l' i',_,r=>if l=l'∧i=i' then some r else none
 | .eptr l _, .eptr l' i',_,r=>if l=l' then some (i',r) else none
 | .clo f c, .clo f' c',_,r=>if f=f'∧c=c' then some r else none
 | .mapr l, .mapr l',_,r=>if l=l' then some r else none
 | .sub l _ c, .sub l' i' c',_,r=>if l=l'∧c=c' then some (i',r) else none
 | .sptr l _ _, .sptr l' i' j',_,r=>if l=l' then some (i',j',r) else none
 |_,_,_,_=>none
def Jv:(l m:List AC)→ {R:Type} →R→Option (Av0 l R)
 | [],[],_,r=>some r
 |c::l,d::m,_,r=>(Jv l m r).bind fun r'=>Aez c d r'
 |_,_,_,_=>none
def Ac5:(c d:AV)→ {R:Type} →R→Option (avV c R)
 | .at a, .at b,_,r=>Aez a b r
 | .agg cs, .agg ds,_,r=>Jv cs ds r
 | .tup fr τ _, .tup fr' τ' x,_,r=>if h:τ'=τ∧fr'=fr then some (h.1▸x,r) else none
 |_,_,_,_=>none
def Kk:(b d:OB)→ {R:Type} →R→Option (obV b R)
 | .arr fr tr e tid _, .arr fr' tr' e' tid' xs,_,r=>if h:e'=e∧fr'=fr∧tr'=tr∧tid'=tid then some (h.1▸xs,r) else none
 | .xarr e tid _, .xarr e' tid' xs,_,r=>if h:e'=e∧tid'=tid then some (h.1▸xs,r) else none
 | .smp v _, .smp v' m,_,r=>if h:v'=v then some (h▸m,r) else none
 | .var t vs, .var t' us,_,r=>if t'=t then Jv vs us r else none
 | .grid e te _ out none, .grid e' te' rows out' none,_,r=>if h:e'=e∧te'=te∧out'=out then some (h.1▸rows,r) else none
 | .grid e te _ out (some p), .grid e' te' rows out' (some p'),_,r=>if h:e'=e∧te'=te∧out'=out∧p'.1=p.1 then some (h.1▸rows,p'.2,r) else none
 |_,_,_,_=>none
def Hz:(l m:List AV)→ {R:Type} →R→Option (Ahc l R)
 | [],[],_,r=>some r
 |c::l,d::m,_,r=>(Hz l m r).bind fun r'=>Ac5 c d r'
 |_,_,_,_=>none
def Iw:(l m:List (Nat×OB))→ {R:Type} →R→Option (Amw l R)
 | [],[],_,r=>some r
 |p::l,q::m,_,r=>if q.1=p.1 then (Iw l m r).bind fun r'=>Kk p.2 q.2 r' else none
 |_,_,_,_=>none
def Zx (s t:St):Option (stV s):=(Iw s.heap t.heap ()).bind fun r=>Hz s.tmps t.tmps r
def Ac1:(c:AC)→ {R:Type} →acV c R→AC×R
 | .data fr τ _,_,v=>(.data fr τ v.1,v.2)
 | .undef,_,r=>(.undef,r)
 | .skip,_,r=>(.skip,r)
 | .nilv,_,r=>(.nilv,r)
 | .nilp,_,r=>(.nilp,r)
 | .own l off len,_,r=>(.own l off len,r)
 | .vptr l i,_,r=>(.vptr l i,r)
 | .eptr l _,_,v=>(.eptr l v.1,v.2)
 | .clo f c,_,r=>(.clo f c,r)
 | .mapr l,_,r=>(.mapr l,r)
 | .sub l _ c,_,v=>(.sub l v.1 c,v.2)
 | .sptr l _ _,_,v=>(.sptr l v.1 v.2.1,v.2.2)
def Ps:(l:List AC)→ {R:Type} →Av0 l R→List AC×R
 | [],_,r=>([],r)
 |c::l,_,v=>((Ac1 c v).1::(Ps l (Ac1 c v).2).1,(Ps l (Ac1 c v).2).2)
def Aik:(c:AV)→ {R:Type} →avV c R→AV×R
 | .at a,_,v=>(.at (Ac1 a v).1,(Ac1 a v).2)
 | .agg cs,_,v=>(.agg (Ps cs v).1,(Ps cs v).2)
 | .tup fr τ _,_,v=>(.tup fr τ v.1,v.2)
 | .tupc l,_,r=>(.tupc l,r)
def Ajm:(b:OB)→ {R:Type} →obV b R→OB×R
 | .arr fr tr e tid _,_,v=>(.arr fr tr e tid v.1,v.2)
 | .xarr e tid _,_,v=>(.xarr e tid v.1,v.2)
 | .smp w _,_,v=>(.smp w v.1,v.2)
 | .var t vs,_,v=>(.var t (Ps vs v).1,(Ps vs v).2)
 | .grid e te _ out none,_,v=>(.grid e te v.1 out none,v.2)
 | .grid e te _ out (some p),_,v=>(.grid e te v.1 out (some (p.1,v.2.1)),v.2.2)
def Mr:(l:List AV)→ {R:Type} →Ahc l R→List AV×R
 | [],_,r=>([],r)
 |c::l,_,v=>((Aik c v).1::(Mr l (Aik c v).2).1,(Mr l (Aik c v).2).2)
def Ue:(l:List (Nat×OB))→ {R:Type} →Amw l R→List (Nat×OB)×R
 | [],_,r=>([],r)
 |p::l,_,v=>((p.1,(Ajm p.2 v).1)::(Ue l (Ajm p.2 v).2).1,(Ue l (Ajm p.2 v).2).2)
def Zw (s:St) (v:stV s):St:= {tmps:=(Mr s.tmps v).1,heap:=(Ue s.heap (Mr s.tmps v).2).1}
def lenOf (H:List (Nat×OB)) (l:Nat):Nat:=match Ac H l with|some (.arr _ _ _ _ xs)=>xs.length|some (.xarr _ _ xs)=>xs.length|some (.grid _ _ rows _ _)=>rows.length|_=>0
def Pb (ps:List Nat):List AV→List (Nat×Nat×Nat)
 | []=> []
 | .at (.own l off len)::r=>if ps.contains l then (l,off,len)::Pb ps r else Pb ps r
 |_::r=>Pb ps r
def Bey:List (Nat×Nat×Nat)→Nat→Nat
 | [],_=>0
 |(k,o,_)::r,l=>if k=l then o else Bey r l
def Ayw:List (Nat×Nat×Nat)→List (Nat×OB)→Nat→Nat
 | [],H,l=>lenOf H l
 |(k,_,n)::r,H,l=>if k=l then n else Ayw r H l
def Wu (B:List (Nat×Nat×Nat)) (H:List (Nat×OB)):AC→AC
 | .own l _ _=> .own l (Bey B l) (Ayw B H l)
 |c=>c
def St.whole (B:List (Nat×Nat×Nat)) (s:St):St:=s.Fc (Wu B s.heap)
def Aoh (B:List (Nat×Nat×Nat)) (H:List (Nat×OB)) (c:AC) (K:Prop):Prop:=match c with
 | .own l off len=>off=Bey B l∧len=Ayw B H l∧K
 |_=>K
def Tm (B:List (Nat×Nat×Nat)) (H:List (Nat×OB)):List AC→Prop→Prop
 | [],K=>K
 |c::r,K=>Aoh B H c (Tm B H r K)
def Axo (B:List (Nat×Nat×Nat)) (H:List (Nat×OB)) (c:AV) (K:Prop):Prop:=match c with
 | .at a=>Aoh B H a K
 | .agg cs=>Tm B H cs K
 | .tup _ _ _=>K
 | .tupc _=>False
def Qr (B:List (Nat×Nat×Nat)) (H:List (Nat×OB)):List AV→Prop→Prop
 | [],K=>K
 |c::r,K=>Axo B H c (Qr B H r K)
def Aah (B:List (Nat×Nat×Nat)) (H:List (Nat×OB)):List (Nat×OB)→Prop→Prop
 | [],K=>K
 |p::r,K=>match p.2 with
  | .var _ vs=>Tm B H vs (Aah B H r K)
  |_=>Aah B H r K
def Aqh (B:List (Nat×Nat×Nat)) (s:St) (K:Prop):Prop:=Qr B s.heap s.tmps (Aah B s.heap s.heap K)
def AV.Nf:AV→Bool
 | .at (.data _ _ _)=>true
 |_=>false
def Gd (p:Nat→Bool):Nat→List AV→List Bool
 |_,[]=> []
 |i,v::r=>(v.Nf&&p i)::Gd p (i+1) r
def stays (live:Nat→List Nat) (c:Code) (t:Nat):Bool:=!(writes c).contains t&&Rf live c t
def Lr:List Bool→List AV→List AV
 |true::f,_::r=> .undef::Lr f r
 |false::f,v::r=>v::Lr f r
 |_,l=>l
def Mj:List Bool→List AV→List AV→List AV
 |true::f,a::s,_::r=>a::Mj f s r
 |false::f,_::s,v::r=>v::Mj f s r
 |_,_,l=>l
def St.mask (fx:List Bool) (s:St):St:= {tmps:=Lr fx s.tmps,heap:=s.heap}
def St.Alh (fx:List Bool) (s0 s:St):St:= {tmps:=Mj fx s0.tmps s.tmps,heap:=s.heap}
def Ahy (c:AC) (k:AC→Prop):Prop:=match c with
 | .undef=>k .undef
 | .skip=>k .skip
 | .nilv=>k .nilv
 | .nilp=>k .nilp
 | .data fr τ x=>match fr with
  |true=>k (.data true τ x)
  |false=>k (.data false τ x)
 | .own l off len=>k (.own l off len)
 | .vptr l i=>k (.vptr l i)
 | .eptr l i=>k (.eptr l i)
 | .clo f c=>k (.clo f c)
 | .mapr l=>k (.mapr l)
 | .sub l i c=>k (.sub l i c)
 | .sptr l i c=>k (.sptr l i c)
def Yp:List AC→(List AC→Prop)→Prop
 | [],k=>k []
 |c::r,k=>Ahy c fun c'=>Yp r fun r'=>k (c'::r')
def Aox (c:AV) (k:AV→Prop):Prop:=match c with
 | .at a=>Ahy a fun a'=>k (.at a')
 | .agg cs=>Yp cs fun cs'=>k (.agg cs')
 | .tup fr τ x=>k (.tup fr τ x)
 | .tupc l=>k (.tupc l)
def Yq:List AV→(List AV→Prop)→Prop
 | [],k=>k []
 |c::r,k=>Aox c fun c'=>Yq r fun r'=>k (c'::r')
def Aoy (b:OB) (k:OB→Prop):Prop:=match b with
 | .arr fr tr e tid xs=>match fr,tr with
  |true,true=>k (.arr true true e tid xs)
  |true,false=>k (.arr true false e tid xs)
  |false,true=>k (.arr false true e tid xs)
  |false,false=>k (.arr false false e tid xs)
 | .xarr e tid xs=>k (.xarr e tid xs)
 | .var t vs=>Yp vs fun vs'=>k (.var t vs')
 | .grid e te rows out kp=>match out,kp with
  |none,none=>k (.grid e te rows none none)
  |none,some (l,n)=>k (.grid e te rows none (some (l,n)))
  |some i,none=>k (.grid e te rows (some i) none)
  |some i,some (l,n)=>k (.grid e te rows (some i) (some (l,n)))
 | .smp v m=>k (.smp v m)
def Aiz:List (Nat×OB)→(List (Nat×OB)→Prop)→Prop
 | [],k=>k []
 |(l,b)::r,k=>Aoy b fun b'=>Aiz r fun r'=>k ((l,b')::r')
def Afc (w:WS) (k:WS→Prop):Prop:=Yq w.st.tmps fun t=>Aiz w.st.heap fun h=>k {kn:=w.kn,st:= {tmps:=t,heap:=h} }
def Afb (s:St) (k:St→Prop):Prop:=Yq s.tmps fun t=>Aiz s.heap fun h=>k {tmps:=t,heap:=h}
def Aae:List Bool→(List Bool→Prop)→Prop
 | [],k=>k []
 |true::r,k=>Aae r fun r'=>k (true::r')
 |false::r,k=>Aae r fun r'=>k (false::r')
theorem Agm {c:AC} {k:AC→Prop} :Ahy c k↔k c:=by
 cases c<;>simp only [Ahy]
 split<;>rfl
theorem Vl: ∀ {l:List AC} {k:List AC→Prop},Yp l k↔k l
 | [],k=>Iff.rfl
 |c::r,k=>by simp only [Yp];rw [Agm,Vl]
theorem As5 {c:AV} {k:AV→Prop} :Aox c k↔k c:=by
 cases c<;>simp only [Aox]
 ·exact Agm
 ·exact Vl
theorem Vm: ∀ {l:List AV} {k:List AV→Prop},Yq l k↔k l
 | [],k=>Iff.rfl
 |c::r,k=>by simp only [Yq];rw [As5,Vm]
theorem As6 {b:OB} {k:OB→Prop} :Aoy b k↔k b:=by
 cases b<;>simp only [Aoy]
 ·split<;>rfl
 ·exact Vl
 ·split<;>rfl
theorem Ace: ∀ {l:List (Nat×OB)} {k:List (Nat×OB)→Prop},Aiz l k↔k l
 | [],k=>Iff.rfl
 |(l,b)::r,k=>by simp only [Aiz];rw [As6,Ace]
theorem Ays {s:St} {k:St→Prop} :Afb s k=k s:=by
 unfold Afb
 exact propext (by rw [Vm,Ace])
theorem Acd: ∀ {l:List Bool} {k:List Bool→Prop},Aae l k=k l
 | [],k=>rfl
 |true::r,k=>by simp only [Aae];rw [Acd]
 |false::r,k=>by simp only [Aae];rw [Acd]
theorem Vn {w:WS} {k:WS→Prop} :Afc w k↔k w:=by
 unfold Afc
 rw [Vm,Ace]
def Qv:AC→List (Nat×Nat)
 | .own _ off len=> [(off,len)]
 |_=> []
def Qx:AV→List (Nat×Nat)
 | .at a=>Qv a
 | .agg cs=>cs.flatMap Qv
 |_=> []
def Aco:OB→List (Nat×Nat)
 | .var _ vs=>vs.flatMap Qv
 |_=> []
def Ax5 (s:St):List (Nat×Nat):=s.tmps.flatMap Qx++s.heap.flatMap fun p=>Aco p.2
def eqW (s0 s:St):Prop:=Ax5 s=Ax5 s0∧Dg (Zx s0 s) fun v=>v=Ayc s0
def Af9 (ops:Array Oper):Nat→Array Bool→WS→(WS→Prop)→Prop
 |0,listed,w,K=>match Region.ready .any ops listed with
  | []=>K w
  |_::_=>False
 |f+1,listed,w,K=>match Region.ready .any ops listed with
  | []=>False
  |k::_=>Dg ops[k]? fun o=>Abm ops w o (fun kk w'=>opW T Γ w' o kk) fun w'=>Af9 ops f (listed.setIfInBounds k true) w' K
def Are (P:List (Nat×Nat×AV×OB)) (ops:Array Oper):Nat→Array Bool→WS→(WS→Prop)→Prop
 |0,listed,w,K=>match Region.ready .any ops listed with
  | []=>K w
  |_::_=>False
 |f+1,listed,w,K=>match Region.ready .any ops listed with
  | []=>False
  |i::r=>Bd2 (i::r) fun k=>Dg ops[k]? fun o=>match Aw4 P Γ ops w.st o k with
   |true=>Abm ops w o (fun kk w'=>opW T Γ w' o kk) fun w'=>Are P ops f (listed.setIfInBounds k true) w' K
   |false=>False
def Aon (P:List (Nat×Nat×AV×OB)) (n:Nat) (L0:Array Bool) (ops:Array Oper) (w:WS) (K:WS→Prop):Prop:=
 match (Pe (P.map (·.1))&&Pe (P.map (·.2.1)))&&((P.all fun a=>Afr a.2.1 w.st)&&(Nat.ble P.length n&&Nat.ble (n-P.length) 10)) with
 |true=>Bb8 T Γ ops (P.map (·.1)) w fun w1=>Afc w1 fun w1=>Af9 T Γ ops (n-P.length) (Dm (P.map (·.1)) L0) w1 fun w0=>Afc w0 fun w0=>K w0∧Are T Γ P ops (n-P.length) (Dm (P.map (·.1)) L0) w1 fun w2=>eqW w0.st w2.st
 |false=>False
def Aq3 (ops:Array Oper) (draw:Bool) (w:WS) (K:WS→Prop):Prop:=
 match draw with
 |true=>match Aal false Γ ops with
  |true=>Amv T Γ ops (Aag false Γ ops) w fun w'=>Bb8 T Γ ops (Ei false Γ ops) w' K
  |false=>match Aal true Γ ops with
   |true=>Amv T Γ ops (Aag true Γ ops) w fun w'=>Bb8 T Γ ops (Ei true Γ ops) w' K
   |false=>match Region.noSelect ops&&Nat.ble (ops.size-(Il ops).length) 8 with
    |true=>Amv T Γ ops (Il ops) w fun w'=>match Aac false ops with
     |true=>Ayj T Γ ops (ops.size-(Il ops).length) (Dm (Il ops) (Array.replicate ops.size false)) w' K
     |false=>Af9 T Γ ops (ops.size-(Il ops).length) (Dm (Il ops) (Array.replicate ops.size false)) w' fun w0=>Afc w0 fun w0=>K w0∧Ayj T Γ ops (ops.size-(Il ops).length) (Dm (Il ops) (Array.replicate ops.size false)) w' fun w1=>eqW w0.st w1.st
    |false=>match Region.noSelect ops with
     |true=>Amv T Γ ops (Il ops) w fun w'=>Aon T Γ (Oh T ops (Dm (Il ops) (Array.replicate ops.size false))) (ops.size-(Il ops).length) (Dm (Il ops) (Array.replicate ops.size false)) ops w' K
     |false=>False
 |false=>Bf0 T Γ ops ops.toList w K
def Tr (live:Nat→List Nat):Code→WS→(Fp→WS→Prop)→Prop
 | .skip,w,Q=>Q .normal w
 | .label _,w,Q=>Q .normal w
 | .region _ ops draw,w,Q=>Aq3 T (Aq2 Γ draw) ops draw w fun w'=>Afc w' (Q .normal)
 | .seq a b,w,Q=>Tr live a w fun e w'=>match e with
  | .normal=>Tr live b w' Q
  | .exit id=>Q (.exit id) w'
  | .ret=>Q .ret w'
 | .cond c a b,w,Q=>brO w c fun t w'=>match t with
  |true=>Tr live a w' Q
  |false=>Tr live b w' Q
 | .block id c,w,Q=>Tr live c w fun e w'=>match e with
  | .normal=>Q .normal w'
  | .exit id'=>if id'=id then Q .normal w' else Q (.exit id') w'
  | .ret=>Q .ret w'
 | .loop c,w,Q=>
  Afb (w.st.clean (live (Bw c))) fun s0=>Aae (Gd (stays live c) 0 s0.tmps) fun fx=>Afb (s0.mask fx) fun m=>
  Aqh (Pb T.parts s0.tmps) s0 (Bv (V:=stV m) (fun v k=>Afb ((St.Alh fx s0 (Zw m v)).whole (Pb T.parts s0.tmps)) fun sb=>Tr live c ⟨[],sb⟩ fun e w'=>match e with
   | .normal=>Afb (w'.st.clean (live (Bw c))) fun s1=>Aqh (Pb T.parts s0.tmps) s1 (Dg (Zx m (s1.mask fx)) k)
   | .exit id=>Q (.exit id) w'
   | .ret=>Q .ret w') (Ayc m))
 | .exit id,w,Q=>Q (.exit id) w
 | .ret,w,Q=>Q .ret w
 |_,_,_=>False
def Beq (s:Spec) (fn:Func) (P:s.res.den→Prop) (st:St):Prop:=
 Dg (Adr T s fn st) fun p=>match p.1||!s.fresh with|true=>P p.2|false=>False
def Yw (st:St) (K:Prop):List AC→List (Bool×CK)→Prop
 | .own l off len::as,(true,_)::r=>match st.at l with
  |some (.arr _ _ _ _ xs)=>(off=0∧len=xs.length)∧Yw st K as r
  |some (.xarr _ _ xs)=>(off=0∧len=xs.length)∧Yw st K as r
  |_=>False
 |_::as,(false,_)::r=>Yw st K as r
 |_,_=>K
def Afs (st:St):(cs:List CK)→List AC→(CKs.den cs→List Nat→Prop)→Prop
 | [],[],K=>K () []
 | .grid e te _::r, .own l off len::as,K=>match st.at l with
  |some (.grid e' te' rows none _)=>if h:e'=e∧te'=te then (off=0∧len=rows.length)∧Afs st r as fun y t=>K ((h.1▸rows:List (List e.den)),y) (l::t) else False
  |_=>False
 |c::r,a::as,K=>Dg (Aaz st c a) fun p=>Afs st r as fun y t=>K (p.1,y) (p.2++t)
 |_,_,_=>False
def Ap8 (st:St) (n:Nat) (as:List AC):List (Nat×Nat)→Prop→Prop
 | [],K=>K
 |(k,j)::r,K=>match as[j]? with
  |some (.own l _ _)=>match st.at l with
   |some (.grid _ _ _ _ (some p))=>match Nat.beq p.1 (Bn false k)&&Nat.blt k 1000 with
    |true=>n≤p.2∧Ap8 st n as r K
    |false=>False
   |_=>False
  |_=>False
def Ak4 (s:Bp) (fn:Func) (x:Ins.den s.ins) (st:St) (cs:List AC) (P:CKs.den s.outs×IOs.den s.ins→Prop):Prop:=
 Dg (Tg T st fn.results.toList) fun l=>Dg (Awq s st l) fun p=>Afs st s.outs (cs++p.1) fun r ls=>Dg (Hv st 0 s.ins) fun o=>
  match Pe (p.2++ls++Ij 0 s.ins)&&Nat.blt s.ins.length 1000&&Nat.blt s.outs.length 1000&&s.Bbp with
  |true=>Ap8 st (s.Ch x) (cs++p.1) s.keeps (P (r,o))
  |false=>False
def Ay9 (s:Bp) (fn:Func) (x:Ins.den s.ins) (st:St) (P:CKs.den s.outs×IOs.den s.ins→Prop):Prop:=
 match s.ptr with
 |none=>Ak4 T s fn x st [] P
 |some p=>match st.at Ju with
  |some (.var tid vs)=>match Nat.beq tid p.1&&Nat.beq vs.length p.2 with
   |true=>Dg (Ee 0 s.ins vs) fun cs=>Yw st (Ak4 T s fn x st cs P) vs s.ins
   |false=>False
  |_=>False
@[irreducible] def Afa (s:Bp) (fn:Func) (x:Ins.den s.ins) (P:CKs.den s.outs×IOs.den s.ins→Prop):Prop:=
 match Nat.blt s.ins.length 1000&&Apy s with
 |false=>False
 |true=>Dg fn.body fun c=>Tr T Γ (Apc T.marks fn c) c {kn:= [],st:= {tmps:=Po s (Re 0 s.ins x)++List.replicate (fn.ntmps-(Po s (Re 0 s.ins x)).length) .undef,heap:=Agq s x} } fun e w=>match e with
  | .normal=>Ay9 T s fn x w.st P
  | .ret=>Ay9 T s fn x w.st P
  | .exit _=>False
@[irreducible] def fnW (s:Spec) (fn:Func) (x:s.arg.den) (P:s.res.den→Prop):Prop:=
 Dg fn.body fun c=>Tr T Γ (Apc T.marks fn c) c {kn:= [],st:= {tmps:=Kg s.arg x++List.replicate (fn.ntmps-(Kg s.arg x).length) .undef,heap:= []} } fun e w=>match e with
  | .normal=>Beq T s fn P w.st
  | .ret=>Beq T s fn P w.st
  | .exit _=>False
end Go.Proofs.Ytebabhocakedaaa
