/-
  Part 31 of the proof that the statement FnExactLongestMethodSolution holds.
-/
import Derived.Test.YtjbdmibbbpdnnaaCLongestMethodSolution29
namespace Go.Proofs.Ytjbdmibbbpdnnaa
open Go.RowKit
inductive Br (b:Bool) (A B:Prop):Prop
 |mk (t:b=true->A) (f:b=false->B)
inductive Bj {V:Type} (step:V->(V->Prop)->Prop) (v0:V):Prop
 |mk (I:V->Prop) (μ:V->Nat) (h0:I v0) (h: ∀v,I v->step v (λv'=>I v'/\μ v'<μ v))
structure WS where
 kn:List (Nat×Bool)
 st:St
def oO:List (Nat×Bool)->Nat->Option Bool
 | [],_=>none
 |(k,b)::r,t=>if k=t then some b else oO r t
def q7:List (Nat×Bool)->Nat->List (Nat×Bool)
 | [],_=> []
 |(k,b)::r,t=>if k=t then q7 r t else (k,b)::q7 r t
def WS.put (w:WS) (dst:Option Tmp) (v:AV):WS:=
 match dst with
 |some d=> {kn:=q7 w.kn d,st:=w.st.put (some d) v}
 |none=>w
def Oy (kn:List (Nat×Bool)):Operand->Option Bool
 | .const (.bool b)=>some b
 | .tmp t=>oO kn t
 |_=>none
def Dn (kn:List (Nat×Bool)) (o:Oper):Option Bool:=
 match o.op with
 | .assign x=>Oy kn x
 | .move x=>Oy kn x
 | .unOp .not _ x=>(Oy kn x).map (!·)
 | .pick c a b=>match Oy kn c with
  |some true=>Oy kn a
  |some false=>Oy kn b
  |none=>none
 |_=>none
def WS.oZ (w:WS) (o:Oper) (v:AV):WS:=
 match o.dst,Dn w.kn o with
 |some d,some b=>match (w.st.put (some d) v).get d with
  | .at (.data _ .bool _)=> {kn:=(d,b)::q7 w.kn d,st:=w.st.put (some d) v}
  |_=>w.put (some d) v
 |dst,_=>w.put dst v
def WS.to (w:WS) (st:St):WS:= {kn:=w.kn,st:=st}
def brT (w:WS) (t:Nat) (K:Bool->WS->Prop):Prop:=
 match oO w.kn t with
 |some b=>K b w
 |none=>match w.st.get t with
  | .at (.data _ .bool b)=>Br b (K true {kn:=(t,true)::w.kn,st:=w.st}) (K false {kn:=(t,false)::w.kn,st:=w.st})
  |_=>False
def brO (w:WS) (c:Operand) (K:Bool->WS->Prop):Prop:=
 match c with
 | .tmp t=>brT w t K
 | .const (.bool b)=>K b w
 |_=>False
def Dz {α:Type} (o:Option α) (K:α->Prop):Prop:=match o with|some x=>K x|none=>False
def VQ (T:Tab) (st:St) (t:TypeId) (x:AV) (l h:Int):Option AV:=
 match x with
 | .at (.data fr (.slice e) xs)=>if (T.elem t).bind T.ty=some e then some (.at (.data fr (.slice e) ((xs.take h.toNat).drop l.toNat))) else none
 | .at (.own k off _)=>match st.at k with
  |some (.arr _ _ e tid _)=>if T.elem t=some tid/\T.ty tid=some e then some (.at (.own k (off+l.toNat) (h.toNat-l.toNat))) else none
  |_=>none
 | .at (.data _ .str s)=>if T.ty t=some .str then some (.at (.data true .str (s.extract l.toNat h.toNat))) else none
 |_=>none
variable (T:Tab) (Γ:Env)
def SK (op:BinOp) (t:TypeId) (x y:AV) (K:AV->Prop):Prop:=
 match op,x,y with
 | .quo, .at (.data _ (.int k) a), .at (.data _ (.int k') b)=>if k=k' then b≠0/\K (.at (.data true (.int k) (k.wrap (a.tdiv b)))) else False
 | .rem, .at (.data _ (.int k) a), .at (.data _ (.int k') b)=>if k=k' then b≠0/\K (.at (.data true (.int k) (a.tmod b))) else False
 | .shl, .at (.data _ (.int k) a), .at (.data _ (.int _) b)=> ¬b<0/\K (.at (.data true (.int k) (k.wrap (a*2^(min b.toNat k.bits)))))
 | .shr, .at (.data _ (.int k) a), .at (.data _ (.int _) b)=> ¬b<0/\K (.at (.data true (.int k) (a.fdiv (2^(min b.toNat k.bits)))))
 | .add, .at (.data _ .str a), .at (.data _ .str b)=>a.size+b.size<=4294967296/\K (.at (.data true .str (a++b)))
 |op,x,y=>Dz (Mr T op t x y) K
def JB (st:St) (t:TypeId) (p:AV) (K:AV->Prop):Prop:=
 match p with
 | .at (.Fy l i)=>Dz (T.ty t) λτ=>match st.at l with
  |some (.arr fr _ e _ xs)=>if e=τ then ∃x,xs[i]?=some x/\K (.at (.data (fr||e.flat) e x)) else False
  |some (.Dh e _ xs)=>if e=τ then ∃x,xs[i]?=some x/\K (if e.Ac then .agg (au l i 0 e x) else .at ((au l i 0 e x).headD .undef)) else False
  |some (.Al _ _ _ none _)=>if τ.Ac then False else K (.at (.sub l i 0))
  |_=>False
 | .at (.data fr (.optr Jb) x)=>Dz (T.ty t) λτ=>if Jb=τ then ∃y,x=some y/\K (.at (.data (fr||Jb.flat) Jb y)) else False
 |p=>Dz (Kh T st t p) K
def fg (s:TypeId) (x:AV) (f:Nat) (K:AV->Prop):Prop:=
 match x with
 | .at (.data fr (.optr τ) x)=> ∃y,x=some y/\Dz (Iu T s (.at (.data fr (.ptr τ) y)) f) K
 |x=>Dz (Iu T s x f) K
def qh (st:St) (x:Operand) (K:AV->Prop) (d:Option AV):Prop:=
 match st.ev x with
 | .at (.data fr (.optr τ) x)=> ∃y,x=some y/\K (.at (.data fr (.ptr τ) y))
 |_=>Dz d K
def z0 (st:St) (t:TypeId) (x:AV) (lo hi:Option AV) (K:AV->Prop):Prop:=
 Dz (vu x) λn=>Dz (FY lo 0) λl=>Dz (FY hi n) λh=>(0<=l/\l<=h/\h<=n)/\Dz (VQ T st t x l h) K
def fv (st:St) (t:TypeId) (x i:AV) (K:AV->Prop):Prop:=
 match x,i with
 | .at (.data fr (.slice e) xs), .at (.data _ (.int _) n)=>if (T.elem t).bind T.ty=some e then ∃x,idx xs n=some x/\K (.at (.data fr (.ptr e) x)) else False
 | .at (.own l off len), .at (.data _ (.int _) n)=>match st.at l with
  |some (.arr _ _ e tid _)=>if T.elem t=some tid/\T.ty tid=some e then (0<=n/\n<len)/\K (.at (.Fy l (off+n.toNat))) else False
  |some (.Dh e tid _)=>if T.elem t=some tid/\T.ty tid=some e then (0<=n/\n<len)/\K (.at (.Fy l (off+n.toNat))) else False
  |some (.Al _ te _ _ _)=>if T.elem t=some te/\(T.ty te).map Ty.size=some 1 then (0<=n/\n<len)/\K (.at (.Fy l (off+n.toNat))) else False
  |_=>False
 | .at (.sub l i _), .at (.data _ (.int _) n)=>match st.at l with
  |some (.Al e _ rows none _)=>if ((T.elem t).bind T.ty).map Ty.size=some e.size then (0<=n/\n<(rows.getD i []).length)/\K (.at (.Fv l i n.toNat)) else False
  |_=>False
 |_,_=>False
def ya (t:TypeId) (x i:AV) (K:AV->Prop):Prop:=
 match x,i with
 | .at (.data _ .str s), .at (.data _ (.int _) n)=>if T.ty t=some .str then 0<=n/\ ∃b,s[n.toNat]?=some b/\K (.at (.data true (.int .u8) b.toNat)) else False
 |_,_=>False
def pI (st:St) (f:FuncId) (args:List AV) (K:AV->Prop):Prop:=
 Dz (match Γ f with|some (.q s)=>some s|_=>none) λs=>match s.fresh||s.res.flat||args.all (·.settled) with
  |true=>Dz (Bq st s.arg args) λp=> ∃y,s.fn p.2=some y/\K (if s.Gb then .Tv (s.fresh||s.res.flat) s.res y else .at (.data (s.fresh||s.res.flat) s.res y))
  |false=>False
def xz (st:St) (v:AV) (args:List AV) (K:AV->Prop):Prop:=
 match v with
 | .at (.data fr (.clo f τ) x)=>match τ.chain with|true=>(match Nat.blt f 1000000000 with|true=>pI Γ st f (args++Uc fr τ x) K|false=>pI Γ st (f-1000000000) (Uc fr τ x++args) K)|false=>False
 | .at (.clo f Bx)=>pI Γ st f (args++Bx.map λp=> .at (.Dx p.1 p.2)) K
 |_=>False
def qW (w:WS) (o:Oper) (K:AV->WS->Prop):Prop:=
 match o.op with
 | .pick c a b=>brO w c λt w'=>match t with|true=>K (w'.st.ev a) w'|false=>K (w'.st.ev b) w'
 | .load t a=>JB T w.st t (w.st.ev a) λv=>K v w
 | .binOp op t x y _=>SK T op t (w.st.ev x) (w.st.ev y) λv=>K v w
 | .slice t x lo hi mx=>match mx with
  |none=>z0 T w.st t (w.st.ev x) (lo.map w.st.ev) (hi.map w.st.ev) λv=>K v w
  |some _=>False
 | .indexAddr t x i=>fv T w.st t (jq (w.st.ev x)) (w.st.ev i) λv=>K v w
 | .index t x i=>ya T t (w.st.ev x) (w.st.ev i) λv=>K v w
 | .call {callee:= .value (.func f),args, .. } =>pI Γ w.st f (args.toList.map w.st.ev) λv=>K v w
 | .call {callee:= .value (.tmp t),args, .. } =>xz Γ w.st (w.st.get t) (args.toList.map w.st.ev) λv=>K v w
 | .fieldAddr s x f=>fg T s (w.st.ev x) f λv=>K v w
 | .nilCheck x=>qh w.st x (λv=>K v w) (Cl T Γ w.st o)
 |_=>Dz (Cl T Γ w.st o) λv=>K v w
def zf (st:St) (t:TypeId) (p v:AV) (K:St->Prop):Prop:=
 match p with
 | .at (.Fy l j)=>Dz (T.ty t) λτ=>Dz (settle st v) λq=>match q.2.at l with
  |some (.arr fr tr e tid xs)=>Dz (Cr q.2 τ q.1) λu=>if h:τ=e then j<xs.length/\K (q.2.Ga l (.arr (fr&&u.1) (tr&&(Mn st v&&e.tree)) e tid (xs.set j (h▸u.2)))) else False
  |_=>False
 |p=>Dz (Nq T st t p v) K
def BB (st:St) (t:TypeId) (p v:AV) (K:St->Prop):Prop:=
 match p with
 | .at (.Fv l i j)=>Dz (T.ty t) λτ=>Dz (settle st v) λq=>match q.2.at l with
  |some (.Al e te rows none kp)=>Dz (Cr q.2 τ q.1) λu=>if h:τ=e then K (q.2.Ga l (.Al e te (rows.set i ((rows.getD i []).set j (h▸u.2))) none kp)) else False
  |_=>False
 | .at (.Fy l j)=>Dz (T.ty t) λτ=>match st.at l,v with
  |some (.Al e te rows out kp), .at (.own m off len)=>match st.at m with
   |some (.arr _ _ e' _ xs)=>if h:e'=e/\(Nat.blt l Aj&&(!Nat.beq m l&&!τ.Ac))=true then
     off=0/\len=xs.length/\(match out with|none=>True|some i=>i=j)/\K (Mq st l j m e te rows (h.1▸xs) (Ur j kp))
    else False
   |_=>False
  |_,_=>False
 |_=>False
def tb (st:St) (t:TypeId) (p v:AV) (K:St->Prop):Prop:=match zW st p with
 |true=>BB T st t p v K
 |false=>zf T st t p v K
def gk (st:St) (dst:Nat) (t:TypeId) (x y:Operand) (K:AV->St->Prop):Prop:=
 Dz (T.elem t) λte=>Dz (T.ty te) λe=>Dz (settle st (st.ev y)) λq=>Dz (Cr q.2 (.slice e) q.1) λu=>match q.2.ev x with
  | .at .Hq=>match Nat.blt dst Aj with
   |true=>List.length u.2<=Bo/\K (.at (.own dst 0 (List.length u.2))) ((q.2.new dst (.arr (T.m8||e.flat) T.tw e te [])).new dst (.arr ((T.m8||e.flat)&&(u.1||e.flat)) (T.tw&&(e.flat||(Mn st (st.ev y)&&e.tree))) e te u.2))
   |false=>False
  | .at (.own l off len)=>match q.2.at l with
   |some (.arr fr tr e' tid xs)=>if h:e'=e/\tid=te/\Nat.blt l Aj=true then
     off=0/\len=xs.length/\len+List.length u.2<=Bo/\K (.at (.own l 0 (List.length ((h.1▸xs:List e.den)++u.2)))) (q.2.new l (.arr (fr&&(u.1||e.flat)) (tr&&(e.flat||(Mn st (st.ev y)&&e.tree))) e te ((h.1▸xs:List e.den)++u.2)))
    else False
   |_=>False
  |_=>False
def lK (st:St) (dst:Nat) (t:TypeId) (x y:Operand) (K:AV->St->Prop):Prop:=
 match x with
 | .tmp tx=>match st.get tx with
  | .at (.sub l i _)=>Dz (T.elem t) λtid=>match st.at l with
   |some (.Al e te rows none kp)=>match Nat.blt l Aj&&(Nat.blt dst Aj&&!Nat.beq dst l) with
    |true=>gk T ((Kg st l i dst e te tid rows kp).put (some tx) (.at (.own dst 0 (rows.getD i []).length))) dst t x y K
    |false=>False
   |_=>False
  |_=>gk T st dst t x y K
 |_=>gk T st dst t x y K
def JF (st:St) (dst:Nat) (t:TypeId) (l c:AV) (K:AV->St->Prop):Prop:=
 match l,c with
 | .at (.data _ (.int _) n), .at (.data _ (.int _) m)=>Dz (T.elem t) λte=>Dz (T.ty te) λe=>match aE e&&Nat.blt dst Aj with
  |true=>(0<=n/\n<Bo+1)/\n=m/\K (.at (.own dst 0 (List.replicate n.toNat e.zero).length)) (st.new dst (.arr (T.m8||e.flat) (T.tw&&e.tree) e te (List.replicate n.toNat e.zero)))
  |false=>False
 |_,_=>False
def ym (st:St) (dst:Nat) (t:TypeId) (l c:AV) (K:AV->St->Prop):Prop:=
 match Xu T t with
 |none=>JF T st dst t l c K
 |some p=>match l,c with
  | .at (.data _ (.int _) n), .at (.data _ (.int _) m)=>match Nat.blt dst Aj with
   |true=>(0<=n/\n<Bo+1)/\n=m/\K (.at (.own dst 0 (List.replicate n.toNat ([]:List p.2.den)).length)) (Kw st dst dst (.Al p.2 p.1 (List.replicate n.toNat []) none none))
   |false=>False
  |_,_=>False
def Zf (st:St) (dst:Nat) (t:TypeId) (len:Nat) (parts:Array (Nat×Operand)) (K:AV->St->Prop):Prop:=
 match Xu T t with
 |none=>Dz (Hk T st dst t len parts) λr=>K r.1 r.2
 |some p=>match parts.toList with
  | [(0,x)]=>match st.ev x with
   | .at (.own m off ln)=>match st.at m with
    |some (.arr _ _ e' _ xs)=>if h:e'=p.2/\(Nat.beq len 1&&(Nat.blt dst Aj&&Nat.blt m Aj))=true then off=0/\ln=xs.length/\K (.at (.own dst 0 1)) (Kw st dst m (.Al p.2 p.1 [h.1▸xs] none none)) else False
    |_=>False
   |_=>False
  |_=>False
def lM (st:St) (dst:Nat) (t:TypeId) (x y:Operand) (K:AV->St->Prop):Prop:=
 match Xu T t with
 |none=>lK T st dst t x y K
 |some p=>match st.ev x,st.ev y with
  | .at (.own l off len), .at (.own m JK mD)=>match st.at l,st.at m with
   |some (.Al e1 te1 A none _),some (.Al e2 pv B none _)=>
    if h:(e1=p.2/\e2=p.2)/\(decide (te1=p.1)&&decide (pv=p.1)&&(Nat.blt l Aj&&(Nat.blt m Aj&&!Nat.beq m l)))=true then
     (off=0/\len=A.length)/\(JK=0/\mD=B.length)/\0<B.length/\A.length+B.length<=Bo/\
      K (.at (.own l 0 (List.length ((h.1.1▸A:List (List p.2.den))++(h.1.2▸B:List (List p.2.den)))))) (Kw st l m (.Al p.2 p.1 ((h.1.1▸A:List (List p.2.den))++(h.1.2▸B:List (List p.2.den))) none none))
    else False
   |_,_=>False
  |_,_=>False
def az (st:St) (io:Bool) (k:Nat):(c:CK)->AC->(c.den->List (Nat×Loc)->Prop)->Prop
 | .Hf τ, .own l off len,K=>Dz (Bl st τ (.own l off len)) λp=>K p.2 [(Bt false k, .view l)]
 | .Hf τ, .clo g Bx,K=>match Vh st (Bx.map (·.1))&&!τ.Ac with
  |true=>Dz (Fh st τ (.clo g Bx)) λp=>K p.2 (views k (Bx.map (·.1)))
  |false=>False
 | .Hf τ, .Dx l i,K=>match Vh st [l]&&!τ.Ac with
  |true=>Dz (Fh st τ (.Dx l i)) λp=>K p.2 (views k [l])
  |false=>False
 | .Hf τ, .sub l i c,K=>Dz (Bl st τ (.sub l i c)) λp=>K p.2 [(Bt false k, .view l)]
 | .Hf τ,a,K=>match τ.flat||a.settled with
  |true=>Dz (Bl st τ a) λp=>K p.2 []
  |false=>False
 | .row e te, .own l off len,K=>match st.at l with
  |some (.arr _ _ e' La xs)=>if h:e'=e/\La=te then off=0/\len=xs.length/\K (h.1▸xs:List e.den) [(Bt io k, .row l)] else False
  |_=>False
 | .row e _, .sub l i c,K=>match st.at l with
  |some (.Dh e' _ xs)=>if h:e'= .slice e/\e.flat=true/\io=true/\c=0 then ∃y,xs[i]?=some y/\K (h.1▸y:(Ty.slice e).den) [(Bt io k, .sub l i c)] else False
  |_=>False
 | .row _ _, .Hq,K=>K [] []
 | .Dv e te, .own l off len,K=>match st.at l with
  |some (.Dh e' La xs)=>if h:e'=e/\La=te then off=0/\len=xs.length/\K (h.1▸xs:List e.den) [(Bt io k, .row l)] else False
  |_=>False
 | .Dv e _, .sub l i c,K=>match st.at l with
  |some (.Dh e' _ xs)=>if h:e'= .slice e/\io=true/\c=0 then ∃y,xs[i]?=some y/\K (h.1▸y:(Ty.slice e).den) [(Bt io k, .sub l i c)] else False
  |_=>False
 | .Dv _ _, .Hq,K=>K [] []
 | .part e te, .own l off len,K=>match st.at l with
  |some (.arr _ _ e' La xs)=>if h:e'=e/\La=te/\e.flat=true/\io=true then K ((h.1▸xs:List e.den),off,len) [(Bt io k, .row l)] else False
  |_=>False
 | .Al e te _, .own l off len,K=>match st.at l with
  |some (.Al e' La rows none _)=>if h:e'=e/\La=te/\io=false then off=0/\len=rows.length/\K (h.1▸rows:List (List e.den)) [(Bt io k, .row l)] else False
  |_=>False
 |_,_,_=>False
def tv (st:St):(k:Nat)->(cs:List (Bool×CK))->List AC->(Ins.den cs->List (Nat×Loc)->Prop)->Prop
 |_,[],[],K=>K () []
 |k,p::r,a::as,K=>az st p.1 k p.2 a λx t1=>tv st (k+1) r as λy t2=>K (x,y) (t1++t2)
 |_,_,_,_=>False
def kv (st:St):(c:CK)->c.den->AC->(St->Prop)->Prop
 | .row e _,ys, .own l _ len,K=>match st.at l with
  |some (.arr fr tr e' te xs)=>if h:e=e' then (List.length ys=len/\xs.length=len)/\K (st.Ga l (.arr (fr&&e'.flat) (tr&&e'.flat) e' te (h▸ys))) else False
  |_=>False
 | .Dv e _,ys, .own l _ len,K=>match st.at l with
  |some (.Dh e' te xs)=>if h:e=e' then (List.length ys=len/\xs.length=len)/\K (st.Ga l (.Dh e' te (h▸ys))) else False
  |_=>False
 | .row e _,ys, .sub l i _,K=>match st.at l with
  |some (.Dh e' te xs)=>if h: .slice e=e' then ∃y,xs[i]?=some y/\List.length ys=List.length (h▸y:(Ty.slice e).den)/\K (st.Ga l (.Dh e' te (xs.set i (h▸(ys:(Ty.slice e).den))))) else False
  |_=>False
 | .Dv e _,ys, .sub l i _,K=>match st.at l with
  |some (.Dh e' te xs)=>if h: .slice e=e' then ∃y,xs[i]?=some y/\List.length ys=List.length (h▸y:(Ty.slice e).den)/\K (st.Ga l (.Dh e' te (xs.set i (h▸(ys:(Ty.slice e).den))))) else False
  |_=>False
 |_,_, .Hq,K=>K st
 |_,_,_,_=>False
def KD (st:St) (e:Ty) (ys:List e.den):AC->(St->Prop)->Prop
 | .own l _ _,K=>match st.at l with
  |some (.arr fr tr e' te xs)=>if h:e=e' then List.length ys=xs.length/\K (st.Ga l (.arr fr tr e' te (h▸ys))) else False
  |_=>False
 |_,_=>False
def cA:(cs:List (Bool×CK))->IOs.den cs->List AC->St->(St->Prop)->Prop
 | [],_,_,st,K=>K st
 |(true, .Hf _)::r,x,_::as,st,K=>cA r x as st K
 |(true, .row e te)::r,x,a::as,st,K=>kv st (.row e te) x.1 a λst'=>cA r x.2 as st' K
 |(true, .Dv e te)::r,x,a::as,st,K=>kv st (.Dv e te) x.1 a λst'=>cA r x.2 as st' K
 |(true, .part e _)::r,x,a::as,st,K=>KD st e x.1 a λst'=>cA r x.2 as st' K
 |(true, .Al _ _ _)::r,x,_::as,st,K=>cA r x as st K
 |(false,_)::r,x,_::as,st,K=>cA r x as st K
 |_,_,_,_,_=>False
def nU (H:List (Nat×OB)) (ls:List Nat) (n:Nat):List AV->Prop->Prop
 | [],K=>K
 | .at (.sub l i _)::r,K=>match ls.contains l with
  |true=>(i<n/\i<ll H l)/\nU H ls n r K
  |false=>nU H ls n r K
 |_::r,K=>nU H ls n r K
def xy (st:St) (dst:Option Nat) (s:MSpec) (args:List AV) (K:AV->St->Prop):Prop:=
 Dz (AU st s args) λq=>Dz (ungroup s.Hb q.2.2) λiE=>tv st 0 s.ins (q.2.1++iE) λx tks=>
  match Sf (tks.map λt=>t.2.Pn)&&s8 (Ls s tks (dst.getD 0)) (s.outs.length+(fK s (dst.getD 0)).length)&&Nat.blt s.outs.length 1000&&Nat.blt s.ins.length 1000&&(Ov s.ins q.2.1&&q.1.all λl=>!((tks.map λt=>t.2.Pn)++Ls s tks (dst.getD 0)).contains l) with
  |true=> ∃p,s.fn x=some p/\cA s.ins p.2 (q.2.1++iE) st λst1=>Dz (PB s (dst.getD 0) ((Uv (Bv (Ls s tks (dst.getD 0))) 0 s.outs p.1).drop s.So)) λv=>
    nU (eV st st1 (dst.getD 0) s q.1 tks p.1).heap (Uq st.heap (Ls s tks (dst.getD 0)) tks s.keeps) (s.Ct x) st.tmps
     (K v (fw st (eV st st1 (dst.getD 0) s q.1 tks p.1) (Uq st.heap (Ls s tks (dst.getD 0)) tks s.keeps) (s.Ct x)))
  |false=>False
def SA (w:WS) (o:Oper) (K:AV->WS->Prop):Prop:=
 match o.op with
 | .store t p x=>tb T w.st t (w.st.ev p) (w.st.ev x) λs=>K .undef (w.to s)
 | .makeSlice t l c=>Dz o.dst λd=>ym T w.st d t (w.st.ev l) (w.st.ev c) λv s=>K v (w.to s)
 | .call {callee:= .builtin .append,args,argTypes} =>match o.dst,args.toList,argTypes.toList with
  |some d,[x,y],[t,t']=>if t=t' then lM T w.st d t x y λv s=>K v (w.to s) else False
  |_,_,_=>False
 | .assign _=>Dz (evalOp T Γ w.st o) λr=>K r.1 (w.to r.2)
 | .alloc _=>Dz (evalOp T Γ w.st o) λr=>K r.1 (w.to r.2)
 | .box _ _=>Dz (evalOp T Γ w.st o) λr=>K r.1 (w.to r.2)
 | .buildSlice t len parts=>Dz o.dst λd=>Zf T w.st d t len parts λv s=>K v (w.to s)
 | .build _ _=>Dz (evalOp T Γ w.st o) λr=>K r.1 (w.to r.2)
 | .makeMap _ _=>Dz (evalOp T Γ w.st o) λr=>K r.1 (w.to r.2)
 | .mapUpdate _ _ _ _=>Dz (evalOp T Γ w.st o) λr=>K r.1 (w.to r.2)
 | .insert _ _ _ _=>Dz (evalOp T Γ w.st o) λr=>K r.1 (w.to r.2)
 | .call {callee:= .builtin .copy, .. } =>Dz (evalOp T Γ w.st o) λr=>K r.1 (w.to r.2)
 | .call {callee:= .builtin .clear, .. } =>Dz (evalOp T Γ w.st o) λr=>K r.1 (w.to r.2)
 | .call {callee:= .value (.func f),args, .. } =>match Γ f with
  |some (.m s)=>xy w.st o.dst s (args.toList.map w.st.ev) λv s'=>K v (w.to s')
  |some (.q s)=>match Zx s (args.toList.map w.st.ev) with
   |true=>Dz (Jn args.toList w.st) λst1=>qW T Γ (w.to st1) o K
   |false=>qW T Γ w o K
  |_=>qW T Γ w o K
 |_=>qW T Γ w o K
def AV.IX:AV->Bool
 | .at .skip=>true
 |_=>false
def bW (w:WS) (o:Oper) (K:AV->WS->Prop):Prop:=
 match o.op with
 | .buildSlice t len parts=>Dz (Uf T w.st t len parts) λv=>K v w
 | .build t parts=>Dz (Pw T w.st t parts) λv=>K v w
 |_=>qW T Γ w o K
def eD (ops:Array Oper) (w:WS) (o:Oper) (run:(AV->WS->Prop)->WS->Prop) (K:WS->Prop):Prop:=
 match o.guard with
 |none=>run (λv w'=>K (w'.oZ o v)) w
 |some (j,want)=>Dz ((ops[j]?).bind (·.dst)) λt=>match (w.st.get t).IX with
  |true=>K (w.put o.dst (.at .skip))
  |false=>brT w t λb w'=>match b,want with
   |true,true=>run (λv o8=>K (o8.oZ o v)) w'
   |false,false=>run (λv o8=>K (o8.oZ o v)) w'
   |_,_=>K (w'.put o.dst (.at .skip))
def VB (ops:Array Oper):List Oper->WS->(WS->Prop)->Prop
 | [],w,K=>K w
 |o::r,w,K=>eD ops w o (λk w'=>SA T Γ w' o k) λw'=>VB ops r w' K
def IL (ops:Array Oper):List Nat->WS->(WS->Prop)->Prop
 | [],w,K=>K w
 |i::r,w,K=>Dz ops[i]? λo=>eD ops w o (λk w'=>SA T Γ w' o k) λw'=>IL ops r w' K
def pS (ops:Array Oper):List Nat->WS->(WS->Prop)->Prop
 | [],w,K=>K w
 |i::r,w,K=>Dz ops[i]? λo=>eD ops w o (λk w'=>bW T Γ w' o k) λw'=>pS ops r w' K
def MN:List Nat->(Nat->Prop)->Prop
 | [],_=>True
 | [i],P=>P i
 |i::j::r,P=>P i/\MN (j::r) P
def BJ (ops:Array Oper):Nat->Array Bool->WS->(WS->Prop)->Prop
 |0,Ad,w,K=>match Region.ready .any ops Ad with
  | []=>K w
  |_::_=>False
 |f+1,Ad,w,K=>match Region.ready .any ops Ad with
  | []=>False
  |i::r=>MN (i::r) λk=>Dz ops[k]? λo=>eD ops w o (λkk w'=>SA T Γ w' o kk) λw'=>BJ ops f (Ad.setIfInBounds k true) w' K
def WL:AC->Type->Type
 | .data _ τ _,R=>τ.den×R
 | .sub _ _ _,R=>Nat×R
 | .Fy _ _,R=>Nat×R
 | .Fv _ _ _,R=>Nat×Nat×R
 |_,R=>R
def xm:List AC->Type->Type
 | [],R=>R
 |c::r,R=>WL c (xm r R)
def WM:AV->Type->Type
 | .at a,R=>WL a R
 | .agg cs,R=>xm cs R
 | .Tv _ τ _,R=>τ.den×R
 | .Iz _,R=>R
def obV:OB->Type->Type
 | .arr _ _ e _ _,R=>List e.den×R
 | .Dh e _ _,R=>List e.den×R
 | .var _ vs,R=>xm vs R
 | .Al e _ _ _ none,R=>List (List e.den)×R
 | .Al e _ _ _ (some _),R=>List (List e.den)×(Nat×R)
 | .Oh v _,R=>(ByteArray->Option v.den)×R
def kK:List AV->Type->Type
 | [],R=>R
 |v::r,R=>WM v (kK r R)
def pT:List (Nat×OB)->Type->Type
 | [],R=>R
 |p::r,R=>obV p.2 (pT r R)
def stV (s:St):Type:=kK s.tmps (pT s.heap Unit)
def zC:(c:AC)-> {R:Type} ->R->WL c R
 | .data _ _ x,_,r=>(x,r)
 | .undef,_,r=>r
 | .skip,_,r=>r
 | .Hq,_,r=>r
 | .Qi,_,r=>r
 | .own _ _ _,_,r=>r
 | .Dx _ _,_,r=>r
 | .Fy _ i,_,r=>(i,r)
 | .clo _ _,_,r=>r
 | .Gi _,_,r=>r
 | .sub _ i _,_,r=>(i,r)
 | .Fv _ i j,_,r=>(i,j,r)
def lH:(l:List AC)-> {R:Type} ->R->xm l R
 | [],_,r=>r
 |c::l,_,r=>zC c (lH l r)
def QF:(c:AV)-> {R:Type} ->R->WM c R
 | .at a,_,r=>zC a r
 | .agg cs,_,r=>lH cs r
 | .Tv _ _ x,_,r=>(x,r)
 | .Iz _,_,r=>r
def RZ:(b:OB)-> {R:Type} ->R->obV b R
 | .arr _ _ _ _ xs,_,r=>(xs,r)
 | .Dh _ _ xs,_,r=>(xs,r)
 | .var _ vs,_,r=>lH vs r
 | .Al _ _ rows _ none,_,r=>(rows,r)
 | .Al _ _ rows _ (some p),_,r=>(rows,p.2,r)
 | .Oh _ m,_,r=>(m,r)
def lz:(l:List AV)-> {R:Type} ->R->kK l R
 | [],_,r=>r
 |c::l,_,r=>QF c (lz l r)
def lp:(l:List (Nat×OB))-> {R:Type} ->R->pT l R
 | [],_,r=>r
 |p::l,_,r=>RZ p.2 (lp l r)
def AZ (s:St):stV s:=lz s.tmps (lp s.heap ())
def iJ:(c d:AC)-> {R:Type} ->R->Option (WL c R)
 | .data fr τ _, .data Oo Jb x,_,r=>if h:Jb=τ/\Oo=fr then some (h.1▸x,r) else none
 | .undef, .undef,_,r=>some r
 | .skip, .skip,_,r=>some r
 | .Hq, .Hq,_,r=>some r
 | .Qi, .Qi,_,r=>some r
 | .own l _ _, .own l' _ _,_,r=>if l=l' then some r else none
 | .Dx l i, .Dx l' i',_,r=>if l=l'/\i=i' then some r else none
 | .Fy l _, .Fy l' i',_,r=>if l=l' then some (i',r) else none
 | .clo f c, .clo f' c',_,r=>if f=f'/\c=c' then some r else none
 | .Gi l, .Gi l',_,r=>if l=l' then some r else none
 | .sub l _ c, .sub l' i' c',_,r=>if l=l'/\c=c' then some (i',r) else none
 | .Fv l _ _, .Fv l' i' j',_,r=>if l=l' then some (i',j',r) else none
 |_,_,_,_=>none
def Lr:(l m:List AC)-> {R:Type} ->R->Option (xm l R)
 | [],[],_,r=>some r
 |c::l,d::m,_,r=>(Lr l m r).bind λr'=>iJ c d r'
 |_,_,_,_=>none
def eY:(c d:AV)-> {R:Type} ->R->Option (WM c R)
 | .at a, .at b,_,r=>iJ a b r
 | .agg cs, .agg ds,_,r=>Lr cs ds r
 | .Tv fr τ _, .Tv Oo Jb x,_,r=>if h:Jb=τ/\Oo=fr then some (h.1▸x,r) else none
 |_,_,_,_=>none
def Mj:(b d:OB)-> {R:Type} ->R->Option (obV b R)
 | .arr fr tr e tid _, .arr Oo LG e' Nn xs,_,r=>if h:e'=e/\Oo=fr/\LG=tr/\Nn=tid then some (h.1▸xs,r) else none
 | .Dh e tid _, .Dh e' Nn xs,_,r=>if h:e'=e/\Nn=tid then some (h.1▸xs,r) else none
 | .Oh v _, .Oh v' m,_,r=>if h:v'=v then some (h▸m,r) else none
 | .var t vs, .var t' us,_,r=>if t'=t then Lr vs us r else none
 | .Al e te _ out none, .Al e' La rows bo none,_,r=>if h:e'=e/\La=te/\bo=out then some (h.1▸rows,r) else none
 | .Al e te _ out (some p), .Al e' La rows bo (some p'),_,r=>if h:e'=e/\La=te/\bo=out/\p'.1=p.1 then some (h.1▸rows,p'.2,r) else none
 |_,_,_,_=>none
def Jo:(l m:List AV)-> {R:Type} ->R->Option (kK l R)
 | [],[],_,r=>some r
 |c::l,d::m,_,r=>(Jo l m r).bind λr'=>eY c d r'
 |_,_,_,_=>none
def Ki:(l m:List (Nat×OB))-> {R:Type} ->R->Option (pT l R)
 | [],[],_,r=>some r
 |p::l,q::m,_,r=>if q.1=p.1 then (Ki l m r).bind λr'=>Mj p.2 q.2 r' else none
 |_,_,_,_=>none
def cQ (s t:St):Option (stV s):=(Ki s.heap t.heap ()).bind λr=>Jo s.tmps t.tmps r
def eU:(c:AC)-> {R:Type} ->WL c R->AC×R
 | .data fr τ _,_,v=>(.data fr τ v.1,v.2)
 | .undef,_,r=>(.undef,r)
 | .skip,_,r=>(.skip,r)
 | .Hq,_,r=>(.Hq,r)
 | .Qi,_,r=>(.Qi,r)
 | .own l off len,_,r=>(.own l off len,r)
 | .Dx l i,_,r=>(.Dx l i,r)
 | .Fy l _,_,v=>(.Fy l v.1,v.2)
 | .clo f c,_,r=>(.clo f c,r)
 | .Gi l,_,r=>(.Gi l,r)
 | .sub l _ c,_,v=>(.sub l v.1 c,v.2)
 | .Fv l _ _,_,v=>(.Fv l v.1 v.2.1,v.2.2)
def Sr:(l:List AC)-> {R:Type} ->xm l R->List AC×R
 | [],_,r=>([],r)
 |c::l,_,v=>((eU c v).1::(Sr l (eU c v).2).1,(Sr l (eU c v).2).2)
def lP:(c:AV)-> {R:Type} ->WM c R->AV×R
 | .at a,_,v=>(.at (eU a v).1,(eU a v).2)
 | .agg cs,_,v=>(.agg (Sr cs v).1,(Sr cs v).2)
 | .Tv fr τ _,_,v=>(.Tv fr τ v.1,v.2)
 | .Iz l,_,r=>(.Iz l,r)
def mO:(b:OB)-> {R:Type} ->obV b R->OB×R
 | .arr fr tr e tid _,_,v=>(.arr fr tr e tid v.1,v.2)
 | .Dh e tid _,_,v=>(.Dh e tid v.1,v.2)
 | .Oh w _,_,v=>(.Oh w v.1,v.2)
 | .var t vs,_,v=>(.var t (Sr vs v).1,(Sr vs v).2)
 | .Al e te _ out none,_,v=>(.Al e te v.1 out none,v.2)
 | .Al e te _ out (some p),_,v=>(.Al e te v.1 out (some (p.1,v.2.1)),v.2.2)
def Pj:(l:List AV)-> {R:Type} ->kK l R->List AV×R
 | [],_,r=>([],r)
 |c::l,_,v=>((lP c v).1::(Pj l (lP c v).2).1,(Pj l (lP c v).2).2)
def Xx:(l:List (Nat×OB))-> {R:Type} ->pT l R->List (Nat×OB)×R
 | [],_,r=>([],r)
 |p::l,_,v=>((p.1,(mO p.2 v).1)::(Xx l (mO p.2 v).2).1,(Xx l (mO p.2 v).2).2)
def cP (s:St) (v:stV s):St:= {tmps:=(Pj s.tmps v).1,heap:=(Xx s.heap (Pj s.tmps v).2).1}
def lenOf (H:List (Nat×OB)) (l:Nat):Nat:=match Ae H l with|some (.arr _ _ _ _ xs)=>xs.length|some (.Dh _ _ xs)=>xs.length|some (.Al _ _ rows _ _)=>rows.length|_=>0
def Sb (ps:List Nat):List AV->List (Nat×Nat×Nat)
 | []=> []
 | .at (.own l off len)::r=>if ps.contains l then (l,off,len)::Sb ps r else Sb ps r
 |_::r=>Sb ps r
def UZ:List (Nat×Nat×Nat)->Nat->Nat
 | [],_=>0
 |(k,o,_)::r,l=>if k=l then o else UZ r l
def CM:List (Nat×Nat×Nat)->List (Nat×OB)->Nat->Nat
 | [],H,l=>lenOf H l
 |(k,_,n)::r,H,l=>if k=l then n else CM r H l
def aD (B:List (Nat×Nat×Nat)) (H:List (Nat×OB)):AC->AC
 | .own l _ _=> .own l (UZ B l) (CM B H l)
 |c=>c
def St.whole (B:List (Nat×Nat×Nat)) (s:St):St:=s.Gh (aD B s.heap)
def qZ (B:List (Nat×Nat×Nat)) (H:List (Nat×OB)) (c:AC) (K:Prop):Prop:=match c with
 | .own l off len=>off=UZ B l/\len=CM B H l/\K
 |_=>K
def Xg (B:List (Nat×Nat×Nat)) (H:List (Nat×OB)):List AC->Prop->Prop
 | [],K=>K
 |c::r,K=>qZ B H c (Xg B H r K)
def zE (B:List (Nat×Nat×Nat)) (H:List (Nat×OB)) (c:AV) (K:Prop):Prop:=match c with
 | .at a=>qZ B H a K
 | .agg cs=>Xg B H cs K
 | .Tv _ _ _=>K
 | .Iz _=>False
def Tu (B:List (Nat×Nat×Nat)) (H:List (Nat×OB)):List AV->Prop->Prop
 | [],K=>K
 |c::r,K=>zE B H c (Tu B H r K)
def dp (B:List (Nat×Nat×Nat)) (H:List (Nat×OB)):List (Nat×OB)->Prop->Prop
 | [],K=>K
 |p::r,K=>match p.2 with
  | .var _ vs=>Xg B H vs (dp B H r K)
  |_=>dp B H r K
def sY (B:List (Nat×Nat×Nat)) (s:St) (K:Prop):Prop:=Tu B s.heap s.tmps (dp B s.heap s.heap K)
def AV.Qg:AV->Bool
 | .at (.data _ _ _)=>true
 |_=>false
def Hl (p:Nat->Bool):Nat->List AV->List Bool
 |_,[]=> []
 |i,v::r=>(v.Qg&&p i)::Hl p (i+1) r
def stays (live:Nat->List Nat) (c:Code) (t:Nat):Bool:=!(writes c).contains t&&Up live c t
def Nv:List Bool->List AV->List AV
 |true::f,_::r=> .undef::Nv f r
 |false::f,v::r=>v::Nv f r
 |_,l=>l
def Oz:List Bool->List AV->List AV->List AV
 |true::f,a::s,_::r=>a::Oz f s r
 |false::f,_::s,v::r=>v::Oz f s r
 |_,_,l=>l
def St.mask (fx:List Bool) (s:St):St:= {tmps:=Nv fx s.tmps,heap:=s.heap}
def St.oT (fx:List Bool) (s0 s:St):St:= {tmps:=Oz fx s0.tmps s.tmps,heap:=s.heap}
def lg (c:AC) (k:AC->Prop):Prop:=match c with
 | .undef=>k .undef
 | .skip=>k .skip
 | .Hq=>k .Hq
 | .Qi=>k .Qi
 | .data fr τ x=>match fr with
  |true=>k (.data true τ x)
  |false=>k (.data false τ x)
 | .own l off len=>k (.own l off len)
 | .Dx l i=>k (.Dx l i)
 | .Fy l i=>k (.Fy l i)
 | .clo f c=>k (.clo f c)
 | .Gi l=>k (.Gi l)
 | .sub l i c=>k (.sub l i c)
 | .Fv l i c=>k (.Fv l i c)
def bY:List AC->(List AC->Prop)->Prop
 | [],k=>k []
 |c::r,k=>lg c λc'=>bY r λr'=>k (c'::r')
def rE (c:AV) (k:AV->Prop):Prop:=match c with
 | .at a=>lg a λa'=>k (.at a')
 | .agg cs=>bY cs λbN=>k (.agg bN)
 | .Tv fr τ x=>k (.Tv fr τ x)
 | .Iz l=>k (.Iz l)
def bZ:List AV->(List AV->Prop)->Prop
 | [],k=>k []
 |c::r,k=>rE c λc'=>bZ r λr'=>k (c'::r')
def rF (b:OB) (k:OB->Prop):Prop:=match b with
 | .arr fr tr e tid xs=>match fr,tr with
  |true,true=>k (.arr true true e tid xs)
  |true,false=>k (.arr true false e tid xs)
  |false,true=>k (.arr false true e tid xs)
  |false,false=>k (.arr false false e tid xs)
 | .Dh e tid xs=>k (.Dh e tid xs)
 | .var t vs=>bY vs λtT=>k (.var t tT)
 | .Al e te rows out kp=>match out,kp with
  |none,none=>k (.Al e te rows none none)
  |none,some (l,n)=>k (.Al e te rows none (some (l,n)))
  |some i,none=>k (.Al e te rows (some i) none)
  |some i,some (l,n)=>k (.Al e te rows (some i) (some (l,n)))
 | .Oh v m=>k (.Oh v m)
def m7:List (Nat×OB)->(List (Nat×OB)->Prop)->Prop
 | [],k=>k []
 |(l,b)::r,k=>rF b λb'=>m7 r λr'=>k ((l,b')::r')
def iW (w:WS) (k:WS->Prop):Prop:=bZ w.st.tmps λt=>m7 w.st.heap λh=>k {kn:=w.kn,st:= {tmps:=t,heap:=h} }
def iV (s:St) (k:St->Prop):Prop:=bZ s.tmps λt=>m7 s.heap λh=>k {tmps:=t,heap:=h}
def dj:List Bool->(List Bool->Prop)->Prop
 | [],k=>k []
 |true::r,k=>dj r λr'=>k (true::r')
 |false::r,k=>dj r λr'=>k (false::r')
theorem jT {c:AC} {k:AC->Prop} :lg c k↔k c:=by
 cases c<;>simp only [lg]
 split<;>rfl
theorem Zm: ∀ {l:List AC} {k:List AC->Prop},bY l k↔k l
 | [],k=>Iff.rfl
 |c::r,k=>by simp only [bY];rw [jT,Zm]
theorem uL {c:AV} {k:AV->Prop} :rE c k↔k c:=by
 cases c<;>simp only [rE]
 ·exact jT
 ·exact Zm
theorem Zn: ∀ {l:List AV} {k:List AV->Prop},bZ l k↔k l
 | [],k=>Iff.rfl
 |c::r,k=>by simp only [bZ];rw [uL,Zn]
theorem uM {b:OB} {k:OB->Prop} :rF b k↔k b:=by
 cases b<;>simp only [rF]
 ·split<;>rfl
 ·exact Zm
 ·split<;>rfl
theorem fj: ∀ {l:List (Nat×OB)} {k:List (Nat×OB)->Prop},m7 l k↔k l
 | [],k=>Iff.rfl
 |(l,b)::r,k=>by simp only [m7];rw [uM,fj]
theorem BV {s:St} {k:St->Prop} :iV s k=k s:=by
 unfold iV
 exact propext (by rw [Zn,fj])
theorem fi: ∀ {l:List Bool} {k:List Bool->Prop},dj l k=k l
 | [],k=>rfl
 |true::r,k=>by simp only [dj];rw [fi]
 |false::r,k=>by simp only [dj];rw [fi]
theorem Zo {w:WS} {k:WS->Prop} :iW w k↔k w:=by
 unfold iW
 rw [Zn,fj]
def Tx:AC->List (Nat×Nat)
 | .own _ off len=> [(off,len)]
 |_=> []
def Ua:AV->List (Nat×Nat)
 | .at a=>Tx a
 | .agg cs=>cs.flatMap Tx
 |_=> []
def fG:OB->List (Nat×Nat)
 | .var _ vs=>vs.flatMap Tx
 |_=> []
def ze (s:St):List (Nat×Nat):=s.tmps.flatMap Ua++s.heap.flatMap λp=>fG p.2
def eqW (s0 s:St):Prop:=ze s=ze s0/\Dz (cQ s0 s) λv=>v=AZ s0
def iU (ops:Array Oper):Nat->Array Bool->WS->(WS->Prop)->Prop
 |0,Ad,w,K=>match Region.ready .any ops Ad with
  | []=>K w
  |_::_=>False
 |f+1,Ad,w,K=>match Region.ready .any ops Ad with
  | []=>False
  |k::_=>Dz ops[k]? λo=>eD ops w o (λkk w'=>SA T Γ w' o kk) λw'=>iU ops f (Ad.setIfInBounds k true) w' K
def ua (P:List (Nat×Nat×AV×OB)) (ops:Array Oper):Nat->Array Bool->WS->(WS->Prop)->Prop
 |0,Ad,w,K=>match Region.ready .any ops Ad with
  | []=>K w
  |_::_=>False
 |f+1,Ad,w,K=>match Region.ready .any ops Ad with
  | []=>False
  |i::r=>MN (i::r) λk=>Dz ops[k]? λo=>match yw P Γ ops w.st o k with
   |true=>eD ops w o (λkk w'=>SA T Γ w' o kk) λw'=>ua P ops f (Ad.setIfInBounds k true) w' K
   |false=>False
def rh (P:List (Nat×Nat×AV×OB)) (n:Nat) (L0:Array Bool) (ops:Array Oper) (w:WS) (K:WS->Prop):Prop:=
 match (Sf (P.map (·.1))&&Sf (P.map (·.2.1)))&&((P.all λa=>ji a.2.1 w.st)&&(Nat.ble P.length n&&Nat.ble (n-P.length) 10)) with
 |true=>IL T Γ ops (P.map (·.1)) w λw1=>iW w1 λw1=>iU T Γ ops (n-P.length) (Eg (P.map (·.1)) L0) w1 λw0=>iW w0 λw0=>K w0/\ua T Γ P ops (n-P.length) (Eg (P.map (·.1)) L0) w1 λw2=>eqW w0.st w2.st
 |false=>False
def sG (ops:Array Oper) (draw:Bool) (w:WS) (K:WS->Prop):Prop:=
 match draw with
 |true=>match dw false Γ ops with
  |true=>pS T Γ ops (dm false Γ ops) w λw'=>IL T Γ ops (Fe false Γ ops) w' K
  |false=>match dw true Γ ops with
   |true=>pS T Γ ops (dm true Γ ops) w λw'=>IL T Γ ops (Fe true Γ ops) w' K
   |false=>match Region.noSelect ops&&Nat.ble (ops.size-(Ka ops).length) 8 with
    |true=>pS T Γ ops (Ka ops) w λw'=>match di false ops with
     |true=>BJ T Γ ops (ops.size-(Ka ops).length) (Eg (Ka ops) (Array.replicate ops.size false)) w' K
     |false=>iU T Γ ops (ops.size-(Ka ops).length) (Eg (Ka ops) (Array.replicate ops.size false)) w' λw0=>iW w0 λw0=>K w0/\BJ T Γ ops (ops.size-(Ka ops).length) (Eg (Ka ops) (Array.replicate ops.size false)) w' λw1=>eqW w0.st w1.st
    |false=>match Region.noSelect ops with
     |true=>pS T Γ ops (Ka ops) w λw'=>rh T Γ (Rg T ops (Eg (Ka ops) (Array.replicate ops.size false))) (ops.size-(Ka ops).length) (Eg (Ka ops) (Array.replicate ops.size false)) ops w' K
     |false=>False
 |false=>VB T Γ ops ops.toList w K
def Xk (live:Nat->List Nat):Code->WS->(Gv->WS->Prop)->Prop
 | .skip,w,Q=>Q .normal w
 | .label _,w,Q=>Q .normal w
 | .region _ ops draw,w,Q=>sG T (sF Γ draw) ops draw w λw'=>iW w' (Q .normal)
 | .seq a b,w,Q=>Xk live a w λe w'=>match e with
  | .normal=>Xk live b w' Q
  | .exit id=>Q (.exit id) w'
  | .ret=>Q .ret w'
 | .cond c a b,w,Q=>brO w c λt w'=>match t with
  |true=>Xk live a w' Q
  |false=>Xk live b w' Q
 | .block id c,w,Q=>Xk live c w λe w'=>match e with
  | .normal=>Q .normal w'
  | .exit CG=>if CG=id then Q .normal w' else Q (.exit CG) w'
  | .ret=>Q .ret w'
 | .loop c,w,Q=>
  iV (w.st.clean (live (Ci c))) λs0=>dj (Hl (stays live c) 0 s0.tmps) λfx=>iV (s0.mask fx) λm=>
  sY (Sb T.parts s0.tmps) s0 (Bj (V:=stV m) (λv k=>iV ((St.oT fx s0 (cP m v)).whole (Sb T.parts s0.tmps)) λsb=>Xk live c ⟨[],sb⟩ λe w'=>match e with
   | .normal=>iV (w'.st.clean (live (Ci c))) λs1=>sY (Sb T.parts s0.tmps) s1 (Dz (cQ m (s1.mask fx)) k)
   | .exit id=>Q (.exit id) w'
   | .ret=>Q .ret w') (AZ m))
 | .exit id,w,Q=>Q (.exit id) w
 | .ret,w,Q=>Q .ret w
 |_,_,_=>False
def SM (s:Spec) (fn:Func) (P:s.res.den->Prop) (st:St):Prop:=
 Dz (gE T s fn st) λp=>match p.1||!s.fresh with|true=>P p.2|false=>False
def cf (st:St) (K:Prop):List AC->List (Bool×CK)->Prop
 | .own l off len::as,(true,_)::r=>match st.at l with
  |some (.arr _ _ _ _ xs)=>(off=0/\len=xs.length)/\cf st K as r
  |some (.Dh _ _ xs)=>(off=0/\len=xs.length)/\cf st K as r
  |_=>False
 |_::as,(false,_)::r=>cf st K as r
 |_,_=>K
def jj (st:St):(cs:List CK)->List AC->(CKs.den cs->List Nat->Prop)->Prop
 | [],[],K=>K () []
 | .Al e te _::r, .own l off len::as,K=>match st.at l with
  |some (.Al e' La rows none _)=>if h:e'=e/\La=te then (off=0/\len=rows.length)/\jj st r as λy t=>K ((h.1▸rows:List (List e.den)),y) (l::t) else False
  |_=>False
 |c::r,a::as,K=>Dz (dO st c a) λp=>jj st r as λy t=>K (p.1,y) (p.2++t)
 |_,_,_=>False
def s7 (st:St) (n:Nat) (as:List AC):List (Nat×Nat)->Prop->Prop
 | [],K=>K
 |(k,j)::r,K=>match as[j]? with
  |some (.own l _ _)=>match st.at l with
   |some (.Al _ _ _ _ (some p))=>match Nat.beq p.1 (Bt false k)&&Nat.blt k 1000 with
    |true=>n<=p.2/\s7 st n as r K
    |false=>False
   |_=>False
  |_=>False
def ni (s:MSpec) (fn:Func) (x:Ins.den s.ins) (st:St) (cs:List AC) (P:CKs.den s.outs×IOs.den s.ins->Prop):Prop:=
 Dz (Wz T st fn.results.toList) λl=>Dz (yS s st l) λp=>jj st s.outs (cs++p.1) λr ls=>Dz (Jh st 0 s.ins) λo=>
  match Sf (p.2++ls++Jx 0 s.ins)&&Nat.blt s.ins.length 1000&&Nat.blt s.outs.length 1000&&s.JG with
  |true=>s7 st (s.Ct x) (cs++p.1) s.keeps (P (r,o))
  |false=>False
def AW (s:MSpec) (fn:Func) (x:Ins.den s.ins) (st:St) (P:CKs.den s.outs×IOs.den s.ins->Prop):Prop:=
 match s.ptr with
 |none=>ni T s fn x st [] P
 |some p=>match st.at Lq with
  |some (.var tid vs)=>match Nat.beq tid p.1&&Nat.beq vs.length p.2 with
   |true=>Dz (Ey 0 s.ins vs) λcs=>cf st (ni T s fn x st cs P) vs s.ins
   |false=>False
  |_=>False
@[irreducible] def fnMW (s:MSpec) (fn:Func) (x:Ins.den s.ins) (P:CKs.den s.outs×IOs.den s.ins->Prop):Prop:=
 match Nat.blt s.ins.length 1000&&sB s with
 |false=>False
 |true=>Dz fn.body λc=>Xk T Γ (se T.marks fn c) c {kn:= [],st:= {tmps:=Sm s (Un 0 s.ins x)++List.replicate (fn.ntmps-(Sm s (Un 0 s.ins x)).length) .undef,heap:=kc s x} } λe w=>match e with
  | .normal=>AW T s fn x w.st P
  | .ret=>AW T s fn x w.st P
  | .exit _=>False
@[irreducible] def fnW (s:Spec) (fn:Func) (x:s.arg.den) (P:s.res.den->Prop):Prop:=
 Dz fn.body λc=>Xk T Γ (se T.marks fn c) c {kn:= [],st:= {tmps:=Mf s.arg x++List.replicate (fn.ntmps-(Mf s.arg x).length) .undef,heap:= []} } λe w=>match e with
  | .normal=>SM T s fn P w.st
  | .ret=>SM T s fn P w.st
  | .exit _=>False
end Go.Proofs.Ytjbdmibbbpdnnaa
