/-
  Part 31 of the proof that the statement FnExactLowerBound holds.
-/
import Derived.Test.YtfolipnappekaaaGreatCLowerBound29
namespace Go.Proofs.YtfolipnappekaaaGreat
open Go.RowKit
inductive Br (b:Bool) (A B:Prop):Prop
 |mk (t:b=true->A) (f:b=false->B)
inductive Bm {V:Type} (step:V->(V->Prop)->Prop) (v0:V):Prop
 |mk (I:V->Prop) (μ:V->Nat) (h0:I v0) (h: ∀v,I v->step v (λv'=>I v'/\μ v'<μ v))
structure WS where
 kn:List (Nat×Bool)
 st:St
def pM:List (Nat×Bool)->Nat->Option Bool
 | [],_=>none
 |(k,b)::r,t=>if k=t then some b else pM r t
def rF:List (Nat×Bool)->Nat->List (Nat×Bool)
 | [],_=> []
 |(k,b)::r,t=>if k=t then rF r t else (k,b)::rF r t
def WS.put (w:WS) (dst:Option Tmp) (v:AV):WS:=
 match dst with
 |some d=> {kn:=rF w.kn d,st:=w.st.put (some d) v}
 |none=>w
def Pb (kn:List (Nat×Bool)):Operand->Option Bool
 | .const (.bool b)=>some b
 | .tmp t=>pM kn t
 |_=>none
def Di (kn:List (Nat×Bool)) (o:Oper):Option Bool:=
 match o.op with
 | .assign x=>Pb kn x
 | .move x=>Pb kn x
 | .unOp .not _ x=>(Pb kn x).map (!·)
 | .pick c a b=>match Pb kn c with
  |some true=>Pb kn a
  |some false=>Pb kn b
  |none=>none
 |_=>none
def WS.qb (w:WS) (o:Oper) (v:AV):WS:=
 match o.dst,Di w.kn o with
 |some d,some b=>match (w.st.put (some d) v).get d with
  | .at (.data _ .bool _)=> {kn:=(d,b)::rF w.kn d,st:=w.st.put (some d) v}
  |_=>w.put (some d) v
 |dst,_=>w.put dst v
def WS.to (w:WS) (st:St):WS:= {kn:=w.kn,st:=st}
def brT (w:WS) (t:Nat) (K:Bool->WS->Prop):Prop:=
 match pM w.kn t with
 |some b=>K b w
 |none=>match w.st.get t with
  | .at (.data _ .bool b)=>Br b (K true {kn:=(t,true)::w.kn,st:=w.st}) (K false {kn:=(t,false)::w.kn,st:=w.st})
  |_=>False
def brO (w:WS) (c:Operand) (K:Bool->WS->Prop):Prop:=
 match c with
 | .tmp t=>brT w t K
 | .const (.bool b)=>K b w
 |_=>False
def Dw {α:Type} (o:Option α) (K:α->Prop):Prop:=match o with|some x=>K x|none=>False
def XW (T:Tab) (st:St) (t:TypeId) (x:AV) (l h:Int):Option AV:=
 match x with
 | .at (.data fr (.slice e) xs)=>if (T.elem t).bind T.ty=some e then some (.at (.data fr (.slice e) ((xs.take h.toNat).drop l.toNat))) else none
 | .at (.own k off _)=>match st.at k with
  |some (.arr _ _ e tid _)=>if T.elem t=some tid/\T.ty tid=some e then some (.at (.own k (off+l.toNat) (h.toNat-l.toNat))) else none
  |_=>none
 | .at (.data _ .str s)=>if T.ty t=some .str then some (.at (.data true .str (s.extract l.toNat h.toNat))) else none
 |_=>none
variable (T:Tab) (Γ:Env)
def UJ (op:BinOp) (t:TypeId) (x y:AV) (K:AV->Prop):Prop:=
 match op,x,y with
 | .quo, .at (.data _ (.int k) a), .at (.data _ (.int k') b)=>if k=k' then b≠0/\K (.at (.data true (.int k) (k.wrap (a.tdiv b)))) else False
 | .rem, .at (.data _ (.int k) a), .at (.data _ (.int k') b)=>if k=k' then b≠0/\K (.at (.data true (.int k) (a.tmod b))) else False
 | .shl, .at (.data _ (.int k) a), .at (.data _ (.int _) b)=> ¬b<0/\K (.at (.data true (.int k) (k.wrap (a*2^(min b.toNat k.bits)))))
 | .shr, .at (.data _ (.int k) a), .at (.data _ (.int _) b)=> ¬b<0/\K (.at (.data true (.int k) (a.fdiv (2^(min b.toNat k.bits)))))
 | .add, .at (.data _ .str a), .at (.data _ .str b)=>a.size+b.size<=4294967296/\K (.at (.data true .str (a++b)))
 |op,x,y=>Dw (Mw T op t x y) K
def LJ (st:St) (t:TypeId) (p:AV) (K:AV->Prop):Prop:=
 match p with
 | .at (.Fo l i)=>Dw (T.ty t) λτ=>match st.at l with
  |some (.arr fr _ e _ xs)=>if e=τ then ∃x,xs[i]?=some x/\K (.at (.data (fr||e.flat) e x)) else False
  |some (.Cz e _ xs)=>if e=τ then ∃x,xs[i]?=some x/\K (if e.Ab then .agg (aI l i 0 e x) else .at ((aI l i 0 e x).headD .undef)) else False
  |some (.Ah _ _ _ none _)=>if τ.Ab then False else K (.at (.sub l i 0))
  |_=>False
 | .at (.data fr (.optr Iu) x)=>Dw (T.ty t) λτ=>if Iu=τ then ∃y,x=some y/\K (.at (.data (fr||Iu.flat) Iu y)) else False
 |p=>Dw (Kh T st t p) K
def fD (s:TypeId) (x:AV) (f:Nat) (K:AV->Prop):Prop:=
 match x with
 | .at (.data fr (.optr τ) x)=> ∃y,x=some y/\Dw (Ip T s (.at (.data fr (.ptr τ) y)) f) K
 |x=>Dw (Ip T s x f) K
def rP (st:St) (x:Operand) (K:AV->Prop) (d:Option AV):Prop:=
 match st.ev x with
 | .at (.data fr (.optr τ) x)=> ∃y,x=some y/\K (.at (.data fr (.ptr τ) y))
 |_=>Dw d K
def AW (st:St) (t:TypeId) (x:AV) (lo hi:Option AV) (K:AV->Prop):Prop:=
 Dw (wR x) λn=>Dw (IM lo 0) λl=>Dw (IM hi n) λh=>(0<=l/\l<=h/\h<=n)/\Dw (XW T st t x l h) K
def fN (st:St) (t:TypeId) (x i:AV) (K:AV->Prop):Prop:=
 match x,i with
 | .at (.data fr (.slice e) xs), .at (.data _ (.int _) n)=>if (T.elem t).bind T.ty=some e then ∃x,idx xs n=some x/\K (.at (.data fr (.ptr e) x)) else False
 | .at (.own l off len), .at (.data _ (.int _) n)=>match st.at l with
  |some (.arr _ _ e tid _)=>if T.elem t=some tid/\T.ty tid=some e then (0<=n/\n<len)/\K (.at (.Fo l (off+n.toNat))) else False
  |some (.Cz e tid _)=>if T.elem t=some tid/\T.ty tid=some e then (0<=n/\n<len)/\K (.at (.Fo l (off+n.toNat))) else False
  |some (.Ah _ te _ _ _)=>if T.elem t=some te/\(T.ty te).map Ty.size=some 1 then (0<=n/\n<len)/\K (.at (.Fo l (off+n.toNat))) else False
  |_=>False
 | .at (.sub l i _), .at (.data _ (.int _) n)=>match st.at l with
  |some (.Ah e _ rows none _)=>if ((T.elem t).bind T.ty).map Ty.size=some e.size then (0<=n/\n<(rows.getD i []).length)/\K (.at (.Fk l i n.toNat)) else False
  |_=>False
 |_,_=>False
def zq (t:TypeId) (x i:AV) (K:AV->Prop):Prop:=
 match x,i with
 | .at (.data _ .str s), .at (.data _ (.int _) n)=>if T.ty t=some .str then 0<=n/\ ∃b,s[n.toNat]?=some b/\K (.at (.data true (.int .u8) b.toNat)) else False
 |_,_=>False
def qX (st:St) (f:FuncId) (args:List AV) (K:AV->Prop):Prop:=
 Dw (match Γ f with|some (.q s)=>some s|_=>none) λs=>match s.fresh||s.res.flat||args.all (·.settled) with
  |true=>Dw (Bp st s.arg args) λp=> ∃y,s.fn p.2=some y/\K (if s.Dh then .Um (s.fresh||s.res.flat) s.res y else .at (.data (s.fresh||s.res.flat) s.res y))
  |false=>False
def yS (st:St) (v:AV) (args:List AV) (K:AV->Prop):Prop:=
 match v with
 | .at (.data fr (.clo f τ) x)=>match τ.chain with|true=>(match Nat.blt f 1000000000 with|true=>qX Γ st f (args++Us fr τ x) K|false=>qX Γ st (f-1000000000) (Us fr τ x++args) K)|false=>False
 | .at (.clo f Bu)=>qX Γ st f (args++Bu.map λp=> .at (.Dn p.1 p.2)) K
 |_=>False
def qW (w:WS) (o:Oper) (K:AV->WS->Prop):Prop:=
 match o.op with
 | .pick c a b=>brO w c λt w'=>match t with|true=>K (w'.st.ev a) w'|false=>K (w'.st.ev b) w'
 | .load t a=>LJ T w.st t (w.st.ev a) λv=>K v w
 | .binOp op t x y _=>UJ T op t (w.st.ev x) (w.st.ev y) λv=>K v w
 | .slice t x lo hi mx=>match mx with
  |none=>AW T w.st t (w.st.ev x) (lo.map w.st.ev) (hi.map w.st.ev) λv=>K v w
  |some _=>False
 | .indexAddr t x i=>fN T w.st t (jO (w.st.ev x)) (w.st.ev i) λv=>K v w
 | .index t x i=>zq T t (w.st.ev x) (w.st.ev i) λv=>K v w
 | .call {callee:= .value (.func f),args, .. } =>qX Γ w.st f (args.toList.map w.st.ev) λv=>K v w
 | .call {callee:= .value (.tmp t),args, .. } =>yS Γ w.st (w.st.get t) (args.toList.map w.st.ev) λv=>K v w
 | .fieldAddr s x f=>fD T s (w.st.ev x) f λv=>K v w
 | .nilCheck x=>rP w.st x (λv=>K v w) (Cg T Γ w.st o)
 |_=>Dw (Cg T Γ w.st o) λv=>K v w
def BL (st:St) (t:TypeId) (p v:AV) (K:St->Prop):Prop:=
 match p with
 | .at (.Fo l j)=>Dw (T.ty t) λτ=>Dw (settle st v) λq=>match q.2.at l with
  |some (.arr fr tr e tid xs)=>Dw (Cq q.2 τ q.1) λu=>if h:τ=e then j<xs.length/\K (q.2.Fh l (.arr (fr&&u.1) (tr&&(Mr st v&&e.tree)) e tid (xs.set j (h▸u.2)))) else False
  |_=>False
 |p=>Dw (Nu T st t p v) K
def EA (st:St) (t:TypeId) (p v:AV) (K:St->Prop):Prop:=
 match p with
 | .at (.Fk l i j)=>Dw (T.ty t) λτ=>Dw (settle st v) λq=>match q.2.at l with
  |some (.Ah e te rows none kp)=>Dw (Cq q.2 τ q.1) λu=>if h:τ=e then K (q.2.Fh l (.Ah e te (rows.set i ((rows.getD i []).set j (h▸u.2))) none kp)) else False
  |_=>False
 | .at (.Fo l j)=>Dw (T.ty t) λτ=>match st.at l,v with
  |some (.Ah e te rows out kp), .at (.own m off len)=>match st.at m with
   |some (.arr _ _ e' _ xs)=>if h:e'=e/\(Nat.blt l Ak&&(!Nat.beq m l&&!τ.Ab))=true then
     off=0/\len=xs.length/\(match out with|none=>True|some i=>i=j)/\K (Mv st l j m e te rows (h.1▸xs) (Vf j kp))
    else False
   |_=>False
  |_,_=>False
 |_=>False
def uy (st:St) (t:TypeId) (p v:AV) (K:St->Prop):Prop:=match DB st p with
 |true=>EA T st t p v K
 |false=>BL T st t p v K
def gE (st:St) (dst:Nat) (t:TypeId) (x y:Operand) (K:AV->St->Prop):Prop:=
 Dw (T.elem t) λte=>Dw (T.ty te) λe=>Dw (settle st (st.ev y)) λq=>Dw (Cq q.2 (.slice e) q.1) λu=>match q.2.ev x with
  | .at .Hf=>match Nat.blt dst Ak with
   |true=>List.length u.2<=Bj/\K (.at (.own dst 0 (List.length u.2))) ((q.2.new dst (.arr (T.mW||e.flat) T.uL e te [])).new dst (.arr ((T.mW||e.flat)&&(u.1||e.flat)) (T.uL&&(e.flat||(Mr st (st.ev y)&&e.tree))) e te u.2))
   |false=>False
  | .at (.own l off len)=>match q.2.at l with
   |some (.arr fr tr e' tid xs)=>if h:e'=e/\tid=te/\Nat.blt l Ak=true then
     off=0/\len=xs.length/\len+List.length u.2<=Bj/\K (.at (.own l 0 (List.length ((h.1▸xs:List e.den)++u.2)))) (q.2.new l (.arr (fr&&(u.1||e.flat)) (tr&&(e.flat||(Mr st (st.ev y)&&e.tree))) e te ((h.1▸xs:List e.den)++u.2)))
    else False
   |_=>False
  |_=>False
def my (st:St) (dst:Nat) (t:TypeId) (x y:Operand) (K:AV->St->Prop):Prop:=
 match x with
 | .tmp tx=>match st.get tx with
  | .at (.sub l i _)=>Dw (T.elem t) λtid=>match st.at l with
   |some (.Ah e te rows none kp)=>match Nat.blt l Ak&&(Nat.blt dst Ak&&!Nat.beq dst l) with
    |true=>gE T ((Kg st l i dst e te tid rows kp).put (some tx) (.at (.own dst 0 (rows.getD i []).length))) dst t x y K
    |false=>False
   |_=>False
  |_=>gE T st dst t x y K
 |_=>gE T st dst t x y K
def LP (st:St) (dst:Nat) (t:TypeId) (l c:AV) (K:AV->St->Prop):Prop:=
 match l,c with
 | .at (.data _ (.int _) n), .at (.data _ (.int _) m)=>Dw (T.elem t) λte=>Dw (T.ty te) λe=>match aQ e&&Nat.blt dst Ak with
  |true=>(0<=n/\n<Bj+1)/\n=m/\K (.at (.own dst 0 (List.replicate n.toNat e.zero).length)) (st.new dst (.arr (T.mW||e.flat) (T.uL&&e.tree) e te (List.replicate n.toNat e.zero)))
  |false=>False
 |_,_=>False
def zF (st:St) (dst:Nat) (t:TypeId) (l c:AV) (K:AV->St->Prop):Prop:=
 match Yk T t with
 |none=>LP T st dst t l c K
 |some p=>match l,c with
  | .at (.data _ (.int _) n), .at (.data _ (.int _) m)=>match Nat.blt dst Ak with
   |true=>(0<=n/\n<Bj+1)/\n=m/\K (.at (.own dst 0 (List.replicate n.toNat ([]:List p.2.den)).length)) (Kv st dst dst (.Ah p.2 p.1 (List.replicate n.toNat []) none none))
   |false=>False
  |_,_=>False
def Zt (st:St) (dst:Nat) (t:TypeId) (len:Nat) (parts:Array (Nat×Operand)) (K:AV->St->Prop):Prop:=
 match Yk T t with
 |none=>Dw (Hj T st dst t len parts) λr=>K r.1 r.2
 |some p=>match parts.toList with
  | [(0,x)]=>match st.ev x with
   | .at (.own m off ln)=>match st.at m with
    |some (.arr _ _ e' _ xs)=>if h:e'=p.2/\(Nat.beq len 1&&(Nat.blt dst Ak&&Nat.blt m Ak))=true then off=0/\ln=xs.length/\K (.at (.own dst 0 1)) (Kv st dst m (.Ah p.2 p.1 [h.1▸xs] none none)) else False
    |_=>False
   |_=>False
  |_=>False
def mA (st:St) (dst:Nat) (t:TypeId) (x y:Operand) (K:AV->St->Prop):Prop:=
 match Yk T t with
 |none=>my T st dst t x y K
 |some p=>match st.ev x,st.ev y with
  | .at (.own l off len), .at (.own m LY nD)=>match st.at l,st.at m with
   |some (.Ah e1 te1 A none _),some (.Ah e2 qz B none _)=>
    if h:(e1=p.2/\e2=p.2)/\(decide (te1=p.1)&&decide (qz=p.1)&&(Nat.blt l Ak&&(Nat.blt m Ak&&!Nat.beq m l)))=true then
     (off=0/\len=A.length)/\(LY=0/\nD=B.length)/\0<B.length/\A.length+B.length<=Bj/\
      K (.at (.own l 0 (List.length ((h.1.1▸A:List (List p.2.den))++(h.1.2▸B:List (List p.2.den)))))) (Kv st l m (.Ah p.2 p.1 ((h.1.1▸A:List (List p.2.den))++(h.1.2▸B:List (List p.2.den))) none none))
    else False
   |_,_=>False
  |_,_=>False
def aL (st:St) (io:Bool) (k:Nat):(c:CK)->AC->(c.den->List (Nat×Loc)->Prop)->Prop
 | .Ee τ, .own l off len,K=>Dw (Bl st τ (.own l off len)) λp=>K p.2 [(Bq false k, .view l)]
 | .Ee τ, .clo g Bu,K=>match Vu st (Bu.map (·.1))&&!τ.Ab with
  |true=>Dw (Fe st τ (.clo g Bu)) λp=>K p.2 (views k (Bu.map (·.1)))
  |false=>False
 | .Ee τ, .Dn l i,K=>match Vu st [l]&&!τ.Ab with
  |true=>Dw (Fe st τ (.Dn l i)) λp=>K p.2 (views k [l])
  |false=>False
 | .Ee τ, .sub l i c,K=>Dw (Bl st τ (.sub l i c)) λp=>K p.2 [(Bq false k, .view l)]
 | .Ee τ,a,K=>match τ.flat||a.settled with
  |true=>Dw (Bl st τ a) λp=>K p.2 []
  |false=>False
 | .row e te, .own l off len,K=>match st.at l with
  |some (.arr _ _ e' Kz xs)=>if h:e'=e/\Kz=te then off=0/\len=xs.length/\K (h.1▸xs:List e.den) [(Bq io k, .row l)] else False
  |_=>False
 | .row e _, .sub l i c,K=>match st.at l with
  |some (.Cz e' _ xs)=>if h:e'= .slice e/\e.flat=true/\io=true/\c=0 then ∃y,xs[i]?=some y/\K (h.1▸y:(Ty.slice e).den) [(Bq io k, .sub l i c)] else False
  |_=>False
 | .row _ _, .Hf,K=>K [] []
 | .Dp e te, .own l off len,K=>match st.at l with
  |some (.Cz e' Kz xs)=>if h:e'=e/\Kz=te then off=0/\len=xs.length/\K (h.1▸xs:List e.den) [(Bq io k, .row l)] else False
  |_=>False
 | .Dp e _, .sub l i c,K=>match st.at l with
  |some (.Cz e' _ xs)=>if h:e'= .slice e/\io=true/\c=0 then ∃y,xs[i]?=some y/\K (h.1▸y:(Ty.slice e).den) [(Bq io k, .sub l i c)] else False
  |_=>False
 | .Dp _ _, .Hf,K=>K [] []
 | .part e te, .own l off len,K=>match st.at l with
  |some (.arr _ _ e' Kz xs)=>if h:e'=e/\Kz=te/\e.flat=true/\io=true then K ((h.1▸xs:List e.den),off,len) [(Bq io k, .row l)] else False
  |_=>False
 | .Ah e te _, .own l off len,K=>match st.at l with
  |some (.Ah e' Kz rows none _)=>if h:e'=e/\Kz=te/\io=false then off=0/\len=rows.length/\K (h.1▸rows:List (List e.den)) [(Bq io k, .row l)] else False
  |_=>False
 |_,_,_=>False
def uK (st:St):(k:Nat)->(cs:List (Bool×CK))->List AC->(Ins.den cs->List (Nat×Loc)->Prop)->Prop
 |_,[],[],K=>K () []
 |k,p::r,a::as,K=>aL st p.1 k p.2 a λx t1=>uK st (k+1) r as λy t2=>K (x,y) (t1++t2)
 |_,_,_,_=>False
def kX (st:St):(c:CK)->c.den->AC->(St->Prop)->Prop
 | .row e _,ys, .own l _ len,K=>match st.at l with
  |some (.arr fr tr e' te xs)=>if h:e=e' then (List.length ys=len/\xs.length=len)/\K (st.Fh l (.arr (fr&&e'.flat) (tr&&e'.flat) e' te (h▸ys))) else False
  |_=>False
 | .Dp e _,ys, .own l _ len,K=>match st.at l with
  |some (.Cz e' te xs)=>if h:e=e' then (List.length ys=len/\xs.length=len)/\K (st.Fh l (.Cz e' te (h▸ys))) else False
  |_=>False
 | .row e _,ys, .sub l i _,K=>match st.at l with
  |some (.Cz e' te xs)=>if h: .slice e=e' then ∃y,xs[i]?=some y/\List.length ys=List.length (h▸y:(Ty.slice e).den)/\K (st.Fh l (.Cz e' te (xs.set i (h▸(ys:(Ty.slice e).den))))) else False
  |_=>False
 | .Dp e _,ys, .sub l i _,K=>match st.at l with
  |some (.Cz e' te xs)=>if h: .slice e=e' then ∃y,xs[i]?=some y/\List.length ys=List.length (h▸y:(Ty.slice e).den)/\K (st.Fh l (.Cz e' te (xs.set i (h▸(ys:(Ty.slice e).den))))) else False
  |_=>False
 |_,_, .Hf,K=>K st
 |_,_,_,_=>False
def ML (st:St) (e:Ty) (ys:List e.den):AC->(St->Prop)->Prop
 | .own l _ _,K=>match st.at l with
  |some (.arr fr tr e' te xs)=>if h:e=e' then List.length ys=xs.length/\K (st.Fh l (.arr fr tr e' te (h▸ys))) else False
  |_=>False
 |_,_=>False
def cJ:(cs:List (Bool×CK))->IOs.den cs->List AC->St->(St->Prop)->Prop
 | [],_,_,st,K=>K st
 |(true, .Ee _)::r,x,_::as,st,K=>cJ r x as st K
 |(true, .row e te)::r,x,a::as,st,K=>kX st (.row e te) x.1 a λst'=>cJ r x.2 as st' K
 |(true, .Dp e te)::r,x,a::as,st,K=>kX st (.Dp e te) x.1 a λst'=>cJ r x.2 as st' K
 |(true, .part e _)::r,x,a::as,st,K=>ML st e x.1 a λst'=>cJ r x.2 as st' K
 |(true, .Ah _ _ _)::r,x,_::as,st,K=>cJ r x as st K
 |(false,_)::r,x,_::as,st,K=>cJ r x as st K
 |_,_,_,_,_=>False
def oT (H:List (Nat×OB)) (ls:List Nat) (n:Nat):List AV->Prop->Prop
 | [],K=>K
 | .at (.sub l i _)::r,K=>match ls.contains l with
  |true=>(i<n/\i<m4 H l)/\oT H ls n r K
  |false=>oT H ls n r K
 |_::r,K=>oT H ls n r K
def yR (st:St) (dst:Option Nat) (s:MSpec) (args:List AV) (K:AV->St->Prop):Prop:=
 Dw (DV st s args) λq=>Dw (ungroup s.Fb q.2.2) λj6=>uK st 0 s.ins (q.2.1++j6) λx tks=>
  match Ss (tks.map λt=>t.2.Po)&&tB (Lt s tks (dst.getD 0)) (s.outs.length+(fY s (dst.getD 0)).length)&&Nat.blt s.outs.length 1000&&Nat.blt s.ins.length 1000&&(Oy s.ins q.2.1&&q.1.all λl=>!((tks.map λt=>t.2.Po)++Lt s tks (dst.getD 0)).contains l) with
  |true=> ∃p,s.fn x=some p/\cJ s.ins p.2 (q.2.1++j6) st λst1=>Dw (QX s (dst.getD 0) ((Vj (Bt (Lt s tks (dst.getD 0))) 0 s.outs p.1).drop s.Te)) λv=>
    oT (fq st st1 (dst.getD 0) s q.1 tks p.1).heap (Ve st.heap (Lt s tks (dst.getD 0)) tks s.keeps) (s.Ci x) st.tmps
     (K v (fO st (fq st st1 (dst.getD 0) s q.1 tks p.1) (Ve st.heap (Lt s tks (dst.getD 0)) tks s.keeps) (s.Ci x)))
  |false=>False
def TS (w:WS) (o:Oper) (K:AV->WS->Prop):Prop:=
 match o.op with
 | .store t p x=>uy T w.st t (w.st.ev p) (w.st.ev x) λs=>K .undef (w.to s)
 | .makeSlice t l c=>Dw o.dst λd=>zF T w.st d t (w.st.ev l) (w.st.ev c) λv s=>K v (w.to s)
 | .call {callee:= .builtin .append,args,argTypes} =>match o.dst,args.toList,argTypes.toList with
  |some d,[x,y],[t,t']=>if t=t' then mA T w.st d t x y λv s=>K v (w.to s) else False
  |_,_,_=>False
 | .assign _=>Dw (evalOp T Γ w.st o) λr=>K r.1 (w.to r.2)
 | .alloc _=>Dw (evalOp T Γ w.st o) λr=>K r.1 (w.to r.2)
 | .box _ _=>Dw (evalOp T Γ w.st o) λr=>K r.1 (w.to r.2)
 | .buildSlice t len parts=>Dw o.dst λd=>Zt T w.st d t len parts λv s=>K v (w.to s)
 | .build _ _=>Dw (evalOp T Γ w.st o) λr=>K r.1 (w.to r.2)
 | .makeMap _ _=>Dw (evalOp T Γ w.st o) λr=>K r.1 (w.to r.2)
 | .mapUpdate _ _ _ _=>Dw (evalOp T Γ w.st o) λr=>K r.1 (w.to r.2)
 | .insert _ _ _ _=>Dw (evalOp T Γ w.st o) λr=>K r.1 (w.to r.2)
 | .call {callee:= .builtin .copy, .. } =>Dw (evalOp T Γ w.st o) λr=>K r.1 (w.to r.2)
 | .call {callee:= .builtin .clear, .. } =>Dw (evalOp T Γ w.st o) λr=>K r.1 (w.to r.2)
 | .call {callee:= .value (.func f),args, .. } =>match Γ f with
  |some (.m s)=>yR w.st o.dst s (args.toList.map w.st.ev) λv s'=>K v (w.to s')
  |some (.q s)=>match ak s (args.toList.map w.st.ev) with
   |true=>Dw (Ji args.toList w.st) λst1=>qW T Γ (w.to st1) o K
   |false=>qW T Γ w o K
  |_=>qW T Γ w o K
 |_=>qW T Γ w o K
def AV.LD:AV->Bool
 | .at .skip=>true
 |_=>false
def bW (w:WS) (o:Oper) (K:AV->WS->Prop):Prop:=
 match o.op with
 | .buildSlice t len parts=>Dw (Ut T w.st t len parts) λv=>K v w
 | .build t parts=>Dw (Qb T w.st t parts) λv=>K v w
 |_=>qW T Γ w o K
def eV (ops:Array Oper) (w:WS) (o:Oper) (run:(AV->WS->Prop)->WS->Prop) (K:WS->Prop):Prop:=
 match o.guard with
 |none=>run (λv w'=>K (w'.qb o v)) w
 |some (j,want)=>Dw ((ops[j]?).bind (·.dst)) λt=>match (w.st.get t).LD with
  |true=>K (w.put o.dst (.at .skip))
  |false=>brT w t λb w'=>match b,want with
   |true,true=>run (λv pa=>K (pa.qb o v)) w'
   |false,false=>run (λv pa=>K (pa.qb o v)) w'
   |_,_=>K (w'.put o.dst (.at .skip))
def XF (ops:Array Oper):List Oper->WS->(WS->Prop)->Prop
 | [],w,K=>K w
 |o::r,w,K=>eV ops w o (λk w'=>TS T Γ w' o k) λw'=>XF ops r w' K
def KS (ops:Array Oper):List Nat->WS->(WS->Prop)->Prop
 | [],w,K=>K w
 |i::r,w,K=>Dw ops[i]? λo=>eV ops w o (λk w'=>TS T Γ w' o k) λw'=>KS ops r w' K
def ri (ops:Array Oper):List Nat->WS->(WS->Prop)->Prop
 | [],w,K=>K w
 |i::r,w,K=>Dw ops[i]? λo=>eV ops w o (λk w'=>bW T Γ w' o k) λw'=>ri ops r w' K
def PC:List Nat->(Nat->Prop)->Prop
 | [],_=>True
 | [i],P=>P i
 |i::j::r,P=>P i/\PC (j::r) P
def EJ (ops:Array Oper):Nat->Array Bool->WS->(WS->Prop)->Prop
 |0,Ac,w,K=>match Region.ready .any ops Ac with
  | []=>K w
  |_::_=>False
 |f+1,Ac,w,K=>match Region.ready .any ops Ac with
  | []=>False
  |i::r=>PC (i::r) λk=>Dw ops[k]? λo=>eV ops w o (λkk w'=>TS T Γ w' o kk) λw'=>EJ ops f (Ac.setIfInBounds k true) w' K
def YT:AC->Type->Type
 | .data _ τ _,R=>τ.den×R
 | .sub _ _ _,R=>Nat×R
 | .Fo _ _,R=>Nat×R
 | .Fk _ _ _,R=>Nat×Nat×R
 |_,R=>R
def yH:List AC->Type->Type
 | [],R=>R
 |c::r,R=>YT c (yH r R)
def YU:AV->Type->Type
 | .at a,R=>YT a R
 | .agg cs,R=>yH cs R
 | .Um _ τ _,R=>τ.den×R
 | .Ht _,R=>R
def obV:OB->Type->Type
 | .arr _ _ e _ _,R=>List e.den×R
 | .Cz e _ _,R=>List e.den×R
 | .var _ vs,R=>yH vs R
 | .Ah e _ _ _ none,R=>List (List e.den)×R
 | .Ah e _ _ _ (some _),R=>List (List e.den)×(Nat×R)
 | .Oj v _,R=>(ByteArray->Option v.den)×R
def lg:List AV->Type->Type
 | [],R=>R
 |v::r,R=>YU v (lg r R)
def rj:List (Nat×OB)->Type->Type
 | [],R=>R
 |p::r,R=>obV p.2 (rj r R)
def stV (s:St):Type:=lg s.tmps (rj s.heap Unit)
def CJ:(c:AC)-> {R:Type} ->R->YT c R
 | .data _ _ x,_,r=>(x,r)
 | .undef,_,r=>r
 | .skip,_,r=>r
 | .Hf,_,r=>r
 | .Pp,_,r=>r
 | .own _ _ _,_,r=>r
 | .Dn _ _,_,r=>r
 | .Fo _ i,_,r=>(i,r)
 | .clo _ _,_,r=>r
 | .Fw _,_,r=>r
 | .sub _ i _,_,r=>(i,r)
 | .Fk _ i j,_,r=>(i,j,r)
def mq:(l:List AC)-> {R:Type} ->R->yH l R
 | [],_,r=>r
 |c::l,_,r=>CJ c (mq l r)
def RV:(c:AV)-> {R:Type} ->R->YU c R
 | .at a,_,r=>CJ a r
 | .agg cs,_,r=>mq cs r
 | .Um _ _ x,_,r=>(x,r)
 | .Ht _,_,r=>r
def TQ:(b:OB)-> {R:Type} ->R->obV b R
 | .arr _ _ _ _ xs,_,r=>(xs,r)
 | .Cz _ _ xs,_,r=>(xs,r)
 | .var _ vs,_,r=>mq vs r
 | .Ah _ _ rows _ none,_,r=>(rows,r)
 | .Ah _ _ rows _ (some p),_,r=>(rows,p.2,r)
 | .Oj _ m,_,r=>(m,r)
def mf:(l:List AV)-> {R:Type} ->R->lg l R
 | [],_,r=>r
 |c::l,_,r=>RV c (mf l r)
def m5:(l:List (Nat×OB))-> {R:Type} ->R->rj l R
 | [],_,r=>r
 |p::l,_,r=>TQ p.2 (m5 l r)
def DZ (s:St):stV s:=mf s.tmps (m5 s.heap ())
def jd:(c d:AC)-> {R:Type} ->R->Option (YT c R)
 | .data fr τ _, .data Ov Iu x,_,r=>if h:Iu=τ/\Ov=fr then some (h.1▸x,r) else none
 | .undef, .undef,_,r=>some r
 | .skip, .skip,_,r=>some r
 | .Hf, .Hf,_,r=>some r
 | .Pp, .Pp,_,r=>some r
 | .own l _ _, .own l' _ _,_,r=>if l=l' then some r else none
 | .Dn l i, .Dn l' i',_,r=>if l=l'/\i=i' then some r else none
 | .Fo l _, .Fo l' i',_,r=>if l=l' then some (i',r) else none
 | .clo f c, .clo f' c',_,r=>if f=f'/\c=c' then some r else none
 | .Fw l, .Fw l',_,r=>if l=l' then some r else none
 | .sub l _ c, .sub l' i' c',_,r=>if l=l'/\c=c' then some (i',r) else none
 | .Fk l _ _, .Fk l' i' j',_,r=>if l=l' then some (i',j',r) else none
 |_,_,_,_=>none
def Ls:(l m:List AC)-> {R:Type} ->R->Option (yH l R)
 | [],[],_,r=>some r
 |c::l,d::m,_,r=>(Ls l m r).bind λr'=>jd c d r'
 |_,_,_,_=>none
def fw:(c d:AV)-> {R:Type} ->R->Option (YU c R)
 | .at a, .at b,_,r=>jd a b r
 | .agg cs, .agg ds,_,r=>Ls cs ds r
 | .Um fr τ _, .Um Ov Iu x,_,r=>if h:Iu=τ/\Ov=fr then some (h.1▸x,r) else none
 |_,_,_,_=>none
def Mm:(b d:OB)-> {R:Type} ->R->Option (obV b R)
 | .arr fr tr e tid _, .arr Ov NV e' Nr xs,_,r=>if h:e'=e/\Ov=fr/\NV=tr/\Nr=tid then some (h.1▸xs,r) else none
 | .Cz e tid _, .Cz e' Nr xs,_,r=>if h:e'=e/\Nr=tid then some (h.1▸xs,r) else none
 | .Oj v _, .Oj v' m,_,r=>if h:v'=v then some (h▸m,r) else none
 | .var t vs, .var t' us,_,r=>if t'=t then Ls vs us r else none
 | .Ah e te _ out none, .Ah e' Kz rows bC none,_,r=>if h:e'=e/\Kz=te/\bC=out then some (h.1▸rows,r) else none
 | .Ah e te _ out (some p), .Ah e' Kz rows bC (some p'),_,r=>if h:e'=e/\Kz=te/\bC=out/\p'.1=p.1 then some (h.1▸rows,p'.2,r) else none
 |_,_,_,_=>none
def Jj:(l m:List AV)-> {R:Type} ->R->Option (lg l R)
 | [],[],_,r=>some r
 |c::l,d::m,_,r=>(Jj l m r).bind λr'=>fw c d r'
 |_,_,_,_=>none
def Ki:(l m:List (Nat×OB))-> {R:Type} ->R->Option (rj l R)
 | [],[],_,r=>some r
 |p::l,q::m,_,r=>if q.1=p.1 then (Ki l m r).bind λr'=>Mm p.2 q.2 r' else none
 |_,_,_,_=>none
def cZ (s t:St):Option (stV s):=(Ki s.heap t.heap ()).bind λr=>Jj s.tmps t.tmps r
def fo:(c:AC)-> {R:Type} ->YT c R->AC×R
 | .data fr τ _,_,v=>(.data fr τ v.1,v.2)
 | .undef,_,r=>(.undef,r)
 | .skip,_,r=>(.skip,r)
 | .Hf,_,r=>(.Hf,r)
 | .Pp,_,r=>(.Pp,r)
 | .own l off len,_,r=>(.own l off len,r)
 | .Dn l i,_,r=>(.Dn l i,r)
 | .Fo l _,_,v=>(.Fo l v.1,v.2)
 | .clo f c,_,r=>(.clo f c,r)
 | .Fw l,_,r=>(.Fw l,r)
 | .sub l _ c,_,v=>(.sub l v.1 c,v.2)
 | .Fk l _ _,_,v=>(.Fk l v.1 v.2.1,v.2.2)
def Th:(l:List AC)-> {R:Type} ->yH l R->List AC×R
 | [],_,r=>([],r)
 |c::l,_,v=>((fo c v).1::(Th l (fo c v).2).1,(Th l (fo c v).2).2)
def mD:(c:AV)-> {R:Type} ->YU c R->AV×R
 | .at a,_,v=>(.at (fo a v).1,(fo a v).2)
 | .agg cs,_,v=>(.agg (Th cs v).1,(Th cs v).2)
 | .Um fr τ _,_,v=>(.Um fr τ v.1,v.2)
 | .Ht l,_,r=>(.Ht l,r)
def nO:(b:OB)-> {R:Type} ->obV b R->OB×R
 | .arr fr tr e tid _,_,v=>(.arr fr tr e tid v.1,v.2)
 | .Cz e tid _,_,v=>(.Cz e tid v.1,v.2)
 | .Oj w _,_,v=>(.Oj w v.1,v.2)
 | .var t vs,_,v=>(.var t (Th vs v).1,(Th vs v).2)
 | .Ah e te _ out none,_,v=>(.Ah e te v.1 out none,v.2)
 | .Ah e te _ out (some p),_,v=>(.Ah e te v.1 out (some (p.1,v.2.1)),v.2.2)
def Pk:(l:List AV)-> {R:Type} ->lg l R->List AV×R
 | [],_,r=>([],r)
 |c::l,_,v=>((mD c v).1::(Pk l (mD c v).2).1,(Pk l (mD c v).2).2)
def Yn:(l:List (Nat×OB))-> {R:Type} ->rj l R->List (Nat×OB)×R
 | [],_,r=>([],r)
 |p::l,_,v=>((p.1,(nO p.2 v).1)::(Yn l (nO p.2 v).2).1,(Yn l (nO p.2 v).2).2)
def cY (s:St) (v:stV s):St:= {tmps:=(Pk s.tmps v).1,heap:=(Yn s.heap (Pk s.tmps v).2).1}
def lenOf (H:List (Nat×OB)) (l:Nat):Nat:=match Ad H l with|some (.arr _ _ _ _ xs)=>xs.length|some (.Cz _ _ xs)=>xs.length|some (.Ah _ _ rows _ _)=>rows.length|_=>0
def Sm (ps:List Nat):List AV->List (Nat×Nat×Nat)
 | []=> []
 | .at (.own l off len)::r=>if ps.contains l then (l,off,len)::Sm ps r else Sm ps r
 |_::r=>Sm ps r
def XD:List (Nat×Nat×Nat)->Nat->Nat
 | [],_=>0
 |(k,o,_)::r,l=>if k=l then o else XD r l
def FL:List (Nat×Nat×Nat)->List (Nat×OB)->Nat->Nat
 | [],H,l=>lenOf H l
 |(k,_,n)::r,H,l=>if k=l then n else FL r H l
def aO (B:List (Nat×Nat×Nat)) (H:List (Nat×OB)):AC->AC
 | .own l _ _=> .own l (XD B l) (FL B H l)
 |c=>c
def St.whole (B:List (Nat×Nat×Nat)) (s:St):St:=s.Gf (aO B s.heap)
def sy (B:List (Nat×Nat×Nat)) (H:List (Nat×OB)) (c:AC) (K:Prop):Prop:=match c with
 | .own l off len=>off=XD B l/\len=FL B H l/\K
 |_=>K
def Xx (B:List (Nat×Nat×Nat)) (H:List (Nat×OB)):List AC->Prop->Prop
 | [],K=>K
 |c::r,K=>sy B H c (Xx B H r K)
def CQ (B:List (Nat×Nat×Nat)) (H:List (Nat×OB)) (c:AV) (K:Prop):Prop:=match c with
 | .at a=>sy B H a K
 | .agg cs=>Xx B H cs K
 | .Um _ _ _=>K
 | .Ht _=>False
def Ul (B:List (Nat×Nat×Nat)) (H:List (Nat×OB)):List AV->Prop->Prop
 | [],K=>K
 |c::r,K=>CQ B H c (Ul B H r K)
def dA (B:List (Nat×Nat×Nat)) (H:List (Nat×OB)):List (Nat×OB)->Prop->Prop
 | [],K=>K
 |p::r,K=>match p.2 with
  | .var _ vs=>Xx B H vs (dA B H r K)
  |_=>dA B H r K
def ux (B:List (Nat×Nat×Nat)) (s:St) (K:Prop):Prop:=Ul B s.heap s.tmps (dA B s.heap s.heap K)
def AV.Qj:AV->Bool
 | .at (.data _ _ _)=>true
 |_=>false
def Hk (p:Nat->Bool):Nat->List AV->List Bool
 |_,[]=> []
 |i,v::r=>(v.Qj&&p i)::Hk p (i+1) r
def stays (live:Nat->List Nat) (c:Code) (t:Nat):Bool:=!(writes c).contains t&&Vd live c t
def Ny:List Bool->List AV->List AV
 |true::f,_::r=> .undef::Ny f r
 |false::f,v::r=>v::Ny f r
 |_,l=>l
def Pc:List Bool->List AV->List AV->List AV
 |true::f,a::s,_::r=>a::Pc f s r
 |false::f,_::s,v::r=>v::Pc f s r
 |_,_,l=>l
def St.mask (fx:List Bool) (s:St):St:= {tmps:=Ny fx s.tmps,heap:=s.heap}
def St.pR (fx:List Bool) (s0 s:St):St:= {tmps:=Pc fx s0.tmps s.tmps,heap:=s.heap}
def lY (c:AC) (k:AC->Prop):Prop:=match c with
 | .undef=>k .undef
 | .skip=>k .skip
 | .Hf=>k .Hf
 | .Pp=>k .Pp
 | .data fr τ x=>match fr with
  |true=>k (.data true τ x)
  |false=>k (.data false τ x)
 | .own l off len=>k (.own l off len)
 | .Dn l i=>k (.Dn l i)
 | .Fo l i=>k (.Fo l i)
 | .clo f c=>k (.clo f c)
 | .Fw l=>k (.Fw l)
 | .sub l i c=>k (.sub l i c)
 | .Fk l i c=>k (.Fk l i c)
def cd:List AC->(List AC->Prop)->Prop
 | [],k=>k []
 |c::r,k=>lY c λc'=>cd r λr'=>k (c'::r')
def sU (c:AV) (k:AV->Prop):Prop:=match c with
 | .at a=>lY a λa'=>k (.at a')
 | .agg cs=>cd cs λbZ=>k (.agg bZ)
 | .Um fr τ x=>k (.Um fr τ x)
 | .Ht l=>k (.Ht l)
def cf:List AV->(List AV->Prop)->Prop
 | [],k=>k []
 |c::r,k=>sU c λc'=>cf r λr'=>k (c'::r')
def sV (b:OB) (k:OB->Prop):Prop:=match b with
 | .arr fr tr e tid xs=>match fr,tr with
  |true,true=>k (.arr true true e tid xs)
  |true,false=>k (.arr true false e tid xs)
  |false,true=>k (.arr false true e tid xs)
  |false,false=>k (.arr false false e tid xs)
 | .Cz e tid xs=>k (.Cz e tid xs)
 | .var t vs=>cd vs λvs'=>k (.var t vs')
 | .Ah e te rows out kp=>match out,kp with
  |none,none=>k (.Ah e te rows none none)
  |none,some (l,n)=>k (.Ah e te rows none (some (l,n)))
  |some i,none=>k (.Ah e te rows (some i) none)
  |some i,some (l,n)=>k (.Ah e te rows (some i) (some (l,n)))
 | .Oj v m=>k (.Oj v m)
def mV:List (Nat×OB)->(List (Nat×OB)->Prop)->Prop
 | [],k=>k []
 |(l,b)::r,k=>sV b λb'=>mV r λr'=>k ((l,b')::r')
def jt (w:WS) (k:WS->Prop):Prop:=cf w.st.tmps λt=>mV w.st.heap λh=>k {kn:=w.kn,st:= {tmps:=t,heap:=h} }
def js (s:St) (k:St->Prop):Prop:=cf s.tmps λt=>mV s.heap λh=>k {tmps:=t,heap:=h}
def dx:List Bool->(List Bool->Prop)->Prop
 | [],k=>k []
 |true::r,k=>dx r λr'=>k (true::r')
 |false::r,k=>dx r λr'=>k (false::r')
theorem kF {c:AC} {k:AC->Prop} :lY c k↔k c:=by
 cases c<;>simp only [lY]
 split<;>rfl
theorem a5: ∀ {l:List AC} {k:List AC->Prop},cd l k↔k l
 | [],k=>Iff.rfl
 |c::r,k=>by simp only [cd];rw [kF,a5]
theorem w9 {c:AV} {k:AV->Prop} :sU c k↔k c:=by
 cases c<;>simp only [sU]
 ·exact kF
 ·exact a5
theorem a6: ∀ {l:List AV} {k:List AV->Prop},cf l k↔k l
 | [],k=>Iff.rfl
 |c::r,k=>by simp only [cf];rw [w9,a6]
theorem wa {b:OB} {k:OB->Prop} :sV b k↔k b:=by
 cases b<;>simp only [sV]
 ·split<;>rfl
 ·exact a5
 ·split<;>rfl
theorem fG: ∀ {l:List (Nat×OB)} {k:List (Nat×OB)->Prop},mV l k↔k l
 | [],k=>Iff.rfl
 |(l,b)::r,k=>by simp only [mV];rw [wa,fG]
theorem EU {s:St} {k:St->Prop} :js s k=k s:=by
 unfold js
 exact propext (by rw [a6,fG])
theorem fF: ∀ {l:List Bool} {k:List Bool->Prop},dx l k=k l
 | [],k=>rfl
 |true::r,k=>by simp only [dx];rw [fF]
 |false::r,k=>by simp only [dx];rw [fF]
theorem a7 {w:WS} {k:WS->Prop} :jt w k↔k w:=by
 unfold jt
 rw [a6,fG]
def Up:AC->List (Nat×Nat)
 | .own _ off len=> [(off,len)]
 |_=> []
def Ur:AV->List (Nat×Nat)
 | .at a=>Up a
 | .agg cs=>cs.flatMap Up
 |_=> []
def fV:OB->List (Nat×Nat)
 | .var _ vs=>vs.flatMap Up
 |_=> []
def BK (s:St):List (Nat×Nat):=s.tmps.flatMap Ur++s.heap.flatMap λp=>fV p.2
def eqW (s0 s:St):Prop:=BK s=BK s0/\Dw (cZ s0 s) λv=>v=DZ s0
def jr (ops:Array Oper):Nat->Array Bool->WS->(WS->Prop)->Prop
 |0,Ac,w,K=>match Region.ready .any ops Ac with
  | []=>K w
  |_::_=>False
 |f+1,Ac,w,K=>match Region.ready .any ops Ac with
  | []=>False
  |k::_=>Dw ops[k]? λo=>eV ops w o (λkk w'=>TS T Γ w' o kk) λw'=>jr ops f (Ac.setIfInBounds k true) w' K
def vG (P:List (Nat×Nat×AV×OB)) (ops:Array Oper):Nat->Array Bool->WS->(WS->Prop)->Prop
 |0,Ac,w,K=>match Region.ready .any ops Ac with
  | []=>K w
  |_::_=>False
 |f+1,Ac,w,K=>match Region.ready .any ops Ac with
  | []=>False
  |i::r=>PC (i::r) λk=>Dw ops[k]? λo=>match zN P Γ ops w.st o k with
   |true=>eV ops w o (λkk w'=>TS T Γ w' o kk) λw'=>vG P ops f (Ac.setIfInBounds k true) w' K
   |false=>False
def sG (P:List (Nat×Nat×AV×OB)) (n:Nat) (L0:Array Bool) (ops:Array Oper) (w:WS) (K:WS->Prop):Prop:=
 match (Ss (P.map (·.1))&&Ss (P.map (·.2.1)))&&((P.all λa=>jI a.2.1 w.st)&&(Nat.ble P.length n&&Nat.ble (n-P.length) 10)) with
 |true=>KS T Γ ops (P.map (·.1)) w λw1=>jt w1 λw1=>jr T Γ ops (n-P.length) (Ec (P.map (·.1)) L0) w1 λw0=>jt w0 λw0=>K w0/\vG T Γ P ops (n-P.length) (Ec (P.map (·.1)) L0) w1 λw2=>eqW w0.st w2.st
 |false=>False
def ub (ops:Array Oper) (draw:Bool) (w:WS) (K:WS->Prop):Prop:=
 match draw with
 |true=>match dK false Γ ops with
  |true=>ri T Γ ops (dz false Γ ops) w λw'=>KS T Γ ops (Ew false Γ ops) w' K
  |false=>match dK true Γ ops with
   |true=>ri T Γ ops (dz true Γ ops) w λw'=>KS T Γ ops (Ew true Γ ops) w' K
   |false=>match Region.noSelect ops&&Nat.ble (ops.size-(Kb ops).length) 8 with
    |true=>ri T Γ ops (Kb ops) w λw'=>match dv false ops with
     |true=>EJ T Γ ops (ops.size-(Kb ops).length) (Ec (Kb ops) (Array.replicate ops.size false)) w' K
     |false=>jr T Γ ops (ops.size-(Kb ops).length) (Ec (Kb ops) (Array.replicate ops.size false)) w' λw0=>jt w0 λw0=>K w0/\EJ T Γ ops (ops.size-(Kb ops).length) (Ec (Kb ops) (Array.replicate ops.size false)) w' λw1=>eqW w0.st w1.st
    |false=>match Region.noSelect ops with
     |true=>ri T Γ ops (Kb ops) w λw'=>sG T Γ (Rq T ops (Ec (Kb ops) (Array.replicate ops.size false))) (ops.size-(Kb ops).length) (Ec (Kb ops) (Array.replicate ops.size false)) ops w' K
     |false=>False
 |false=>XF T Γ ops ops.toList w K
def Yb (live:Nat->List Nat):Code->WS->(Gr->WS->Prop)->Prop
 | .skip,w,Q=>Q .normal w
 | .label _,w,Q=>Q .normal w
 | .region _ ops draw,w,Q=>ub T (ua Γ draw) ops draw {w with st:=w.st.gM ops} λw'=>jt w' (Q .normal)
 | .seq a b,w,Q=>Yb live a w λe w'=>match e with
  | .normal=>Yb live b w' Q
  | .exit id=>Q (.exit id) w'
  | .ret=>Q .ret w'
 | .cond c a b,w,Q=>brO w c λt w'=>match t with
  |true=>Yb live a w' Q
  |false=>Yb live b w' Q
 | .block id c,w,Q=>Yb live c w λe w'=>match e with
  | .normal=>Q .normal w'
  | .exit FI=>if FI=id then Q .normal w' else Q (.exit FI) w'
  | .ret=>Q .ret w'
 | .loop c,w,Q=>
  js (w.st.clean (live (Cc c))) λs0=>dx (Hk (stays live c) 0 s0.tmps) λfx=>js (s0.mask fx) λm=>
  ux (Sm T.parts s0.tmps) s0 (Bm (V:=stV m) (λv k=>js ((St.pR fx s0 (cY m v)).whole (Sm T.parts s0.tmps)) λsb=>Yb live c ⟨[],sb⟩ λe w'=>match e with
   | .normal=>js (w'.st.clean (live (Cc c))) λs1=>ux (Sm T.parts s0.tmps) s1 (Dw (cZ m (s1.mask fx)) k)
   | .exit id=>Q (.exit id) w'
   | .ret=>Q .ret w') (DZ m))
 | .exit id,w,Q=>Q (.exit id) w
 | .ret,w,Q=>Q .ret w
 |_,_,_=>False
def UK (s:Spec) (fn:Func) (P:s.res.den->Prop) (st:St):Prop:=
 Dw (gV T s fn st) λp=>match p.1||!s.fresh with|true=>P p.2|false=>False
def cv (st:St) (K:Prop):List AC->List (Bool×CK)->Prop
 | .own l off len::as,(true,_)::r=>match st.at l with
  |some (.arr _ _ _ _ xs)=>(off=0/\len=xs.length)/\cv st K as r
  |some (.Cz _ _ xs)=>(off=0/\len=xs.length)/\cv st K as r
  |_=>False
 |_::as,(false,_)::r=>cv st K as r
 |_,_=>K
def jK (st:St):(cs:List CK)->List AC->(CKs.den cs->List Nat->Prop)->Prop
 | [],[],K=>K () []
 | .Ah e te _::r, .own l off len::as,K=>match st.at l with
  |some (.Ah e' Kz rows none _)=>if h:e'=e/\Kz=te then (off=0/\len=rows.length)/\jK st r as λy t=>K ((h.1▸rows:List (List e.den)),y) (l::t) else False
  |_=>False
 |c::r,a::as,K=>Dw (ef st c a) λp=>jK st r as λy t=>K (p.1,y) (p.2++t)
 |_,_,_=>False
def tA (st:St) (n:Nat) (as:List AC):List (Nat×Nat)->Prop->Prop
 | [],K=>K
 |(k,j)::r,K=>match as[j]? with
  |some (.own l _ _)=>match st.at l with
   |some (.Ah _ _ _ _ (some p))=>match Nat.beq p.1 (Bq false k)&&Nat.blt k 1000 with
    |true=>n<=p.2/\tA st n as r K
    |false=>False
   |_=>False
  |_=>False
def o8 (s:MSpec) (fn:Func) (x:Ins.den s.ins) (st:St) (cs:List AC) (P:CKs.den s.outs×IOs.den s.ins->Prop):Prop:=
 Dw (Xr T st fn.results.toList) λl=>Dw (AO s st l) λp=>jK st s.outs (cs++p.1) λr ls=>Dw (Jb st 0 s.ins) λo=>
  match Ss (p.2++ls++Jz 0 s.ins)&&Nat.blt s.ins.length 1000&&Nat.blt s.outs.length 1000&&s.LQ with
  |true=>tA st (s.Ci x) (cs++p.1) s.keeps (P (r,o))
  |false=>False
def DW (s:MSpec) (fn:Func) (x:Ins.den s.ins) (st:St) (P:CKs.den s.outs×IOs.den s.ins->Prop):Prop:=
 match s.ptr with
 |none=>o8 T s fn x st [] P
 |some p=>match st.at Jk with
  |some (.var tid vs)=>match Nat.beq tid p.1&&Nat.beq vs.length p.2 with
   |true=>Dw (Er 0 s.ins vs) λcs=>cv st (o8 T s fn x st cs P) vs s.ins
   |false=>False
  |_=>False
@[irreducible] def fnMW (s:MSpec) (fn:Func) (x:Ins.den s.ins) (P:CKs.den s.outs×IOs.den s.ins->Prop):Prop:=
 match Nat.blt s.ins.length 1000&&u5 s with
 |false=>False
 |true=>Dw fn.body λc=>Yb T Γ (tF T.marks fn c) c {kn:= [],st:= {tmps:=Td s (Vc 0 s.ins x)++List.replicate (fn.ntmps-(Td s (Vc 0 s.ins x)).length) .undef,heap:=kL s x} } λe w=>match e with
  | .normal=>DW T s fn x w.st P
  | .ret=>DW T s fn x w.st P
  | .exit _=>False
@[irreducible] def fnW (s:Spec) (fn:Func) (x:s.arg.den) (P:s.res.den->Prop):Prop:=
 Dw fn.body λc=>Yb T Γ (tF T.marks fn c) c {kn:= [],st:= {tmps:=Mh s.arg x++List.replicate (fn.ntmps-(Mh s.arg x).length) .undef,heap:= []} } λe w=>match e with
  | .normal=>UK T s fn P w.st
  | .ret=>UK T s fn P w.st
  | .exit _=>False
end Go.Proofs.YtfolipnappekaaaGreat
