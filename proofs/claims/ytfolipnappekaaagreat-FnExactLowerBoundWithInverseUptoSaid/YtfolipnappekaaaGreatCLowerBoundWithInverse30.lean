/-
  Part 31 of the proof that the statement FnExactLowerBoundWithInverse holds.
-/
import Derived.Test.YtfolipnappekaaaGreatCLowerBoundWithInverse29
namespace Go.Proofs.YtfolipnappekaaaGreat
open Go.RowKit
inductive Br (b:Bool) (A B:Prop):Prop
 |mk (t:b=true->A) (f:b=false->B)
inductive Bm {V:Type} (step:V->(V->Prop)->Prop) (v0:V):Prop
 |mk (I:V->Prop) (μ:V->Nat) (h0:I v0) (h: ∀v,I v->step v (λv'=>I v'/\μ v'<μ v))
structure WS where
 kn:List (Nat×Bool)
 st:St
def pP:List (Nat×Bool)->Nat->Option Bool
 | [],_=>none
 |(k,b)::r,t=>if k=t then some b else pP r t
def rI:List (Nat×Bool)->Nat->List (Nat×Bool)
 | [],_=> []
 |(k,b)::r,t=>if k=t then rI r t else (k,b)::rI r t
def WS.put (w:WS) (dst:Option Tmp) (v:AV):WS:=
 match dst with
 |some d=> {kn:=rI w.kn d,st:=w.st.put (some d) v}
 |none=>w
def Pd (kn:List (Nat×Bool)):Operand->Option Bool
 | .const (.bool b)=>some b
 | .tmp t=>pP kn t
 |_=>none
def Dj (kn:List (Nat×Bool)) (o:Oper):Option Bool:=
 match o.op with
 | .assign x=>Pd kn x
 | .move x=>Pd kn x
 | .unOp .not _ x=>(Pd kn x).map (!·)
 | .pick c a b=>match Pd kn c with
  |some true=>Pd kn a
  |some false=>Pd kn b
  |none=>none
 |_=>none
def WS.qe (w:WS) (o:Oper) (v:AV):WS:=
 match o.dst,Dj w.kn o with
 |some d,some b=>match (w.st.put (some d) v).get d with
  | .at (.data _ .bool _)=> {kn:=(d,b)::rI w.kn d,st:=w.st.put (some d) v}
  |_=>w.put (some d) v
 |dst,_=>w.put dst v
def WS.to (w:WS) (st:St):WS:= {kn:=w.kn,st:=st}
def brT (w:WS) (t:Nat) (K:Bool->WS->Prop):Prop:=
 match pP w.kn t with
 |some b=>K b w
 |none=>match w.st.get t with
  | .at (.data _ .bool b)=>Br b (K true {kn:=(t,true)::w.kn,st:=w.st}) (K false {kn:=(t,false)::w.kn,st:=w.st})
  |_=>False
def brO (w:WS) (c:Operand) (K:Bool->WS->Prop):Prop:=
 match c with
 | .tmp t=>brT w t K
 | .const (.bool b)=>K b w
 |_=>False
def Dy {α:Type} (o:Option α) (K:α->Prop):Prop:=match o with|some x=>K x|none=>False
def YC (T:Tab) (st:St) (t:TypeId) (x:AV) (l h:Int):Option AV:=
 match x with
 | .at (.data fr (.slice e) xs)=>if (T.elem t).bind T.ty=some e then some (.at (.data fr (.slice e) ((xs.take h.toNat).drop l.toNat))) else none
 | .at (.own k off _)=>match st.at k with
  |some (.arr _ _ e tid _)=>if T.elem t=some tid/\T.ty tid=some e then some (.at (.own k (off+l.toNat) (h.toNat-l.toNat))) else none
  |_=>none
 | .at (.data _ .str s)=>if T.ty t=some .str then some (.at (.data true .str (s.extract l.toNat h.toNat))) else none
 |_=>none
variable (T:Tab) (Γ:Env)
def UO (op:BinOp) (t:TypeId) (x y:AV) (K:AV->Prop):Prop:=
 match op,x,y with
 | .quo, .at (.data _ (.int k) a), .at (.data _ (.int k') b)=>if k=k' then b≠0/\K (.at (.data true (.int k) (k.wrap (a.tdiv b)))) else False
 | .rem, .at (.data _ (.int k) a), .at (.data _ (.int k') b)=>if k=k' then b≠0/\K (.at (.data true (.int k) (a.tmod b))) else False
 | .shl, .at (.data _ (.int k) a), .at (.data _ (.int _) b)=> ¬b<0/\K (.at (.data true (.int k) (k.wrap (a*2^(min b.toNat k.bits)))))
 | .shr, .at (.data _ (.int k) a), .at (.data _ (.int _) b)=> ¬b<0/\K (.at (.data true (.int k) (a.fdiv (2^(min b.toNat k.bits)))))
 | .add, .at (.data _ .str a), .at (.data _ .str b)=>a.size+b.size<=4294967296/\K (.at (.data true .str (a++b)))
 |op,x,y=>Dy (Mx T op t x y) K
def LQ (st:St) (t:TypeId) (p:AV) (K:AV->Prop):Prop:=
 match p with
 | .at (.Fp l i)=>Dy (T.ty t) λτ=>match st.at l with
  |some (.arr fr _ e _ xs)=>if e=τ then ∃x,xs[i]?=some x/\K (.at (.data (fr||e.flat) e x)) else False
  |some (.Da e _ xs)=>if e=τ then ∃x,xs[i]?=some x/\K (if e.Ab then .agg (aP l i 0 e x) else .at ((aP l i 0 e x).headD .undef)) else False
  |some (.Ah _ _ _ none _)=>if τ.Ab then False else K (.at (.sub l i 0))
  |_=>False
 | .at (.data fr (.optr Iw) x)=>Dy (T.ty t) λτ=>if Iw=τ then ∃y,x=some y/\K (.at (.data (fr||Iw.flat) Iw y)) else False
 |p=>Dy (Ki T st t p) K
def fF (s:TypeId) (x:AV) (f:Nat) (K:AV->Prop):Prop:=
 match x with
 | .at (.data fr (.optr τ) x)=> ∃y,x=some y/\Dy (Ir T s (.at (.data fr (.ptr τ) y)) f) K
 |x=>Dy (Ir T s x f) K
def rT (st:St) (x:Operand) (K:AV->Prop) (d:Option AV):Prop:=
 match st.ev x with
 | .at (.data fr (.optr τ) x)=> ∃y,x=some y/\K (.at (.data fr (.ptr τ) y))
 |_=>Dy d K
def BA (st:St) (t:TypeId) (x:AV) (lo hi:Option AV) (K:AV->Prop):Prop:=
 Dy (wW x) λn=>Dy (IU lo 0) λl=>Dy (IU hi n) λh=>(0<=l/\l<=h/\h<=n)/\Dy (YC T st t x l h) K
def fQ (st:St) (t:TypeId) (x i:AV) (K:AV->Prop):Prop:=
 match x,i with
 | .at (.data fr (.slice e) xs), .at (.data _ (.int _) n)=>if (T.elem t).bind T.ty=some e then ∃x,idx xs n=some x/\K (.at (.data fr (.ptr e) x)) else False
 | .at (.own l off len), .at (.data _ (.int _) n)=>match st.at l with
  |some (.arr _ _ e tid _)=>if T.elem t=some tid/\T.ty tid=some e then (0<=n/\n<len)/\K (.at (.Fp l (off+n.toNat))) else False
  |some (.Da e tid _)=>if T.elem t=some tid/\T.ty tid=some e then (0<=n/\n<len)/\K (.at (.Fp l (off+n.toNat))) else False
  |some (.Ah _ te _ _ _)=>if T.elem t=some te/\(T.ty te).map Ty.size=some 1 then (0<=n/\n<len)/\K (.at (.Fp l (off+n.toNat))) else False
  |_=>False
 | .at (.sub l i _), .at (.data _ (.int _) n)=>match st.at l with
  |some (.Ah e _ rows none _)=>if ((T.elem t).bind T.ty).map Ty.size=some e.size then (0<=n/\n<(rows.getD i []).length)/\K (.at (.Fl l i n.toNat)) else False
  |_=>False
 |_,_=>False
def zv (t:TypeId) (x i:AV) (K:AV->Prop):Prop:=
 match x,i with
 | .at (.data _ .str s), .at (.data _ (.int _) n)=>if T.ty t=some .str then 0<=n/\ ∃b,s[n.toNat]?=some b/\K (.at (.data true (.int .u8) b.toNat)) else False
 |_,_=>False
def r6 (st:St) (f:FuncId) (args:List AV) (K:AV->Prop):Prop:=
 Dy (match Γ f with|some (.q s)=>some s|_=>none) λs=>match s.fresh||s.res.flat||args.all (·.settled) with
  |true=>Dy (Bp st s.arg args) λp=> ∃y,s.fn p.2=some y/\K (if s.Dh then .Uo (s.fresh||s.res.flat) s.res y else .at (.data (s.fresh||s.res.flat) s.res y))
  |false=>False
def yW (st:St) (v:AV) (args:List AV) (K:AV->Prop):Prop:=
 match v with
 | .at (.data fr (.clo f τ) x)=>match τ.chain with|true=>(match Nat.blt f 1000000000 with|true=>r6 Γ st f (args++Uv fr τ x) K|false=>r6 Γ st (f-1000000000) (Uv fr τ x++args) K)|false=>False
 | .at (.clo f Bv)=>r6 Γ st f (args++Bv.map λp=> .at (.Dp p.1 p.2)) K
 |_=>False
def qW (w:WS) (o:Oper) (K:AV->WS->Prop):Prop:=
 match o.op with
 | .pick c a b=>brO w c λt w'=>match t with|true=>K (w'.st.ev a) w'|false=>K (w'.st.ev b) w'
 | .load t a=>LQ T w.st t (w.st.ev a) λv=>K v w
 | .binOp op t x y _=>UO T op t (w.st.ev x) (w.st.ev y) λv=>K v w
 | .slice t x lo hi mx=>match mx with
  |none=>BA T w.st t (w.st.ev x) (lo.map w.st.ev) (hi.map w.st.ev) λv=>K v w
  |some _=>False
 | .indexAddr t x i=>fQ T w.st t (jR (w.st.ev x)) (w.st.ev i) λv=>K v w
 | .index t x i=>zv T t (w.st.ev x) (w.st.ev i) λv=>K v w
 | .call {callee:= .value (.func f),args, .. } =>r6 Γ w.st f (args.toList.map w.st.ev) λv=>K v w
 | .call {callee:= .value (.tmp t),args, .. } =>yW Γ w.st (w.st.get t) (args.toList.map w.st.ev) λv=>K v w
 | .fieldAddr s x f=>fF T s (w.st.ev x) f λv=>K v w
 | .nilCheck x=>rT w.st x (λv=>K v w) (Ch T Γ w.st o)
 |_=>Dy (Ch T Γ w.st o) λv=>K v w
def BP (st:St) (t:TypeId) (p v:AV) (K:St->Prop):Prop:=
 match p with
 | .at (.Fp l j)=>Dy (T.ty t) λτ=>Dy (settle st v) λq=>match q.2.at l with
  |some (.arr fr tr e tid xs)=>Dy (Cq q.2 τ q.1) λu=>if h:τ=e then j<xs.length/\K (q.2.Fk l (.arr (fr&&u.1) (tr&&(Ms st v&&e.tree)) e tid (xs.set j (h▸u.2)))) else False
  |_=>False
 |p=>Dy (Nv T st t p v) K
def EE (st:St) (t:TypeId) (p v:AV) (K:St->Prop):Prop:=
 match p with
 | .at (.Fl l i j)=>Dy (T.ty t) λτ=>Dy (settle st v) λq=>match q.2.at l with
  |some (.Ah e te rows none kp)=>Dy (Cq q.2 τ q.1) λu=>if h:τ=e then K (q.2.Fk l (.Ah e te (rows.set i ((rows.getD i []).set j (h▸u.2))) none kp)) else False
  |_=>False
 | .at (.Fp l j)=>Dy (T.ty t) λτ=>match st.at l,v with
  |some (.Ah e te rows out kp), .at (.own m off len)=>match st.at m with
   |some (.arr _ _ e' _ xs)=>if h:e'=e/\(Nat.blt l Ak&&(!Nat.beq m l&&!τ.Ab))=true then
     off=0/\len=xs.length/\(match out with|none=>True|some i=>i=j)/\K (Mw st l j m e te rows (h.1▸xs) (Vi j kp))
    else False
   |_=>False
  |_,_=>False
 |_=>False
def uF (st:St) (t:TypeId) (p v:AV) (K:St->Prop):Prop:=match DF st p with
 |true=>EE T st t p v K
 |false=>BP T st t p v K
def gH (st:St) (dst:Nat) (t:TypeId) (x y:Operand) (K:AV->St->Prop):Prop:=
 Dy (T.elem t) λte=>Dy (T.ty te) λe=>Dy (settle st (st.ev y)) λq=>Dy (Cq q.2 (.slice e) q.1) λu=>match q.2.ev x with
  | .at .Hi=>match Nat.blt dst Ak with
   |true=>List.length u.2<=Bj/\K (.at (.own dst 0 (List.length u.2))) ((q.2.new dst (.arr (T.mY||e.flat) T.uQ e te [])).new dst (.arr ((T.mY||e.flat)&&(u.1||e.flat)) (T.uQ&&(e.flat||(Ms st (st.ev y)&&e.tree))) e te u.2))
   |false=>False
  | .at (.own l off len)=>match q.2.at l with
   |some (.arr fr tr e' tid xs)=>if h:e'=e/\tid=te/\Nat.blt l Ak=true then
     off=0/\len=xs.length/\len+List.length u.2<=Bj/\K (.at (.own l 0 (List.length ((h.1▸xs:List e.den)++u.2)))) (q.2.new l (.arr (fr&&(u.1||e.flat)) (tr&&(e.flat||(Ms st (st.ev y)&&e.tree))) e te ((h.1▸xs:List e.den)++u.2)))
    else False
   |_=>False
  |_=>False
def mA (st:St) (dst:Nat) (t:TypeId) (x y:Operand) (K:AV->St->Prop):Prop:=
 match x with
 | .tmp tx=>match st.get tx with
  | .at (.sub l i _)=>Dy (T.elem t) λtid=>match st.at l with
   |some (.Ah e te rows none kp)=>match Nat.blt l Ak&&(Nat.blt dst Ak&&!Nat.beq dst l) with
    |true=>gH T ((Kh st l i dst e te tid rows kp).put (some tx) (.at (.own dst 0 (rows.getD i []).length))) dst t x y K
    |false=>False
   |_=>False
  |_=>gH T st dst t x y K
 |_=>gH T st dst t x y K
def LX (st:St) (dst:Nat) (t:TypeId) (l c:AV) (K:AV->St->Prop):Prop:=
 match l,c with
 | .at (.data _ (.int _) n), .at (.data _ (.int _) m)=>Dy (T.elem t) λte=>Dy (T.ty te) λe=>match aX e&&Nat.blt dst Ak with
  |true=>(0<=n/\n<Bj+1)/\n=m/\K (.at (.own dst 0 (List.replicate n.toNat e.zero).length)) (st.new dst (.arr (T.mY||e.flat) (T.uQ&&e.tree) e te (List.replicate n.toNat e.zero)))
  |false=>False
 |_,_=>False
def zJ (st:St) (dst:Nat) (t:TypeId) (l c:AV) (K:AV->St->Prop):Prop:=
 match Yp T t with
 |none=>LX T st dst t l c K
 |some p=>match l,c with
  | .at (.data _ (.int _) n), .at (.data _ (.int _) m)=>match Nat.blt dst Ak with
   |true=>(0<=n/\n<Bj+1)/\n=m/\K (.at (.own dst 0 (List.replicate n.toNat ([]:List p.2.den)).length)) (Kv st dst dst (.Ah p.2 p.1 (List.replicate n.toNat []) none none))
   |false=>False
  |_,_=>False
def Zz (st:St) (dst:Nat) (t:TypeId) (len:Nat) (parts:Array (Nat×Operand)) (K:AV->St->Prop):Prop:=
 match Yp T t with
 |none=>Dy (Hl T st dst t len parts) λr=>K r.1 r.2
 |some p=>match parts.toList with
  | [(0,x)]=>match st.ev x with
   | .at (.own m off ln)=>match st.at m with
    |some (.arr _ _ e' _ xs)=>if h:e'=p.2/\(Nat.beq len 1&&(Nat.blt dst Ak&&Nat.blt m Ak))=true then off=0/\ln=xs.length/\K (.at (.own dst 0 1)) (Kv st dst m (.Ah p.2 p.1 [h.1▸xs] none none)) else False
    |_=>False
   |_=>False
  |_=>False
def mC (st:St) (dst:Nat) (t:TypeId) (x y:Operand) (K:AV->St->Prop):Prop:=
 match Yp T t with
 |none=>mA T st dst t x y K
 |some p=>match st.ev x,st.ev y with
  | .at (.own l off len), .at (.own m ME nE)=>match st.at l,st.at m with
   |some (.Ah e1 te1 A none _),some (.Ah e2 qC B none _)=>
    if h:(e1=p.2/\e2=p.2)/\(decide (te1=p.1)&&decide (qC=p.1)&&(Nat.blt l Ak&&(Nat.blt m Ak&&!Nat.beq m l)))=true then
     (off=0/\len=A.length)/\(ME=0/\nE=B.length)/\0<B.length/\A.length+B.length<=Bj/\
      K (.at (.own l 0 (List.length ((h.1.1▸A:List (List p.2.den))++(h.1.2▸B:List (List p.2.den)))))) (Kv st l m (.Ah p.2 p.1 ((h.1.1▸A:List (List p.2.den))++(h.1.2▸B:List (List p.2.den))) none none))
    else False
   |_,_=>False
  |_,_=>False
def aS (st:St) (io:Bool) (k:Nat):(c:CK)->AC->(c.den->List (Nat×Loc)->Prop)->Prop
 | .Ee τ, .own l off len,K=>Dy (Bl st τ (.own l off len)) λp=>K p.2 [(Bq false k, .view l)]
 | .Ee τ, .clo g Bv,K=>match Vx st (Bv.map (·.1))&&!τ.Ab with
  |true=>Dy (Ff st τ (.clo g Bv)) λp=>K p.2 (views k (Bv.map (·.1)))
  |false=>False
 | .Ee τ, .Dp l i,K=>match Vx st [l]&&!τ.Ab with
  |true=>Dy (Ff st τ (.Dp l i)) λp=>K p.2 (views k [l])
  |false=>False
 | .Ee τ, .sub l i c,K=>Dy (Bl st τ (.sub l i c)) λp=>K p.2 [(Bq false k, .view l)]
 | .Ee τ,a,K=>match τ.flat||a.settled with
  |true=>Dy (Bl st τ a) λp=>K p.2 []
  |false=>False
 | .row e te, .own l off len,K=>match st.at l with
  |some (.arr _ _ e' La xs)=>if h:e'=e/\La=te then off=0/\len=xs.length/\K (h.1▸xs:List e.den) [(Bq io k, .row l)] else False
  |_=>False
 | .row e _, .sub l i c,K=>match st.at l with
  |some (.Da e' _ xs)=>if h:e'= .slice e/\e.flat=true/\io=true/\c=0 then ∃y,xs[i]?=some y/\K (h.1▸y:(Ty.slice e).den) [(Bq io k, .sub l i c)] else False
  |_=>False
 | .row _ _, .Hi,K=>K [] []
 | .Dq e te, .own l off len,K=>match st.at l with
  |some (.Da e' La xs)=>if h:e'=e/\La=te then off=0/\len=xs.length/\K (h.1▸xs:List e.den) [(Bq io k, .row l)] else False
  |_=>False
 | .Dq e _, .sub l i c,K=>match st.at l with
  |some (.Da e' _ xs)=>if h:e'= .slice e/\io=true/\c=0 then ∃y,xs[i]?=some y/\K (h.1▸y:(Ty.slice e).den) [(Bq io k, .sub l i c)] else False
  |_=>False
 | .Dq _ _, .Hi,K=>K [] []
 | .part e te, .own l off len,K=>match st.at l with
  |some (.arr _ _ e' La xs)=>if h:e'=e/\La=te/\e.flat=true/\io=true then K ((h.1▸xs:List e.den),off,len) [(Bq io k, .row l)] else False
  |_=>False
 | .Ah e te _, .own l off len,K=>match st.at l with
  |some (.Ah e' La rows none _)=>if h:e'=e/\La=te/\io=false then off=0/\len=rows.length/\K (h.1▸rows:List (List e.den)) [(Bq io k, .row l)] else False
  |_=>False
 |_,_,_=>False
def uP (st:St):(k:Nat)->(cs:List (Bool×CK))->List AC->(Ins.den cs->List (Nat×Loc)->Prop)->Prop
 |_,[],[],K=>K () []
 |k,p::r,a::as,K=>aS st p.1 k p.2 a λx t1=>uP st (k+1) r as λy t2=>K (x,y) (t1++t2)
 |_,_,_,_=>False
def l5 (st:St):(c:CK)->c.den->AC->(St->Prop)->Prop
 | .row e _,ys, .own l _ len,K=>match st.at l with
  |some (.arr fr tr e' te xs)=>if h:e=e' then (List.length ys=len/\xs.length=len)/\K (st.Fk l (.arr (fr&&e'.flat) (tr&&e'.flat) e' te (h▸ys))) else False
  |_=>False
 | .Dq e _,ys, .own l _ len,K=>match st.at l with
  |some (.Da e' te xs)=>if h:e=e' then (List.length ys=len/\xs.length=len)/\K (st.Fk l (.Da e' te (h▸ys))) else False
  |_=>False
 | .row e _,ys, .sub l i _,K=>match st.at l with
  |some (.Da e' te xs)=>if h: .slice e=e' then ∃y,xs[i]?=some y/\List.length ys=List.length (h▸y:(Ty.slice e).den)/\K (st.Fk l (.Da e' te (xs.set i (h▸(ys:(Ty.slice e).den))))) else False
  |_=>False
 | .Dq e _,ys, .sub l i _,K=>match st.at l with
  |some (.Da e' te xs)=>if h: .slice e=e' then ∃y,xs[i]?=some y/\List.length ys=List.length (h▸y:(Ty.slice e).den)/\K (st.Fk l (.Da e' te (xs.set i (h▸(ys:(Ty.slice e).den))))) else False
  |_=>False
 |_,_, .Hi,K=>K st
 |_,_,_,_=>False
def MR (st:St) (e:Ty) (ys:List e.den):AC->(St->Prop)->Prop
 | .own l _ _,K=>match st.at l with
  |some (.arr fr tr e' te xs)=>if h:e=e' then List.length ys=xs.length/\K (st.Fk l (.arr fr tr e' te (h▸ys))) else False
  |_=>False
 |_,_=>False
def cP:(cs:List (Bool×CK))->IOs.den cs->List AC->St->(St->Prop)->Prop
 | [],_,_,st,K=>K st
 |(true, .Ee _)::r,x,_::as,st,K=>cP r x as st K
 |(true, .row e te)::r,x,a::as,st,K=>l5 st (.row e te) x.1 a λst'=>cP r x.2 as st' K
 |(true, .Dq e te)::r,x,a::as,st,K=>l5 st (.Dq e te) x.1 a λst'=>cP r x.2 as st' K
 |(true, .part e _)::r,x,a::as,st,K=>MR st e x.1 a λst'=>cP r x.2 as st' K
 |(true, .Ah _ _ _)::r,x,_::as,st,K=>cP r x as st K
 |(false,_)::r,x,_::as,st,K=>cP r x as st K
 |_,_,_,_,_=>False
def oW (H:List (Nat×OB)) (ls:List Nat) (n:Nat):List AV->Prop->Prop
 | [],K=>K
 | .at (.sub l i _)::r,K=>match ls.contains l with
  |true=>(i<n/\i<m8 H l)/\oW H ls n r K
  |false=>oW H ls n r K
 |_::r,K=>oW H ls n r K
def yV (st:St) (dst:Option Nat) (s:MSpec) (args:List AV) (K:AV->St->Prop):Prop:=
 Dy (DZ st s args) λq=>Dy (ungroup s.Fc q.2.2) λja=>uP st 0 s.ins (q.2.1++ja) λx tks=>
  match Su (tks.map λt=>t.2.Pp)&&tF (Lu s tks (dst.getD 0)) (s.outs.length+(gf s (dst.getD 0)).length)&&Nat.blt s.outs.length 1000&&Nat.blt s.ins.length 1000&&(Oz s.ins q.2.1&&q.1.all λl=>!((tks.map λt=>t.2.Pp)++Lu s tks (dst.getD 0)).contains l) with
  |true=> ∃p,s.fn x=some p/\cP s.ins p.2 (q.2.1++ja) st λst1=>Dy (RE s (dst.getD 0) ((Vm (Bu (Lu s tks (dst.getD 0))) 0 s.outs p.1).drop s.Tf)) λv=>
    oW (fw st st1 (dst.getD 0) s q.1 tks p.1).heap (Vh st.heap (Lu s tks (dst.getD 0)) tks s.keeps) (s.Cj x) st.tmps
     (K v (fR st (fw st st1 (dst.getD 0) s q.1 tks p.1) (Vh st.heap (Lu s tks (dst.getD 0)) tks s.keeps) (s.Cj x)))
  |false=>False
def TY (w:WS) (o:Oper) (K:AV->WS->Prop):Prop:=
 match o.op with
 | .store t p x=>uF T w.st t (w.st.ev p) (w.st.ev x) λs=>K .undef (w.to s)
 | .makeSlice t l c=>Dy o.dst λd=>zJ T w.st d t (w.st.ev l) (w.st.ev c) λv s=>K v (w.to s)
 | .call {callee:= .builtin .append,args,argTypes} =>match o.dst,args.toList,argTypes.toList with
  |some d,[x,y],[t,t']=>if t=t' then mC T w.st d t x y λv s=>K v (w.to s) else False
  |_,_,_=>False
 | .assign _=>Dy (evalOp T Γ w.st o) λr=>K r.1 (w.to r.2)
 | .alloc _=>Dy (evalOp T Γ w.st o) λr=>K r.1 (w.to r.2)
 | .box _ _=>Dy (evalOp T Γ w.st o) λr=>K r.1 (w.to r.2)
 | .buildSlice t len parts=>Dy o.dst λd=>Zz T w.st d t len parts λv s=>K v (w.to s)
 | .build _ _=>Dy (evalOp T Γ w.st o) λr=>K r.1 (w.to r.2)
 | .makeMap _ _=>Dy (evalOp T Γ w.st o) λr=>K r.1 (w.to r.2)
 | .mapUpdate _ _ _ _=>Dy (evalOp T Γ w.st o) λr=>K r.1 (w.to r.2)
 | .insert _ _ _ _=>Dy (evalOp T Γ w.st o) λr=>K r.1 (w.to r.2)
 | .call {callee:= .builtin .copy, .. } =>Dy (evalOp T Γ w.st o) λr=>K r.1 (w.to r.2)
 | .call {callee:= .builtin .clear, .. } =>Dy (evalOp T Γ w.st o) λr=>K r.1 (w.to r.2)
 | .call {callee:= .value (.func f),args, .. } =>match Γ f with
  |some (.m s)=>yV w.st o.dst s (args.toList.map w.st.ev) λv s'=>K v (w.to s')
  |some (.q s)=>match ar s (args.toList.map w.st.ev) with
   |true=>Dy (Jk args.toList w.st) λst1=>qW T Γ (w.to st1) o K
   |false=>qW T Γ w o K
  |_=>qW T Γ w o K
 |_=>qW T Γ w o K
def AV.LL:AV->Bool
 | .at .skip=>true
 |_=>false
def bW (w:WS) (o:Oper) (K:AV->WS->Prop):Prop:=
 match o.op with
 | .buildSlice t len parts=>Dy (Uw T w.st t len parts) λv=>K v w
 | .build t parts=>Dy (Qc T w.st t parts) λv=>K v w
 |_=>qW T Γ w o K
def eZ (ops:Array Oper) (w:WS) (o:Oper) (run:(AV->WS->Prop)->WS->Prop) (K:WS->Prop):Prop:=
 match o.guard with
 |none=>run (λv w'=>K (w'.qe o v)) w
 |some (j,want)=>Dy ((ops[j]?).bind (·.dst)) λt=>match (w.st.get t).LL with
  |true=>K (w.put o.dst (.at .skip))
  |false=>brT w t λb w'=>match b,want with
   |true,true=>run (λv pd=>K (pd.qe o v)) w'
   |false,false=>run (λv pd=>K (pd.qe o v)) w'
   |_,_=>K (w'.put o.dst (.at .skip))
def XK (ops:Array Oper):List Oper->WS->(WS->Prop)->Prop
 | [],w,K=>K w
 |o::r,w,K=>eZ ops w o (λk w'=>TY T Γ w' o k) λw'=>XK ops r w' K
def KZ (ops:Array Oper):List Nat->WS->(WS->Prop)->Prop
 | [],w,K=>K w
 |i::r,w,K=>Dy ops[i]? λo=>eZ ops w o (λk w'=>TY T Γ w' o k) λw'=>KZ ops r w' K
def rm (ops:Array Oper):List Nat->WS->(WS->Prop)->Prop
 | [],w,K=>K w
 |i::r,w,K=>Dy ops[i]? λo=>eZ ops w o (λk w'=>bW T Γ w' o k) λw'=>rm ops r w' K
def PI:List Nat->(Nat->Prop)->Prop
 | [],_=>True
 | [i],P=>P i
 |i::j::r,P=>P i/\PI (j::r) P
def EN (ops:Array Oper):Nat->Array Bool->WS->(WS->Prop)->Prop
 |0,Ac,w,K=>match Region.ready .any ops Ac with
  | []=>K w
  |_::_=>False
 |f+1,Ac,w,K=>match Region.ready .any ops Ac with
  | []=>False
  |i::r=>PI (i::r) λk=>Dy ops[k]? λo=>eZ ops w o (λkk w'=>TY T Γ w' o kk) λw'=>EN ops f (Ac.setIfInBounds k true) w' K
def YZ:AC->Type->Type
 | .data _ τ _,R=>τ.den×R
 | .sub _ _ _,R=>Nat×R
 | .Fp _ _,R=>Nat×R
 | .Fl _ _ _,R=>Nat×Nat×R
 |_,R=>R
def yL:List AC->Type->Type
 | [],R=>R
 |c::r,R=>YZ c (yL r R)
def ZA:AV->Type->Type
 | .at a,R=>YZ a R
 | .agg cs,R=>yL cs R
 | .Uo _ τ _,R=>τ.den×R
 | .Hv _,R=>R
def obV:OB->Type->Type
 | .arr _ _ e _ _,R=>List e.den×R
 | .Da e _ _,R=>List e.den×R
 | .var _ vs,R=>yL vs R
 | .Ah e _ _ _ none,R=>List (List e.den)×R
 | .Ah e _ _ _ (some _),R=>List (List e.den)×(Nat×R)
 | .Ok v _,R=>(ByteArray->Option v.den)×R
def ll:List AV->Type->Type
 | [],R=>R
 |v::r,R=>ZA v (ll r R)
def rn:List (Nat×OB)->Type->Type
 | [],R=>R
 |p::r,R=>obV p.2 (rn r R)
def stV (s:St):Type:=ll s.tmps (rn s.heap Unit)
def CO:(c:AC)-> {R:Type} ->R->YZ c R
 | .data _ _ x,_,r=>(x,r)
 | .undef,_,r=>r
 | .skip,_,r=>r
 | .Hi,_,r=>r
 | .Pq,_,r=>r
 | .own _ _ _,_,r=>r
 | .Dp _ _,_,r=>r
 | .Fp _ i,_,r=>(i,r)
 | .clo _ _,_,r=>r
 | .Fw _,_,r=>r
 | .sub _ i _,_,r=>(i,r)
 | .Fl _ i j,_,r=>(i,j,r)
def mw:(l:List AC)-> {R:Type} ->R->yL l R
 | [],_,r=>r
 |c::l,_,r=>CO c (mw l r)
def SA:(c:AV)-> {R:Type} ->R->ZA c R
 | .at a,_,r=>CO a r
 | .agg cs,_,r=>mw cs r
 | .Uo _ _ x,_,r=>(x,r)
 | .Hv _,_,r=>r
def TW:(b:OB)-> {R:Type} ->R->obV b R
 | .arr _ _ _ _ xs,_,r=>(xs,r)
 | .Da _ _ xs,_,r=>(xs,r)
 | .var _ vs,_,r=>mw vs r
 | .Ah _ _ rows _ none,_,r=>(rows,r)
 | .Ah _ _ rows _ (some p),_,r=>(rows,p.2,r)
 | .Ok _ m,_,r=>(m,r)
def mh:(l:List AV)-> {R:Type} ->R->ll l R
 | [],_,r=>r
 |c::l,_,r=>SA c (mh l r)
def m9:(l:List (Nat×OB))-> {R:Type} ->R->rn l R
 | [],_,r=>r
 |p::l,_,r=>TW p.2 (m9 l r)
def ED (s:St):stV s:=mh s.tmps (m9 s.heap ())
def jh:(c d:AC)-> {R:Type} ->R->Option (YZ c R)
 | .data fr τ _, .data Ow Iw x,_,r=>if h:Iw=τ/\Ow=fr then some (h.1▸x,r) else none
 | .undef, .undef,_,r=>some r
 | .skip, .skip,_,r=>some r
 | .Hi, .Hi,_,r=>some r
 | .Pq, .Pq,_,r=>some r
 | .own l _ _, .own l' _ _,_,r=>if l=l' then some r else none
 | .Dp l i, .Dp l' i',_,r=>if l=l'/\i=i' then some r else none
 | .Fp l _, .Fp l' i',_,r=>if l=l' then some (i',r) else none
 | .clo f c, .clo f' c',_,r=>if f=f'/\c=c' then some r else none
 | .Fw l, .Fw l',_,r=>if l=l' then some r else none
 | .sub l _ c, .sub l' i' c',_,r=>if l=l'/\c=c' then some (i',r) else none
 | .Fl l _ _, .Fl l' i' j',_,r=>if l=l' then some (i',j',r) else none
 |_,_,_,_=>none
def Lt:(l m:List AC)-> {R:Type} ->R->Option (yL l R)
 | [],[],_,r=>some r
 |c::l,d::m,_,r=>(Lt l m r).bind λr'=>jh c d r'
 |_,_,_,_=>none
def fC:(c d:AV)-> {R:Type} ->R->Option (ZA c R)
 | .at a, .at b,_,r=>jh a b r
 | .agg cs, .agg ds,_,r=>Lt cs ds r
 | .Uo fr τ _, .Uo Ow Iw x,_,r=>if h:Iw=τ/\Ow=fr then some (h.1▸x,r) else none
 |_,_,_,_=>none
def Mn:(b d:OB)-> {R:Type} ->R->Option (obV b R)
 | .arr fr tr e tid _, .arr Ow OA e' Ns xs,_,r=>if h:e'=e/\Ow=fr/\OA=tr/\Ns=tid then some (h.1▸xs,r) else none
 | .Da e tid _, .Da e' Ns xs,_,r=>if h:e'=e/\Ns=tid then some (h.1▸xs,r) else none
 | .Ok v _, .Ok v' m,_,r=>if h:v'=v then some (h▸m,r) else none
 | .var t vs, .var t' us,_,r=>if t'=t then Lt vs us r else none
 | .Ah e te _ out none, .Ah e' La rows bJ none,_,r=>if h:e'=e/\La=te/\bJ=out then some (h.1▸rows,r) else none
 | .Ah e te _ out (some p), .Ah e' La rows bJ (some p'),_,r=>if h:e'=e/\La=te/\bJ=out/\p'.1=p.1 then some (h.1▸rows,p'.2,r) else none
 |_,_,_,_=>none
def Jl:(l m:List AV)-> {R:Type} ->R->Option (ll l R)
 | [],[],_,r=>some r
 |c::l,d::m,_,r=>(Jl l m r).bind λr'=>fC c d r'
 |_,_,_,_=>none
def Kj:(l m:List (Nat×OB))-> {R:Type} ->R->Option (rn l R)
 | [],[],_,r=>some r
 |p::l,q::m,_,r=>if q.1=p.1 then (Kj l m r).bind λr'=>Mn p.2 q.2 r' else none
 |_,_,_,_=>none
def df (s t:St):Option (stV s):=(Kj s.heap t.heap ()).bind λr=>Jl s.tmps t.tmps r
def fu:(c:AC)-> {R:Type} ->YZ c R->AC×R
 | .data fr τ _,_,v=>(.data fr τ v.1,v.2)
 | .undef,_,r=>(.undef,r)
 | .skip,_,r=>(.skip,r)
 | .Hi,_,r=>(.Hi,r)
 | .Pq,_,r=>(.Pq,r)
 | .own l off len,_,r=>(.own l off len,r)
 | .Dp l i,_,r=>(.Dp l i,r)
 | .Fp l _,_,v=>(.Fp l v.1,v.2)
 | .clo f c,_,r=>(.clo f c,r)
 | .Fw l,_,r=>(.Fw l,r)
 | .sub l _ c,_,v=>(.sub l v.1 c,v.2)
 | .Fl l _ _,_,v=>(.Fl l v.1 v.2.1,v.2.2)
def Ti:(l:List AC)-> {R:Type} ->yL l R->List AC×R
 | [],_,r=>([],r)
 |c::l,_,v=>((fu c v).1::(Ti l (fu c v).2).1,(Ti l (fu c v).2).2)
def mF:(c:AV)-> {R:Type} ->ZA c R->AV×R
 | .at a,_,v=>(.at (fu a v).1,(fu a v).2)
 | .agg cs,_,v=>(.agg (Ti cs v).1,(Ti cs v).2)
 | .Uo fr τ _,_,v=>(.Uo fr τ v.1,v.2)
 | .Hv l,_,r=>(.Hv l,r)
def nP:(b:OB)-> {R:Type} ->obV b R->OB×R
 | .arr fr tr e tid _,_,v=>(.arr fr tr e tid v.1,v.2)
 | .Da e tid _,_,v=>(.Da e tid v.1,v.2)
 | .Ok w _,_,v=>(.Ok w v.1,v.2)
 | .var t vs,_,v=>(.var t (Ti vs v).1,(Ti vs v).2)
 | .Ah e te _ out none,_,v=>(.Ah e te v.1 out none,v.2)
 | .Ah e te _ out (some p),_,v=>(.Ah e te v.1 out (some (p.1,v.2.1)),v.2.2)
def Pl:(l:List AV)-> {R:Type} ->ll l R->List AV×R
 | [],_,r=>([],r)
 |c::l,_,v=>((mF c v).1::(Pl l (mF c v).2).1,(Pl l (mF c v).2).2)
def Ys:(l:List (Nat×OB))-> {R:Type} ->rn l R->List (Nat×OB)×R
 | [],_,r=>([],r)
 |p::l,_,v=>((p.1,(nP p.2 v).1)::(Ys l (nP p.2 v).2).1,(Ys l (nP p.2 v).2).2)
def de (s:St) (v:stV s):St:= {tmps:=(Pl s.tmps v).1,heap:=(Ys s.heap (Pl s.tmps v).2).1}
def lenOf (H:List (Nat×OB)) (l:Nat):Nat:=match Ad H l with|some (.arr _ _ _ _ xs)=>xs.length|some (.Da _ _ xs)=>xs.length|some (.Ah _ _ rows _ _)=>rows.length|_=>0
def So (ps:List Nat):List AV->List (Nat×Nat×Nat)
 | []=> []
 | .at (.own l off len)::r=>if ps.contains l then (l,off,len)::So ps r else So ps r
 |_::r=>So ps r
def XI:List (Nat×Nat×Nat)->Nat->Nat
 | [],_=>0
 |(k,o,_)::r,l=>if k=l then o else XI r l
def FQ:List (Nat×Nat×Nat)->List (Nat×OB)->Nat->Nat
 | [],H,l=>lenOf H l
 |(k,_,n)::r,H,l=>if k=l then n else FQ r H l
def aV (B:List (Nat×Nat×Nat)) (H:List (Nat×OB)):AC->AC
 | .own l _ _=> .own l (XI B l) (FQ B H l)
 |c=>c
def St.whole (B:List (Nat×Nat×Nat)) (s:St):St:=s.Gh (aV B s.heap)
def sD (B:List (Nat×Nat×Nat)) (H:List (Nat×OB)) (c:AC) (K:Prop):Prop:=match c with
 | .own l off len=>off=XI B l/\len=FQ B H l/\K
 |_=>K
def Yb (B:List (Nat×Nat×Nat)) (H:List (Nat×OB)):List AC->Prop->Prop
 | [],K=>K
 |c::r,K=>sD B H c (Yb B H r K)
def CU (B:List (Nat×Nat×Nat)) (H:List (Nat×OB)) (c:AV) (K:Prop):Prop:=match c with
 | .at a=>sD B H a K
 | .agg cs=>Yb B H cs K
 | .Uo _ _ _=>K
 | .Hv _=>False
def Un (B:List (Nat×Nat×Nat)) (H:List (Nat×OB)):List AV->Prop->Prop
 | [],K=>K
 |c::r,K=>CU B H c (Un B H r K)
def dG (B:List (Nat×Nat×Nat)) (H:List (Nat×OB)):List (Nat×OB)->Prop->Prop
 | [],K=>K
 |p::r,K=>match p.2 with
  | .var _ vs=>Yb B H vs (dG B H r K)
  |_=>dG B H r K
def uE (B:List (Nat×Nat×Nat)) (s:St) (K:Prop):Prop:=Un B s.heap s.tmps (dG B s.heap s.heap K)
def AV.Qk:AV->Bool
 | .at (.data _ _ _)=>true
 |_=>false
def Hm (p:Nat->Bool):Nat->List AV->List Bool
 |_,[]=> []
 |i,v::r=>(v.Qk&&p i)::Hm p (i+1) r
def stays (live:Nat->List Nat) (c:Code) (t:Nat):Bool:=!(writes c).contains t&&Vg live c t
def Nz:List Bool->List AV->List AV
 |true::f,_::r=> .undef::Nz f r
 |false::f,v::r=>v::Nz f r
 |_,l=>l
def Pe:List Bool->List AV->List AV->List AV
 |true::f,a::s,_::r=>a::Pe f s r
 |false::f,_::s,v::r=>v::Pe f s r
 |_,_,l=>l
def St.mask (fx:List Bool) (s:St):St:= {tmps:=Nz fx s.tmps,heap:=s.heap}
def St.pU (fx:List Bool) (s0 s:St):St:= {tmps:=Pe fx s0.tmps s.tmps,heap:=s.heap}
def m6 (c:AC) (k:AC->Prop):Prop:=match c with
 | .undef=>k .undef
 | .skip=>k .skip
 | .Hi=>k .Hi
 | .Pq=>k .Pq
 | .data fr τ x=>match fr with
  |true=>k (.data true τ x)
  |false=>k (.data false τ x)
 | .own l off len=>k (.own l off len)
 | .Dp l i=>k (.Dp l i)
 | .Fp l i=>k (.Fp l i)
 | .clo f c=>k (.clo f c)
 | .Fw l=>k (.Fw l)
 | .sub l i c=>k (.sub l i c)
 | .Fl l i c=>k (.Fl l i c)
def cp:List AC->(List AC->Prop)->Prop
 | [],k=>k []
 |c::r,k=>m6 c λc'=>cp r λr'=>k (c'::r')
def sY (c:AV) (k:AV->Prop):Prop:=match c with
 | .at a=>m6 a λa'=>k (.at a')
 | .agg cs=>cp cs λcb=>k (.agg cb)
 | .Uo fr τ x=>k (.Uo fr τ x)
 | .Hv l=>k (.Hv l)
def cq:List AV->(List AV->Prop)->Prop
 | [],k=>k []
 |c::r,k=>sY c λc'=>cq r λr'=>k (c'::r')
def sZ (b:OB) (k:OB->Prop):Prop:=match b with
 | .arr fr tr e tid xs=>match fr,tr with
  |true,true=>k (.arr true true e tid xs)
  |true,false=>k (.arr true false e tid xs)
  |false,true=>k (.arr false true e tid xs)
  |false,false=>k (.arr false false e tid xs)
 | .Da e tid xs=>k (.Da e tid xs)
 | .var t vs=>cp vs λvs'=>k (.var t vs')
 | .Ah e te rows out kp=>match out,kp with
  |none,none=>k (.Ah e te rows none none)
  |none,some (l,n)=>k (.Ah e te rows none (some (l,n)))
  |some i,none=>k (.Ah e te rows (some i) none)
  |some i,some (l,n)=>k (.Ah e te rows (some i) (some (l,n)))
 | .Ok v m=>k (.Ok v m)
def mX:List (Nat×OB)->(List (Nat×OB)->Prop)->Prop
 | [],k=>k []
 |(l,b)::r,k=>sZ b λb'=>mX r λr'=>k ((l,b')::r')
def jx (w:WS) (k:WS->Prop):Prop:=cq w.st.tmps λt=>mX w.st.heap λh=>k {kn:=w.kn,st:= {tmps:=t,heap:=h} }
def jw (s:St) (k:St->Prop):Prop:=cq s.tmps λt=>mX s.heap λh=>k {tmps:=t,heap:=h}
def dD:List Bool->(List Bool->Prop)->Prop
 | [],k=>k []
 |true::r,k=>dD r λr'=>k (true::r')
 |false::r,k=>dD r λr'=>k (false::r')
theorem kI {c:AC} {k:AC->Prop} :m6 c k↔k c:=by
 cases c<;>simp only [m6]
 split<;>rfl
theorem aa: ∀ {l:List AC} {k:List AC->Prop},cp l k↔k l
 | [],k=>Iff.rfl
 |c::r,k=>by simp only [cp];rw [kI,aa]
theorem wg {c:AV} {k:AV->Prop} :sY c k↔k c:=by
 cases c<;>simp only [sY]
 ·exact kI
 ·exact aa
theorem ab: ∀ {l:List AV} {k:List AV->Prop},cq l k↔k l
 | [],k=>Iff.rfl
 |c::r,k=>by simp only [cq];rw [wg,ab]
theorem wi {b:OB} {k:OB->Prop} :sZ b k↔k b:=by
 cases b<;>simp only [sZ]
 ·split<;>rfl
 ·exact aa
 ·split<;>rfl
theorem fI: ∀ {l:List (Nat×OB)} {k:List (Nat×OB)->Prop},mX l k↔k l
 | [],k=>Iff.rfl
 |(l,b)::r,k=>by simp only [mX];rw [wi,fI]
theorem EY {s:St} {k:St->Prop} :jw s k=k s:=by
 unfold jw
 exact propext (by rw [ab,fI])
theorem fH: ∀ {l:List Bool} {k:List Bool->Prop},dD l k=k l
 | [],k=>rfl
 |true::r,k=>by simp only [dD];rw [fH]
 |false::r,k=>by simp only [dD];rw [fH]
theorem ae {w:WS} {k:WS->Prop} :jx w k↔k w:=by
 unfold jx
 rw [ab,fI]
def Us:AC->List (Nat×Nat)
 | .own _ off len=> [(off,len)]
 |_=> []
def Uu:AV->List (Nat×Nat)
 | .at a=>Us a
 | .agg cs=>cs.flatMap Us
 |_=> []
def fY:OB->List (Nat×Nat)
 | .var _ vs=>vs.flatMap Us
 |_=> []
def BO (s:St):List (Nat×Nat):=s.tmps.flatMap Uu++s.heap.flatMap λp=>fY p.2
def eqW (s0 s:St):Prop:=BO s=BO s0/\Dy (df s0 s) λv=>v=ED s0
def jv (ops:Array Oper):Nat->Array Bool->WS->(WS->Prop)->Prop
 |0,Ac,w,K=>match Region.ready .any ops Ac with
  | []=>K w
  |_::_=>False
 |f+1,Ac,w,K=>match Region.ready .any ops Ac with
  | []=>False
  |k::_=>Dy ops[k]? λo=>eZ ops w o (λkk w'=>TY T Γ w' o kk) λw'=>jv ops f (Ac.setIfInBounds k true) w' K
def vL (P:List (Nat×Nat×AV×OB)) (ops:Array Oper):Nat->Array Bool->WS->(WS->Prop)->Prop
 |0,Ac,w,K=>match Region.ready .any ops Ac with
  | []=>K w
  |_::_=>False
 |f+1,Ac,w,K=>match Region.ready .any ops Ac with
  | []=>False
  |i::r=>PI (i::r) λk=>Dy ops[k]? λo=>match zR P Γ ops w.st o k with
   |true=>eZ ops w o (λkk w'=>TY T Γ w' o kk) λw'=>vL P ops f (Ac.setIfInBounds k true) w' K
   |false=>False
def sK (P:List (Nat×Nat×AV×OB)) (n:Nat) (L0:Array Bool) (ops:Array Oper) (w:WS) (K:WS->Prop):Prop:=
 match (Su (P.map (·.1))&&Su (P.map (·.2.1)))&&((P.all λa=>jL a.2.1 w.st)&&(Nat.ble P.length n&&Nat.ble (n-P.length) 10)) with
 |true=>KZ T Γ ops (P.map (·.1)) w λw1=>jx w1 λw1=>jv T Γ ops (n-P.length) (Ec (P.map (·.1)) L0) w1 λw0=>jx w0 λw0=>K w0/\vL T Γ P ops (n-P.length) (Ec (P.map (·.1)) L0) w1 λw2=>eqW w0.st w2.st
 |false=>False
def ug (ops:Array Oper) (draw:Bool) (w:WS) (K:WS->Prop):Prop:=
 match draw with
 |true=>match dQ false Γ ops with
  |true=>rm T Γ ops (dF false Γ ops) w λw'=>KZ T Γ ops (Ex false Γ ops) w' K
  |false=>match dQ true Γ ops with
   |true=>rm T Γ ops (dF true Γ ops) w λw'=>KZ T Γ ops (Ex true Γ ops) w' K
   |false=>match Region.noSelect ops&&Nat.ble (ops.size-(Kc ops).length) 8 with
    |true=>rm T Γ ops (Kc ops) w λw'=>match dB false ops with
     |true=>EN T Γ ops (ops.size-(Kc ops).length) (Ec (Kc ops) (Array.replicate ops.size false)) w' K
     |false=>jv T Γ ops (ops.size-(Kc ops).length) (Ec (Kc ops) (Array.replicate ops.size false)) w' λw0=>jx w0 λw0=>K w0/\EN T Γ ops (ops.size-(Kc ops).length) (Ec (Kc ops) (Array.replicate ops.size false)) w' λw1=>eqW w0.st w1.st
    |false=>match Region.noSelect ops with
     |true=>rm T Γ ops (Kc ops) w λw'=>sK T Γ (Rr T ops (Ec (Kc ops) (Array.replicate ops.size false))) (ops.size-(Kc ops).length) (Ec (Kc ops) (Array.replicate ops.size false)) ops w' K
     |false=>False
 |false=>XK T Γ ops ops.toList w K
def Yg (live:Nat->List Nat):Code->WS->(Gt->WS->Prop)->Prop
 | .skip,w,Q=>Q .normal w
 | .label _,w,Q=>Q .normal w
 | .region _ ops draw,w,Q=>ug T (uf Γ draw) ops draw {w with st:=w.st.gP ops} λw'=>jx w' (Q .normal)
 | .seq a b,w,Q=>Yg live a w λe w'=>match e with
  | .normal=>Yg live b w' Q
  | .exit id=>Q (.exit id) w'
  | .ret=>Q .ret w'
 | .cond c a b,w,Q=>brO w c λt w'=>match t with
  |true=>Yg live a w' Q
  |false=>Yg live b w' Q
 | .block id c,w,Q=>Yg live c w λe w'=>match e with
  | .normal=>Q .normal w'
  | .exit FM=>if FM=id then Q .normal w' else Q (.exit FM) w'
  | .ret=>Q .ret w'
 | .loop c,w,Q=>
  jw (w.st.clean (live (Cd c))) λs0=>dD (Hm (stays live c) 0 s0.tmps) λfx=>jw (s0.mask fx) λm=>
  uE (So T.parts s0.tmps) s0 (Bm (V:=stV m) (λv k=>jw ((St.pU fx s0 (de m v)).whole (So T.parts s0.tmps)) λsb=>Yg live c ⟨[],sb⟩ λe w'=>match e with
   | .normal=>jw (w'.st.clean (live (Cd c))) λs1=>uE (So T.parts s0.tmps) s1 (Dy (df m (s1.mask fx)) k)
   | .exit id=>Q (.exit id) w'
   | .ret=>Q .ret w') (ED m))
 | .exit id,w,Q=>Q (.exit id) w
 | .ret,w,Q=>Q .ret w
 |_,_,_=>False
def UP (s:Spec) (fn:Func) (P:s.res.den->Prop) (st:St):Prop:=
 Dy (gY T s fn st) λp=>match p.1||!s.fresh with|true=>P p.2|false=>False
def cD (st:St) (K:Prop):List AC->List (Bool×CK)->Prop
 | .own l off len::as,(true,_)::r=>match st.at l with
  |some (.arr _ _ _ _ xs)=>(off=0/\len=xs.length)/\cD st K as r
  |some (.Da _ _ xs)=>(off=0/\len=xs.length)/\cD st K as r
  |_=>False
 |_::as,(false,_)::r=>cD st K as r
 |_,_=>K
def jN (st:St):(cs:List CK)->List AC->(CKs.den cs->List Nat->Prop)->Prop
 | [],[],K=>K () []
 | .Ah e te _::r, .own l off len::as,K=>match st.at l with
  |some (.Ah e' La rows none _)=>if h:e'=e/\La=te then (off=0/\len=rows.length)/\jN st r as λy t=>K ((h.1▸rows:List (List e.den)),y) (l::t) else False
  |_=>False
 |c::r,a::as,K=>Dy (ej st c a) λp=>jN st r as λy t=>K (p.1,y) (p.2++t)
 |_,_,_=>False
def tE (st:St) (n:Nat) (as:List AC):List (Nat×Nat)->Prop->Prop
 | [],K=>K
 |(k,j)::r,K=>match as[j]? with
  |some (.own l _ _)=>match st.at l with
   |some (.Ah _ _ _ _ (some p))=>match Nat.beq p.1 (Bq false k)&&Nat.blt k 1000 with
    |true=>n<=p.2/\tE st n as r K
    |false=>False
   |_=>False
  |_=>False
def oc (s:MSpec) (fn:Func) (x:Ins.den s.ins) (st:St) (cs:List AC) (P:CKs.den s.outs×IOs.den s.ins->Prop):Prop:=
 Dy (Xv T st fn.results.toList) λl=>Dy (AS s st l) λp=>jN st s.outs (cs++p.1) λr ls=>Dy (Jd st 0 s.ins) λo=>
  match Su (p.2++ls++Kb 0 s.ins)&&Nat.blt s.ins.length 1000&&Nat.blt s.outs.length 1000&&s.LY with
  |true=>tE st (s.Cj x) (cs++p.1) s.keeps (P (r,o))
  |false=>False
def EA (s:MSpec) (fn:Func) (x:Ins.den s.ins) (st:St) (P:CKs.den s.outs×IOs.den s.ins->Prop):Prop:=
 match s.ptr with
 |none=>oc T s fn x st [] P
 |some p=>match st.at Jm with
  |some (.var tid vs)=>match Nat.beq tid p.1&&Nat.beq vs.length p.2 with
   |true=>Dy (Es 0 s.ins vs) λcs=>cD st (oc T s fn x st cs P) vs s.ins
   |false=>False
  |_=>False
@[irreducible] def fnMW (s:MSpec) (fn:Func) (x:Ins.den s.ins) (P:CKs.den s.outs×IOs.den s.ins->Prop):Prop:=
 match Nat.blt s.ins.length 1000&&ub s with
 |false=>False
 |true=>Dy fn.body λc=>Yg T Γ (tK T.marks fn c) c {kn:= [],st:= {tmps:=Te s (Vf 0 s.ins x)++List.replicate (fn.ntmps-(Te s (Vf 0 s.ins x)).length) .undef,heap:=kP s x} } λe w=>match e with
  | .normal=>EA T s fn x w.st P
  | .ret=>EA T s fn x w.st P
  | .exit _=>False
@[irreducible] def fnW (s:Spec) (fn:Func) (x:s.arg.den) (P:s.res.den->Prop):Prop:=
 Dy fn.body λc=>Yg T Γ (tK T.marks fn c) c {kn:= [],st:= {tmps:=Mi s.arg x++List.replicate (fn.ntmps-(Mi s.arg x).length) .undef,heap:= []} } λe w=>match e with
  | .normal=>UP T s fn P w.st
  | .ret=>UP T s fn P w.st
  | .exit _=>False
end Go.Proofs.YtfolipnappekaaaGreat
