/-
  Part 31 of the proof that the statement FnExactPhaseOneWord holds.
-/
import Derived.Test.YtjbdmibbbpdnnaaCPhaseOneWord29
namespace Go.Proofs.Ytjbdmibbbpdnnaa
open Go.RowKit
inductive Br (b:Bool) (A B:Prop):Prop
 |mk (t:b=true->A) (f:b=false->B)
inductive Bs {V:Type} (step:V->(V->Prop)->Prop) (v0:V):Prop
 |mk (I:V->Prop) (μ:V->Nat) (h0:I v0) (h: ∀v,I v->step v (λv'=>I v'/\μ v'<μ v))
structure WS where
 kn:List (Nat×Bool)
 st:St
def oY:List (Nat×Bool)->Nat->Option Bool
 | [],_=>none
 |(k,b)::r,t=>if k=t then some b else oY r t
def qp:List (Nat×Bool)->Nat->List (Nat×Bool)
 | [],_=> []
 |(k,b)::r,t=>if k=t then qp r t else (k,b)::qp r t
def WS.put (w:WS) (dst:Option Tmp) (v:AV):WS:=
 match dst with
 |some d=> {kn:=qp w.kn d,st:=w.st.put (some d) v}
 |none=>w
def Pd (kn:List (Nat×Bool)):Operand->Option Bool
 | .const (.bool b)=>some b
 | .tmp t=>oY kn t
 |_=>none
def Dm (kn:List (Nat×Bool)) (o:Oper):Option Bool:=
 match o.op with
 | .assign x=>Pd kn x
 | .move x=>Pd kn x
 | .unOp .not _ x=>(Pd kn x).map (!·)
 | .pick c a b=>match Pd kn c with
  |some true=>Pd kn a
  |some false=>Pd kn b
  |none=>none
 |_=>none
def WS.po (w:WS) (o:Oper) (v:AV):WS:=
 match o.dst,Dm w.kn o with
 |some d,some b=>match (w.st.put (some d) v).get d with
  | .at (.data _ .bool _)=> {kn:=(d,b)::qp w.kn d,st:=w.st.put (some d) v}
  |_=>w.put (some d) v
 |dst,_=>w.put dst v
def WS.to (w:WS) (st:St):WS:= {kn:=w.kn,st:=st}
def brT (w:WS) (t:Nat) (K:Bool->WS->Prop):Prop:=
 match oY w.kn t with
 |some b=>K b w
 |none=>match w.st.get t with
  | .at (.data _ .bool b)=>Br b (K true {kn:=(t,true)::w.kn,st:=w.st}) (K false {kn:=(t,false)::w.kn,st:=w.st})
  |_=>False
def brO (w:WS) (c:Operand) (K:Bool->WS->Prop):Prop:=
 match c with
 | .tmp t=>brT w t K
 | .const (.bool b)=>K b w
 |_=>False
def Dy {α:Type} (o:Option α) (K:α->Prop):Prop:=match o with|some x=>K x|none=>False
def WA (T:Tab) (st:St) (t:TypeId) (x:AV) (l h:Int):Option AV:=
 match x with
 | .at (.data fr (.slice e) xs)=>if (T.elem t).bind T.ty=some e then some (.at (.data fr (.slice e) ((xs.take h.toNat).drop l.toNat))) else none
 | .at (.own k off _)=>match st.at k with
  |some (.arr _ _ e tid _)=>if T.elem t=some tid/\T.ty tid=some e then some (.at (.own k (off+l.toNat) (h.toNat-l.toNat))) else none
  |_=>none
 | .at (.data _ .str s)=>if T.ty t=some .str then some (.at (.data true .str (s.extract l.toNat h.toNat))) else none
 |_=>none
variable (T:Tab) (Γ:Env)
def SV (op:BinOp) (t:TypeId) (x y:AV) (K:AV->Prop):Prop:=
 match op,x,y with
 | .quo, .at (.data _ (.int k) a), .at (.data _ (.int k') b)=>if k=k' then b≠0/\K (.at (.data true (.int k) (k.wrap (a.tdiv b)))) else False
 | .rem, .at (.data _ (.int k) a), .at (.data _ (.int k') b)=>if k=k' then b≠0/\K (.at (.data true (.int k) (a.tmod b))) else False
 | .shl, .at (.data _ (.int k) a), .at (.data _ (.int _) b)=> ¬b<0/\K (.at (.data true (.int k) (k.wrap (a*2^(min b.toNat k.bits)))))
 | .shr, .at (.data _ (.int k) a), .at (.data _ (.int _) b)=> ¬b<0/\K (.at (.data true (.int k) (a.fdiv (2^(min b.toNat k.bits)))))
 | .add, .at (.data _ .str a), .at (.data _ .str b)=>a.size+b.size<=4294967296/\K (.at (.data true .str (a++b)))
 |op,x,y=>Dy (Mt T op t x y) K
def JJ (st:St) (t:TypeId) (p:AV) (K:AV->Prop):Prop:=
 match p with
 | .at (.Fz l i)=>Dy (T.ty t) λτ=>match st.at l with
  |some (.arr fr _ e _ xs)=>if e=τ then ∃x,xs[i]?=some x/\K (.at (.data (fr||e.flat) e x)) else False
  |some (.Dg e _ xs)=>if e=τ then ∃x,xs[i]?=some x/\K (if e.Ac then .agg (aD l i 0 e x) else .at ((aD l i 0 e x).headD .undef)) else False
  |some (.Ak _ _ _ none _)=>if τ.Ac then False else K (.at (.sub l i 0))
  |_=>False
 | .at (.data fr (.optr Iy) x)=>Dy (T.ty t) λτ=>if Iy=τ then ∃y,x=some y/\K (.at (.data (fr||Iy.flat) Iy y)) else False
 |p=>Dy (Kg T st t p) K
def fm (s:TypeId) (x:AV) (f:Nat) (K:AV->Prop):Prop:=
 match x with
 | .at (.data fr (.optr τ) x)=> ∃y,x=some y/\Dy (Is T s (.at (.data fr (.ptr τ) y)) f) K
 |x=>Dy (Is T s x f) K
def qE (st:St) (x:Operand) (K:AV->Prop) (d:Option AV):Prop:=
 match st.ev x with
 | .at (.data fr (.optr τ) x)=> ∃y,x=some y/\K (.at (.data fr (.ptr τ) y))
 |_=>Dy d K
def zq (st:St) (t:TypeId) (x:AV) (lo hi:Option AV) (K:AV->Prop):Prop:=
 Dy (vT x) λn=>Dy (GI lo 0) λl=>Dy (GI hi n) λh=>(0<=l/\l<=h/\h<=n)/\Dy (WA T st t x l h) K
def fF (st:St) (t:TypeId) (x i:AV) (K:AV->Prop):Prop:=
 match x,i with
 | .at (.data fr (.slice e) xs), .at (.data _ (.int _) n)=>if (T.elem t).bind T.ty=some e then ∃x,idx xs n=some x/\K (.at (.data fr (.ptr e) x)) else False
 | .at (.own l off len), .at (.data _ (.int _) n)=>match st.at l with
  |some (.arr _ _ e tid _)=>if T.elem t=some tid/\T.ty tid=some e then (0<=n/\n<len)/\K (.at (.Fz l (off+n.toNat))) else False
  |some (.Dg e tid _)=>if T.elem t=some tid/\T.ty tid=some e then (0<=n/\n<len)/\K (.at (.Fz l (off+n.toNat))) else False
  |some (.Ak _ te _ _ _)=>if T.elem t=some te/\(T.ty te).map Ty.size=some 1 then (0<=n/\n<len)/\K (.at (.Fz l (off+n.toNat))) else False
  |_=>False
 | .at (.sub l i _), .at (.data _ (.int _) n)=>match st.at l with
  |some (.Ak e _ rows none _)=>if ((T.elem t).bind T.ty).map Ty.size=some e.size then (0<=n/\n<(rows.getD i []).length)/\K (.at (.Fw l i n.toNat)) else False
  |_=>False
 |_,_=>False
def yz (t:TypeId) (x i:AV) (K:AV->Prop):Prop:=
 match x,i with
 | .at (.data _ .str s), .at (.data _ (.int _) n)=>if T.ty t=some .str then 0<=n/\ ∃b,s[n.toNat]?=some b/\K (.at (.data true (.int .u8) b.toNat)) else False
 |_,_=>False
def pZ (st:St) (f:FuncId) (args:List AV) (K:AV->Prop):Prop:=
 Dy (match Γ f with|some (.q s)=>some s|_=>none) λs=>match s.fresh||s.res.flat||args.all (·.settled) with
  |true=>Dy (Bp st s.arg args) λp=> ∃y,s.fn p.2=some y/\K (if s.Ee then .Uj (s.fresh||s.res.flat) s.res y else .at (.data (s.fresh||s.res.flat) s.res y))
  |false=>False
def xU (st:St) (v:AV) (args:List AV) (K:AV->Prop):Prop:=
 match v with
 | .at (.data fr (.clo f τ) x)=>match τ.chain with|true=>(match Nat.blt f 1000000000 with|true=>pZ Γ st f (args++Up fr τ x) K|false=>pZ Γ st (f-1000000000) (Up fr τ x++args) K)|false=>False
 | .at (.clo f Bv)=>pZ Γ st f (args++Bv.map λp=> .at (.Dw p.1 p.2)) K
 |_=>False
def qW (w:WS) (o:Oper) (K:AV->WS->Prop):Prop:=
 match o.op with
 | .pick c a b=>brO w c λt w'=>match t with|true=>K (w'.st.ev a) w'|false=>K (w'.st.ev b) w'
 | .load t a=>JJ T w.st t (w.st.ev a) λv=>K v w
 | .binOp op t x y _=>SV T op t (w.st.ev x) (w.st.ev y) λv=>K v w
 | .slice t x lo hi mx=>match mx with
  |none=>zq T w.st t (w.st.ev x) (lo.map w.st.ev) (hi.map w.st.ev) λv=>K v w
  |some _=>False
 | .indexAddr t x i=>fF T w.st t (jB (w.st.ev x)) (w.st.ev i) λv=>K v w
 | .index t x i=>yz T t (w.st.ev x) (w.st.ev i) λv=>K v w
 | .call {callee:= .value (.func f),args, .. } =>pZ Γ w.st f (args.toList.map w.st.ev) λv=>K v w
 | .call {callee:= .value (.tmp t),args, .. } =>xU Γ w.st (w.st.get t) (args.toList.map w.st.ev) λv=>K v w
 | .fieldAddr s x f=>fm T s (w.st.ev x) f λv=>K v w
 | .nilCheck x=>qE w.st x (λv=>K v w) (Cg T Γ w.st o)
 |_=>Dy (Cg T Γ w.st o) λv=>K v w
def zG (st:St) (t:TypeId) (p v:AV) (K:St->Prop):Prop:=
 match p with
 | .at (.Fz l j)=>Dy (T.ty t) λτ=>Dy (settle st v) λq=>match q.2.at l with
  |some (.arr fr tr e tid xs)=>Dy (Cq q.2 τ q.1) λu=>if h:τ=e then j<xs.length/\K (q.2.Gb l (.arr (fr&&u.1) (tr&&(Mp st v&&e.tree)) e tid (xs.set j (h▸u.2)))) else False
  |_=>False
 |p=>Dy (Nu T st t p v) K
def BS (st:St) (t:TypeId) (p v:AV) (K:St->Prop):Prop:=
 match p with
 | .at (.Fw l i j)=>Dy (T.ty t) λτ=>Dy (settle st v) λq=>match q.2.at l with
  |some (.Ak e te rows none kp)=>Dy (Cq q.2 τ q.1) λu=>if h:τ=e then K (q.2.Gb l (.Ak e te (rows.set i ((rows.getD i []).set j (h▸u.2))) none kp)) else False
  |_=>False
 | .at (.Fz l j)=>Dy (T.ty t) λτ=>match st.at l,v with
  |some (.Ak e te rows out kp), .at (.own m off len)=>match st.at m with
   |some (.arr _ _ e' _ xs)=>if h:e'=e/\(Nat.blt l Aj&&(!Nat.beq m l&&!τ.Ac))=true then
     off=0/\len=xs.length/\(match out with|none=>True|some i=>i=j)/\K (Ms st l j m e te rows (h.1▸xs) (Vb j kp))
    else False
   |_=>False
  |_,_=>False
 |_=>False
def tE (st:St) (t:TypeId) (p v:AV) (K:St->Prop):Prop:=match AQ st p with
 |true=>BS T st t p v K
 |false=>zG T st t p v K
def gn (st:St) (dst:Nat) (t:TypeId) (x y:Operand) (K:AV->St->Prop):Prop:=
 Dy (T.elem t) λte=>Dy (T.ty te) λe=>Dy (settle st (st.ev y)) λq=>Dy (Cq q.2 (.slice e) q.1) λu=>match q.2.ev x with
  | .at .Hp=>match Nat.blt dst Aj with
   |true=>List.length u.2<=Bj/\K (.at (.own dst 0 (List.length u.2))) ((q.2.new dst (.arr (T.my||e.flat) T.tV e te [])).new dst (.arr ((T.my||e.flat)&&(u.1||e.flat)) (T.tV&&(e.flat||(Mp st (st.ev y)&&e.tree))) e te u.2))
   |false=>False
  | .at (.own l off len)=>match q.2.at l with
   |some (.arr fr tr e' tid xs)=>if h:e'=e/\tid=te/\Nat.blt l Aj=true then
     off=0/\len=xs.length/\len+List.length u.2<=Bj/\K (.at (.own l 0 (List.length ((h.1▸xs:List e.den)++u.2)))) (q.2.new l (.arr (fr&&(u.1||e.flat)) (tr&&(e.flat||(Mp st (st.ev y)&&e.tree))) e te ((h.1▸xs:List e.den)++u.2)))
    else False
   |_=>False
  |_=>False
def m4 (st:St) (dst:Nat) (t:TypeId) (x y:Operand) (K:AV->St->Prop):Prop:=
 match x with
 | .tmp tx=>match st.get tx with
  | .at (.sub l i _)=>Dy (T.elem t) λtid=>match st.at l with
   |some (.Ak e te rows none kp)=>match Nat.blt l Aj&&(Nat.blt dst Aj&&!Nat.beq dst l) with
    |true=>gn T ((Kf st l i dst e te tid rows kp).put (some tx) (.at (.own dst 0 (rows.getD i []).length))) dst t x y K
    |false=>False
   |_=>False
  |_=>gn T st dst t x y K
 |_=>gn T st dst t x y K
def JO (st:St) (dst:Nat) (t:TypeId) (l c:AV) (K:AV->St->Prop):Prop:=
 match l,c with
 | .at (.data _ (.int _) n), .at (.data _ (.int _) m)=>Dy (T.elem t) λte=>Dy (T.ty te) λe=>match aK e&&Nat.blt dst Aj with
  |true=>(0<=n/\n<Bj+1)/\n=m/\K (.at (.own dst 0 (List.replicate n.toNat e.zero).length)) (st.new dst (.arr (T.my||e.flat) (T.tV&&e.tree) e te (List.replicate n.toNat e.zero)))
  |false=>False
 |_,_=>False
def yL (st:St) (dst:Nat) (t:TypeId) (l c:AV) (K:AV->St->Prop):Prop:=
 match Yb T t with
 |none=>JO T st dst t l c K
 |some p=>match l,c with
  | .at (.data _ (.int _) n), .at (.data _ (.int _) m)=>match Nat.blt dst Aj with
   |true=>(0<=n/\n<Bj+1)/\n=m/\K (.at (.own dst 0 (List.replicate n.toNat ([]:List p.2.den)).length)) (Ky st dst dst (.Ak p.2 p.1 (List.replicate n.toNat []) none none))
   |false=>False
  |_,_=>False
def Zn (st:St) (dst:Nat) (t:TypeId) (len:Nat) (parts:Array (Nat×Operand)) (K:AV->St->Prop):Prop:=
 match Yb T t with
 |none=>Dy (Hk T st dst t len parts) λr=>K r.1 r.2
 |some p=>match parts.toList with
  | [(0,x)]=>match st.ev x with
   | .at (.own m off ln)=>match st.at m with
    |some (.arr _ _ e' _ xs)=>if h:e'=p.2/\(Nat.beq len 1&&(Nat.blt dst Aj&&Nat.blt m Aj))=true then off=0/\ln=xs.length/\K (.at (.own dst 0 1)) (Ky st dst m (.Ak p.2 p.1 [h.1▸xs] none none)) else False
    |_=>False
   |_=>False
  |_=>False
def m6 (st:St) (dst:Nat) (t:TypeId) (x y:Operand) (K:AV->St->Prop):Prop:=
 match Yb T t with
 |none=>m4 T st dst t x y K
 |some p=>match st.ev x,st.ev y with
  | .at (.own l off len), .at (.own m JS mW)=>match st.at l,st.at m with
   |some (.Ak e1 te1 A none _),some (.Ak e2 pK B none _)=>
    if h:(e1=p.2/\e2=p.2)/\(decide (te1=p.1)&&decide (pK=p.1)&&(Nat.blt l Aj&&(Nat.blt m Aj&&!Nat.beq m l)))=true then
     (off=0/\len=A.length)/\(JS=0/\mW=B.length)/\0<B.length/\A.length+B.length<=Bj/\
      K (.at (.own l 0 (List.length ((h.1.1▸A:List (List p.2.den))++(h.1.2▸B:List (List p.2.den)))))) (Ky st l m (.Ak p.2 p.1 ((h.1.1▸A:List (List p.2.den))++(h.1.2▸B:List (List p.2.den))) none none))
    else False
   |_,_=>False
  |_,_=>False
def aF (st:St) (io:Bool) (k:Nat):(c:CK)->AC->(c.den->List (Nat×Loc)->Prop)->Prop
 | .Ew τ, .own l off len,K=>Dy (Bm st τ (.own l off len)) λp=>K p.2 [(Bq false k, .view l)]
 | .Ew τ, .clo g Bv,K=>match Vm st (Bv.map (·.1))&&!τ.Ac with
  |true=>Dy (Fk st τ (.clo g Bv)) λp=>K p.2 (views k (Bv.map (·.1)))
  |false=>False
 | .Ew τ, .Dw l i,K=>match Vm st [l]&&!τ.Ac with
  |true=>Dy (Fk st τ (.Dw l i)) λp=>K p.2 (views k [l])
  |false=>False
 | .Ew τ, .sub l i c,K=>Dy (Bm st τ (.sub l i c)) λp=>K p.2 [(Bq false k, .view l)]
 | .Ew τ,a,K=>match τ.flat||a.settled with
  |true=>Dy (Bm st τ a) λp=>K p.2 []
  |false=>False
 | .row e te, .own l off len,K=>match st.at l with
  |some (.arr _ _ e' Lc xs)=>if h:e'=e/\Lc=te then off=0/\len=xs.length/\K (h.1▸xs:List e.den) [(Bq io k, .row l)] else False
  |_=>False
 | .row e _, .sub l i c,K=>match st.at l with
  |some (.Dg e' _ xs)=>if h:e'= .slice e/\e.flat=true/\io=true/\c=0 then ∃y,xs[i]?=some y/\K (h.1▸y:(Ty.slice e).den) [(Bq io k, .sub l i c)] else False
  |_=>False
 | .row _ _, .Hp,K=>K [] []
 | .Dt e te, .own l off len,K=>match st.at l with
  |some (.Dg e' Lc xs)=>if h:e'=e/\Lc=te then off=0/\len=xs.length/\K (h.1▸xs:List e.den) [(Bq io k, .row l)] else False
  |_=>False
 | .Dt e _, .sub l i c,K=>match st.at l with
  |some (.Dg e' _ xs)=>if h:e'= .slice e/\io=true/\c=0 then ∃y,xs[i]?=some y/\K (h.1▸y:(Ty.slice e).den) [(Bq io k, .sub l i c)] else False
  |_=>False
 | .Dt _ _, .Hp,K=>K [] []
 | .part e te, .own l off len,K=>match st.at l with
  |some (.arr _ _ e' Lc xs)=>if h:e'=e/\Lc=te/\e.flat=true/\io=true then K ((h.1▸xs:List e.den),off,len) [(Bq io k, .row l)] else False
  |_=>False
 | .Ak e te _, .own l off len,K=>match st.at l with
  |some (.Ak e' Lc rows none _)=>if h:e'=e/\Lc=te/\io=false then off=0/\len=rows.length/\K (h.1▸rows:List (List e.den)) [(Bq io k, .row l)] else False
  |_=>False
 |_,_,_=>False
def tT (st:St):(k:Nat)->(cs:List (Bool×CK))->List AC->(Ins.den cs->List (Nat×Loc)->Prop)->Prop
 |_,[],[],K=>K () []
 |k,p::r,a::as,K=>aF st p.1 k p.2 a λx t1=>tT st (k+1) r as λy t2=>K (x,y) (t1++t2)
 |_,_,_,_=>False
def kJ (st:St):(c:CK)->c.den->AC->(St->Prop)->Prop
 | .row e _,ys, .own l _ len,K=>match st.at l with
  |some (.arr fr tr e' te xs)=>if h:e=e' then (List.length ys=len/\xs.length=len)/\K (st.Gb l (.arr (fr&&e'.flat) (tr&&e'.flat) e' te (h▸ys))) else False
  |_=>False
 | .Dt e _,ys, .own l _ len,K=>match st.at l with
  |some (.Dg e' te xs)=>if h:e=e' then (List.length ys=len/\xs.length=len)/\K (st.Gb l (.Dg e' te (h▸ys))) else False
  |_=>False
 | .row e _,ys, .sub l i _,K=>match st.at l with
  |some (.Dg e' te xs)=>if h: .slice e=e' then ∃y,xs[i]?=some y/\List.length ys=List.length (h▸y:(Ty.slice e).den)/\K (st.Gb l (.Dg e' te (xs.set i (h▸(ys:(Ty.slice e).den))))) else False
  |_=>False
 | .Dt e _,ys, .sub l i _,K=>match st.at l with
  |some (.Dg e' te xs)=>if h: .slice e=e' then ∃y,xs[i]?=some y/\List.length ys=List.length (h▸y:(Ty.slice e).den)/\K (st.Gb l (.Dg e' te (xs.set i (h▸(ys:(Ty.slice e).den))))) else False
  |_=>False
 |_,_, .Hp,K=>K st
 |_,_,_,_=>False
def KO (st:St) (e:Ty) (ys:List e.den):AC->(St->Prop)->Prop
 | .own l _ _,K=>match st.at l with
  |some (.arr fr tr e' te xs)=>if h:e=e' then List.length ys=xs.length/\K (st.Gb l (.arr fr tr e' te (h▸ys))) else False
  |_=>False
 |_,_=>False
def cD:(cs:List (Bool×CK))->IOs.den cs->List AC->St->(St->Prop)->Prop
 | [],_,_,st,K=>K st
 |(true, .Ew _)::r,x,_::as,st,K=>cD r x as st K
 |(true, .row e te)::r,x,a::as,st,K=>kJ st (.row e te) x.1 a λst'=>cD r x.2 as st' K
 |(true, .Dt e te)::r,x,a::as,st,K=>kJ st (.Dt e te) x.1 a λst'=>cD r x.2 as st' K
 |(true, .part e _)::r,x,a::as,st,K=>KO st e x.1 a λst'=>cD r x.2 as st' K
 |(true, .Ak _ _ _)::r,x,_::as,st,K=>cD r x as st K
 |(false,_)::r,x,_::as,st,K=>cD r x as st K
 |_,_,_,_,_=>False
def oa (H:List (Nat×OB)) (ls:List Nat) (n:Nat):List AV->Prop->Prop
 | [],K=>K
 | .at (.sub l i _)::r,K=>match ls.contains l with
  |true=>(i<n/\i<lF H l)/\oa H ls n r K
  |false=>oa H ls n r K
 |_::r,K=>oa H ls n r K
def xT (st:St) (dst:Option Nat) (s:MSpec) (args:List AV) (K:AV->St->Prop):Prop:=
 Dy (BM st s args) λq=>Dy (ungroup s.Ha q.2.2) λiO=>tT st 0 s.ins (q.2.1++iO) λx tks=>
  match Sv (tks.map λt=>t.2.Px)&&su (Lq s tks (dst.getD 0)) (s.outs.length+(fS s (dst.getD 0)).length)&&Nat.blt s.outs.length 1000&&Nat.blt s.ins.length 1000&&(Ow s.ins q.2.1&&q.1.all λl=>!((tks.map λt=>t.2.Px)++Lq s tks (dst.getD 0)).contains l) with
  |true=> ∃p,s.fn x=some p/\cD s.ins p.2 (q.2.1++iO) st λst1=>Dy (PJ s (dst.getD 0) ((Ve (Bu (Lq s tks (dst.getD 0))) 0 s.outs p.1).drop s.Td)) λv=>
    oa (fc st st1 (dst.getD 0) s q.1 tks p.1).heap (Va st.heap (Lq s tks (dst.getD 0)) tks s.keeps) (s.Cr x) st.tmps
     (K v (fG st (fc st st1 (dst.getD 0) s q.1 tks p.1) (Va st.heap (Lq s tks (dst.getD 0)) tks s.keeps) (s.Cr x)))
  |false=>False
def SJ (w:WS) (o:Oper) (K:AV->WS->Prop):Prop:=
 match o.op with
 | .store t p x=>tE T w.st t (w.st.ev p) (w.st.ev x) λs=>K .undef (w.to s)
 | .makeSlice t l c=>Dy o.dst λd=>yL T w.st d t (w.st.ev l) (w.st.ev c) λv s=>K v (w.to s)
 | .call {callee:= .builtin .append,args,argTypes} =>match o.dst,args.toList,argTypes.toList with
  |some d,[x,y],[t,t']=>if t=t' then m6 T w.st d t x y λv s=>K v (w.to s) else False
  |_,_,_=>False
 | .assign _=>Dy (evalOp T Γ w.st o) λr=>K r.1 (w.to r.2)
 | .alloc _=>Dy (evalOp T Γ w.st o) λr=>K r.1 (w.to r.2)
 | .box _ _=>Dy (evalOp T Γ w.st o) λr=>K r.1 (w.to r.2)
 | .buildSlice t len parts=>Dy o.dst λd=>Zn T w.st d t len parts λv s=>K v (w.to s)
 | .build _ _=>Dy (evalOp T Γ w.st o) λr=>K r.1 (w.to r.2)
 | .makeMap _ _=>Dy (evalOp T Γ w.st o) λr=>K r.1 (w.to r.2)
 | .mapUpdate _ _ _ _=>Dy (evalOp T Γ w.st o) λr=>K r.1 (w.to r.2)
 | .insert _ _ _ _=>Dy (evalOp T Γ w.st o) λr=>K r.1 (w.to r.2)
 | .call {callee:= .builtin .copy, .. } =>Dy (evalOp T Γ w.st o) λr=>K r.1 (w.to r.2)
 | .call {callee:= .builtin .clear, .. } =>Dy (evalOp T Γ w.st o) λr=>K r.1 (w.to r.2)
 | .call {callee:= .value (.func f),args, .. } =>match Γ f with
  |some (.m s)=>xT w.st o.dst s (args.toList.map w.st.ev) λv s'=>K v (w.to s')
  |some (.q s)=>match aa s (args.toList.map w.st.ev) with
   |true=>Dy (Jl args.toList w.st) λst1=>qW T Γ (w.to st1) o K
   |false=>qW T Γ w o K
  |_=>qW T Γ w o K
 |_=>qW T Γ w o K
def AV.JF:AV->Bool
 | .at .skip=>true
 |_=>false
def bW (w:WS) (o:Oper) (K:AV->WS->Prop):Prop:=
 match o.op with
 | .buildSlice t len parts=>Dy (Uq T w.st t len parts) λv=>K v w
 | .build t parts=>Dy (Qh T w.st t parts) λv=>K v w
 |_=>qW T Γ w o K
def eI (ops:Array Oper) (w:WS) (o:Oper) (run:(AV->WS->Prop)->WS->Prop) (K:WS->Prop):Prop:=
 match o.guard with
 |none=>run (λv w'=>K (w'.po o v)) w
 |some (j,want)=>Dy ((ops[j]?).bind (·.dst)) λt=>match (w.st.get t).JF with
  |true=>K (w.put o.dst (.at .skip))
  |false=>brT w t λb w'=>match b,want with
   |true,true=>run (λv ow=>K (ow.po o v)) w'
   |false,false=>run (λv ow=>K (ow.po o v)) w'
   |_,_=>K (w'.put o.dst (.at .skip))
def VH (ops:Array Oper):List Oper->WS->(WS->Prop)->Prop
 | [],w,K=>K w
 |o::r,w,K=>eI ops w o (λk w'=>SJ T Γ w' o k) λw'=>VH ops r w' K
def IW (ops:Array Oper):List Nat->WS->(WS->Prop)->Prop
 | [],w,K=>K w
 |i::r,w,K=>Dy ops[i]? λo=>eI ops w o (λk w'=>SJ T Γ w' o k) λw'=>IW ops r w' K
def qf (ops:Array Oper):List Nat->WS->(WS->Prop)->Prop
 | [],w,K=>K w
 |i::r,w,K=>Dy ops[i]? λo=>eI ops w o (λk w'=>bW T Γ w' o k) λw'=>qf ops r w' K
def NB:List Nat->(Nat->Prop)->Prop
 | [],_=>True
 | [i],P=>P i
 |i::j::r,P=>P i/\NB (j::r) P
def CC (ops:Array Oper):Nat->Array Bool->WS->(WS->Prop)->Prop
 |0,Ad,w,K=>match Region.ready .any ops Ad with
  | []=>K w
  |_::_=>False
 |f+1,Ad,w,K=>match Region.ready .any ops Ad with
  | []=>False
  |i::r=>NB (i::r) λk=>Dy ops[k]? λo=>eI ops w o (λkk w'=>SJ T Γ w' o kk) λw'=>CC ops f (Ad.setIfInBounds k true) w' K
def XA:AC->Type->Type
 | .data _ τ _,R=>τ.den×R
 | .sub _ _ _,R=>Nat×R
 | .Fz _ _,R=>Nat×R
 | .Fw _ _ _,R=>Nat×Nat×R
 |_,R=>R
def xK:List AC->Type->Type
 | [],R=>R
 |c::r,R=>XA c (xK r R)
def XB:AV->Type->Type
 | .at a,R=>XA a R
 | .agg cs,R=>xK cs R
 | .Uj _ τ _,R=>τ.den×R
 | .Iw _,R=>R
def obV:OB->Type->Type
 | .arr _ _ e _ _,R=>List e.den×R
 | .Dg e _ _,R=>List e.den×R
 | .var _ vs,R=>xK vs R
 | .Ak e _ _ _ none,R=>List (List e.den)×R
 | .Ak e _ _ _ (some _),R=>List (List e.den)×(Nat×R)
 | .Oh v _,R=>(ByteArray->Option v.den)×R
def kX:List AV->Type->Type
 | [],R=>R
 |v::r,R=>XB v (kX r R)
def qg:List (Nat×OB)->Type->Type
 | [],R=>R
 |p::r,R=>obV p.2 (qg r R)
def stV (s:St):Type:=kX s.tmps (qg s.heap Unit)
def zY:(c:AC)-> {R:Type} ->R->XA c R
 | .data _ _ x,_,r=>(x,r)
 | .undef,_,r=>r
 | .skip,_,r=>r
 | .Hp,_,r=>r
 | .Qs,_,r=>r
 | .own _ _ _,_,r=>r
 | .Dw _ _,_,r=>r
 | .Fz _ i,_,r=>(i,r)
 | .clo _ _,_,r=>r
 | .Gi _,_,r=>r
 | .sub _ i _,_,r=>(i,r)
 | .Fw _ i j,_,r=>(i,j,r)
def lX:(l:List AC)-> {R:Type} ->R->xK l R
 | [],_,r=>r
 |c::l,_,r=>zY c (lX l r)
def QM:(c:AV)-> {R:Type} ->R->XB c R
 | .at a,_,r=>zY a r
 | .agg cs,_,r=>lX cs r
 | .Uj _ _ x,_,r=>(x,r)
 | .Iw _,_,r=>r
def SI:(b:OB)-> {R:Type} ->R->obV b R
 | .arr _ _ _ _ xs,_,r=>(xs,r)
 | .Dg _ _ xs,_,r=>(xs,r)
 | .var _ vs,_,r=>lX vs r
 | .Ak _ _ rows _ none,_,r=>(rows,r)
 | .Ak _ _ rows _ (some p),_,r=>(rows,p.2,r)
 | .Oh _ m,_,r=>(m,r)
def lP:(l:List AV)-> {R:Type} ->R->kX l R
 | [],_,r=>r
 |c::l,_,r=>QM c (lP l r)
def lG:(l:List (Nat×OB))-> {R:Type} ->R->qg l R
 | [],_,r=>r
 |p::l,_,r=>SI p.2 (lG l r)
def BQ (s:St):stV s:=lP s.tmps (lG s.heap ())
def iV:(c d:AC)-> {R:Type} ->R->Option (XA c R)
 | .data fr τ _, .data On Iy x,_,r=>if h:Iy=τ/\On=fr then some (h.1▸x,r) else none
 | .undef, .undef,_,r=>some r
 | .skip, .skip,_,r=>some r
 | .Hp, .Hp,_,r=>some r
 | .Qs, .Qs,_,r=>some r
 | .own l _ _, .own l' _ _,_,r=>if l=l' then some r else none
 | .Dw l i, .Dw l' i',_,r=>if l=l'/\i=i' then some r else none
 | .Fz l _, .Fz l' i',_,r=>if l=l' then some (i',r) else none
 | .clo f c, .clo f' c',_,r=>if f=f'/\c=c' then some r else none
 | .Gi l, .Gi l',_,r=>if l=l' then some r else none
 | .sub l _ c, .sub l' i' c',_,r=>if l=l'/\c=c' then some (i',r) else none
 | .Fw l _ _, .Fw l' i' j',_,r=>if l=l' then some (i',j',r) else none
 |_,_,_,_=>none
def Lp:(l m:List AC)-> {R:Type} ->R->Option (xK l R)
 | [],[],_,r=>some r
 |c::l,d::m,_,r=>(Lp l m r).bind λr'=>iV c d r'
 |_,_,_,_=>none
def fg:(c d:AV)-> {R:Type} ->R->Option (XB c R)
 | .at a, .at b,_,r=>iV a b r
 | .agg cs, .agg ds,_,r=>Lp cs ds r
 | .Uj fr τ _, .Uj On Iy x,_,r=>if h:Iy=τ/\On=fr then some (h.1▸x,r) else none
 |_,_,_,_=>none
def Mj:(b d:OB)-> {R:Type} ->R->Option (obV b R)
 | .arr fr tr e tid _, .arr On LU e' Nr xs,_,r=>if h:e'=e/\On=fr/\LU=tr/\Nr=tid then some (h.1▸xs,r) else none
 | .Dg e tid _, .Dg e' Nr xs,_,r=>if h:e'=e/\Nr=tid then some (h.1▸xs,r) else none
 | .Oh v _, .Oh v' m,_,r=>if h:v'=v then some (h▸m,r) else none
 | .var t vs, .var t' us,_,r=>if t'=t then Lp vs us r else none
 | .Ak e te _ out none, .Ak e' Lc rows br none,_,r=>if h:e'=e/\Lc=te/\br=out then some (h.1▸rows,r) else none
 | .Ak e te _ out (some p), .Ak e' Lc rows br (some p'),_,r=>if h:e'=e/\Lc=te/\br=out/\p'.1=p.1 then some (h.1▸rows,p'.2,r) else none
 |_,_,_,_=>none
def Jm:(l m:List AV)-> {R:Type} ->R->Option (kX l R)
 | [],[],_,r=>some r
 |c::l,d::m,_,r=>(Jm l m r).bind λr'=>fg c d r'
 |_,_,_,_=>none
def Ki:(l m:List (Nat×OB))-> {R:Type} ->R->Option (qg l R)
 | [],[],_,r=>some r
 |p::l,q::m,_,r=>if q.1=p.1 then (Ki l m r).bind λr'=>Mj p.2 q.2 r' else none
 |_,_,_,_=>none
def cX (s t:St):Option (stV s):=(Ki s.heap t.heap ()).bind λr=>Jm s.tmps t.tmps r
def fb:(c:AC)-> {R:Type} ->XA c R->AC×R
 | .data fr τ _,_,v=>(.data fr τ v.1,v.2)
 | .undef,_,r=>(.undef,r)
 | .skip,_,r=>(.skip,r)
 | .Hp,_,r=>(.Hp,r)
 | .Qs,_,r=>(.Qs,r)
 | .own l off len,_,r=>(.own l off len,r)
 | .Dw l i,_,r=>(.Dw l i,r)
 | .Fz l _,_,v=>(.Fz l v.1,v.2)
 | .clo f c,_,r=>(.clo f c,r)
 | .Gi l,_,r=>(.Gi l,r)
 | .sub l _ c,_,v=>(.sub l v.1 c,v.2)
 | .Fw l _ _,_,v=>(.Fw l v.1 v.2.1,v.2.2)
def Th:(l:List AC)-> {R:Type} ->xK l R->List AC×R
 | [],_,r=>([],r)
 |c::l,_,v=>((fb c v).1::(Th l (fb c v).2).1,(Th l (fb c v).2).2)
def m9:(c:AV)-> {R:Type} ->XB c R->AV×R
 | .at a,_,v=>(.at (fb a v).1,(fb a v).2)
 | .agg cs,_,v=>(.agg (Th cs v).1,(Th cs v).2)
 | .Uj fr τ _,_,v=>(.Uj fr τ v.1,v.2)
 | .Iw l,_,r=>(.Iw l,r)
def nk:(b:OB)-> {R:Type} ->obV b R->OB×R
 | .arr fr tr e tid _,_,v=>(.arr fr tr e tid v.1,v.2)
 | .Dg e tid _,_,v=>(.Dg e tid v.1,v.2)
 | .Oh w _,_,v=>(.Oh w v.1,v.2)
 | .var t vs,_,v=>(.var t (Th vs v).1,(Th vs v).2)
 | .Ak e te _ out none,_,v=>(.Ak e te v.1 out none,v.2)
 | .Ak e te _ out (some p),_,v=>(.Ak e te v.1 out (some (p.1,v.2.1)),v.2.2)
def Pq:(l:List AV)-> {R:Type} ->kX l R->List AV×R
 | [],_,r=>([],r)
 |c::l,_,v=>((m9 c v).1::(Pq l (m9 c v).2).1,(Pq l (m9 c v).2).2)
def Ye:(l:List (Nat×OB))-> {R:Type} ->qg l R->List (Nat×OB)×R
 | [],_,r=>([],r)
 |p::l,_,v=>((p.1,(nk p.2 v).1)::(Ye l (nk p.2 v).2).1,(Ye l (nk p.2 v).2).2)
def cW (s:St) (v:stV s):St:= {tmps:=(Pq s.tmps v).1,heap:=(Ye s.heap (Pq s.tmps v).2).1}
def lenOf (H:List (Nat×OB)) (l:Nat):Nat:=match Ae H l with|some (.arr _ _ _ _ xs)=>xs.length|some (.Dg _ _ xs)=>xs.length|some (.Ak _ _ rows _ _)=>rows.length|_=>0
def Sr (ps:List Nat):List AV->List (Nat×Nat×Nat)
 | []=> []
 | .at (.own l off len)::r=>if ps.contains l then (l,off,len)::Sr ps r else Sr ps r
 |_::r=>Sr ps r
def VE:List (Nat×Nat×Nat)->Nat->Nat
 | [],_=>0
 |(k,o,_)::r,l=>if k=l then o else VE r l
def DE:List (Nat×Nat×Nat)->List (Nat×OB)->Nat->Nat
 | [],H,l=>lenOf H l
 |(k,_,n)::r,H,l=>if k=l then n else DE r H l
def aJ (B:List (Nat×Nat×Nat)) (H:List (Nat×OB)):AC->AC
 | .own l _ _=> .own l (VE B l) (DE B H l)
 |c=>c
def St.whole (B:List (Nat×Nat×Nat)) (s:St):St:=s.Gh (aJ B s.heap)
def ry (B:List (Nat×Nat×Nat)) (H:List (Nat×OB)) (c:AC) (K:Prop):Prop:=match c with
 | .own l off len=>off=VE B l/\len=DE B H l/\K
 |_=>K
def Xn (B:List (Nat×Nat×Nat)) (H:List (Nat×OB)):List AC->Prop->Prop
 | [],K=>K
 |c::r,K=>ry B H c (Xn B H r K)
def AA (B:List (Nat×Nat×Nat)) (H:List (Nat×OB)) (c:AV) (K:Prop):Prop:=match c with
 | .at a=>ry B H a K
 | .agg cs=>Xn B H cs K
 | .Uj _ _ _=>K
 | .Iw _=>False
def Ui (B:List (Nat×Nat×Nat)) (H:List (Nat×OB)):List AV->Prop->Prop
 | [],K=>K
 |c::r,K=>AA B H c (Ui B H r K)
def dx (B:List (Nat×Nat×Nat)) (H:List (Nat×OB)):List (Nat×OB)->Prop->Prop
 | [],K=>K
 |p::r,K=>match p.2 with
  | .var _ vs=>Xn B H vs (dx B H r K)
  |_=>dx B H r K
def tC (B:List (Nat×Nat×Nat)) (s:St) (K:Prop):Prop:=Ui B s.heap s.tmps (dx B s.heap s.heap K)
def AV.Qq:AV->Bool
 | .at (.data _ _ _)=>true
 |_=>false
def Hl (p:Nat->Bool):Nat->List AV->List Bool
 |_,[]=> []
 |i,v::r=>(v.Qq&&p i)::Hl p (i+1) r
def stays (live:Nat->List Nat) (c:Code) (t:Nat):Bool:=!(writes c).contains t&&Uz live c t
def Nz:List Bool->List AV->List AV
 |true::f,_::r=> .undef::Nz f r
 |false::f,v::r=>v::Nz f r
 |_,l=>l
def Pe:List Bool->List AV->List AV->List AV
 |true::f,a::s,_::r=>a::Pe f s r
 |false::f,_::s,v::r=>v::Pe f s r
 |_,_,l=>l
def St.mask (fx:List Bool) (s:St):St:= {tmps:=Nz fx s.tmps,heap:=s.heap}
def St.pb (fx:List Bool) (s0 s:St):St:= {tmps:=Pe fx s0.tmps s.tmps,heap:=s.heap}
def lC (c:AC) (k:AC->Prop):Prop:=match c with
 | .undef=>k .undef
 | .skip=>k .skip
 | .Hp=>k .Hp
 | .Qs=>k .Qs
 | .data fr τ x=>match fr with
  |true=>k (.data true τ x)
  |false=>k (.data false τ x)
 | .own l off len=>k (.own l off len)
 | .Dw l i=>k (.Dw l i)
 | .Fz l i=>k (.Fz l i)
 | .clo f c=>k (.clo f c)
 | .Gi l=>k (.Gi l)
 | .sub l i c=>k (.sub l i c)
 | .Fw l i c=>k (.Fw l i c)
def bY:List AC->(List AC->Prop)->Prop
 | [],k=>k []
 |c::r,k=>lC c λc'=>bY r λr'=>k (c'::r')
def rX (c:AV) (k:AV->Prop):Prop:=match c with
 | .at a=>lC a λa'=>k (.at a')
 | .agg cs=>bY cs λbP=>k (.agg bP)
 | .Uj fr τ x=>k (.Uj fr τ x)
 | .Iw l=>k (.Iw l)
def bZ:List AV->(List AV->Prop)->Prop
 | [],k=>k []
 |c::r,k=>rX c λc'=>bZ r λr'=>k (c'::r')
def rY (b:OB) (k:OB->Prop):Prop:=match b with
 | .arr fr tr e tid xs=>match fr,tr with
  |true,true=>k (.arr true true e tid xs)
  |true,false=>k (.arr true false e tid xs)
  |false,true=>k (.arr false true e tid xs)
  |false,false=>k (.arr false false e tid xs)
 | .Dg e tid xs=>k (.Dg e tid xs)
 | .var t vs=>bY vs λur=>k (.var t ur)
 | .Ak e te rows out kp=>match out,kp with
  |none,none=>k (.Ak e te rows none none)
  |none,some (l,n)=>k (.Ak e te rows none (some (l,n)))
  |some i,none=>k (.Ak e te rows (some i) none)
  |some i,some (l,n)=>k (.Ak e te rows (some i) (some (l,n)))
 | .Oh v m=>k (.Oh v m)
def mw:List (Nat×OB)->(List (Nat×OB)->Prop)->Prop
 | [],k=>k []
 |(l,b)::r,k=>rY b λb'=>mw r λr'=>k ((l,b')::r')
def jc (w:WS) (k:WS->Prop):Prop:=bZ w.st.tmps λt=>mw w.st.heap λh=>k {kn:=w.kn,st:= {tmps:=t,heap:=h} }
def jb (s:St) (k:St->Prop):Prop:=bZ s.tmps λt=>mw s.heap λh=>k {tmps:=t,heap:=h}
def dt:List Bool->(List Bool->Prop)->Prop
 | [],k=>k []
 |true::r,k=>dt r λr'=>k (true::r')
 |false::r,k=>dt r λr'=>k (false::r')
theorem kq {c:AC} {k:AC->Prop} :lC c k↔k c:=by
 cases c<;>simp only [lC]
 split<;>rfl
theorem Zu: ∀ {l:List AC} {k:List AC->Prop},bY l k↔k l
 | [],k=>Iff.rfl
 |c::r,k=>by simp only [bY];rw [kq,Zu]
theorem vo {c:AV} {k:AV->Prop} :rX c k↔k c:=by
 cases c<;>simp only [rX]
 ·exact kq
 ·exact Zu
theorem Zv: ∀ {l:List AV} {k:List AV->Prop},bZ l k↔k l
 | [],k=>Iff.rfl
 |c::r,k=>by simp only [bZ];rw [vo,Zv]
theorem vq {b:OB} {k:OB->Prop} :rY b k↔k b:=by
 cases b<;>simp only [rY]
 ·split<;>rfl
 ·exact Zu
 ·split<;>rfl
theorem fq: ∀ {l:List (Nat×OB)} {k:List (Nat×OB)->Prop},mw l k↔k l
 | [],k=>Iff.rfl
 |(l,b)::r,k=>by simp only [mw];rw [vq,fq]
theorem CO {s:St} {k:St->Prop} :jb s k=k s:=by
 unfold jb
 exact propext (by rw [Zv,fq])
theorem fp: ∀ {l:List Bool} {k:List Bool->Prop},dt l k=k l
 | [],k=>rfl
 |true::r,k=>by simp only [dt];rw [fp]
 |false::r,k=>by simp only [dt];rw [fp]
theorem Zw {w:WS} {k:WS->Prop} :jc w k↔k w:=by
 unfold jc
 rw [Zv,fq]
def Um:AC->List (Nat×Nat)
 | .own _ off len=> [(off,len)]
 |_=> []
def Uo:AV->List (Nat×Nat)
 | .at a=>Um a
 | .agg cs=>cs.flatMap Um
 |_=> []
def fO:OB->List (Nat×Nat)
 | .var _ vs=>vs.flatMap Um
 |_=> []
def zE (s:St):List (Nat×Nat):=s.tmps.flatMap Uo++s.heap.flatMap λp=>fO p.2
def eqW (s0 s:St):Prop:=zE s=zE s0/\Dy (cX s0 s) λv=>v=BQ s0
def ja (ops:Array Oper):Nat->Array Bool->WS->(WS->Prop)->Prop
 |0,Ad,w,K=>match Region.ready .any ops Ad with
  | []=>K w
  |_::_=>False
 |f+1,Ad,w,K=>match Region.ready .any ops Ad with
  | []=>False
  |k::_=>Dy ops[k]? λo=>eI ops w o (λkk w'=>SJ T Γ w' o kk) λw'=>ja ops f (Ad.setIfInBounds k true) w' K
def uF (P:List (Nat×Nat×AV×OB)) (ops:Array Oper):Nat->Array Bool->WS->(WS->Prop)->Prop
 |0,Ad,w,K=>match Region.ready .any ops Ad with
  | []=>K w
  |_::_=>False
 |f+1,Ad,w,K=>match Region.ready .any ops Ad with
  | []=>False
  |i::r=>NB (i::r) λk=>Dy ops[k]? λo=>match yS P Γ ops w.st o k with
   |true=>eI ops w o (λkk w'=>SJ T Γ w' o kk) λw'=>uF P ops f (Ad.setIfInBounds k true) w' K
   |false=>False
def rG (P:List (Nat×Nat×AV×OB)) (n:Nat) (L0:Array Bool) (ops:Array Oper) (w:WS) (K:WS->Prop):Prop:=
 match (Sv (P.map (·.1))&&Sv (P.map (·.2.1)))&&((P.all λa=>jt a.2.1 w.st)&&(Nat.ble P.length n&&Nat.ble (n-P.length) 10)) with
 |true=>IW T Γ ops (P.map (·.1)) w λw1=>jc w1 λw1=>ja T Γ ops (n-P.length) (Ef (P.map (·.1)) L0) w1 λw0=>jc w0 λw0=>K w0/\uF T Γ P ops (n-P.length) (Ef (P.map (·.1)) L0) w1 λw2=>eqW w0.st w2.st
 |false=>False
def sZ (ops:Array Oper) (draw:Bool) (w:WS) (K:WS->Prop):Prop:=
 match draw with
 |true=>match dD false Γ ops with
  |true=>qf T Γ ops (dw false Γ ops) w λw'=>IW T Γ ops (Fe false Γ ops) w' K
  |false=>match dD true Γ ops with
   |true=>qf T Γ ops (dw true Γ ops) w λw'=>IW T Γ ops (Fe true Γ ops) w' K
   |false=>match Region.noSelect ops&&Nat.ble (ops.size-(Jz ops).length) 8 with
    |true=>qf T Γ ops (Jz ops) w λw'=>match dr false ops with
     |true=>CC T Γ ops (ops.size-(Jz ops).length) (Ef (Jz ops) (Array.replicate ops.size false)) w' K
     |false=>ja T Γ ops (ops.size-(Jz ops).length) (Ef (Jz ops) (Array.replicate ops.size false)) w' λw0=>jc w0 λw0=>K w0/\CC T Γ ops (ops.size-(Jz ops).length) (Ef (Jz ops) (Array.replicate ops.size false)) w' λw1=>eqW w0.st w1.st
    |false=>match Region.noSelect ops with
     |true=>qf T Γ ops (Jz ops) w λw'=>rG T Γ (Rv T ops (Ef (Jz ops) (Array.replicate ops.size false))) (ops.size-(Jz ops).length) (Ef (Jz ops) (Array.replicate ops.size false)) ops w' K
     |false=>False
 |false=>VH T Γ ops ops.toList w K
def Xr (live:Nat->List Nat):Code->WS->(Gv->WS->Prop)->Prop
 | .skip,w,Q=>Q .normal w
 | .label _,w,Q=>Q .normal w
 | .region _ ops draw,w,Q=>sZ T (sY Γ draw) ops draw w λw'=>jc w' (Q .normal)
 | .seq a b,w,Q=>Xr live a w λe w'=>match e with
  | .normal=>Xr live b w' Q
  | .exit id=>Q (.exit id) w'
  | .ret=>Q .ret w'
 | .cond c a b,w,Q=>brO w c λt w'=>match t with
  |true=>Xr live a w' Q
  |false=>Xr live b w' Q
 | .block id c,w,Q=>Xr live c w λe w'=>match e with
  | .normal=>Q .normal w'
  | .exit CZ=>if CZ=id then Q .normal w' else Q (.exit CZ) w'
  | .ret=>Q .ret w'
 | .loop c,w,Q=>
  jb (w.st.clean (live (Ce c))) λs0=>dt (Hl (stays live c) 0 s0.tmps) λfx=>jb (s0.mask fx) λm=>
  tC (Sr T.parts s0.tmps) s0 (Bs (V:=stV m) (λv k=>jb ((St.pb fx s0 (cW m v)).whole (Sr T.parts s0.tmps)) λsb=>Xr live c ⟨[],sb⟩ λe w'=>match e with
   | .normal=>jb (w'.st.clean (live (Ce c))) λs1=>tC (Sr T.parts s0.tmps) s1 (Dy (cX m (s1.mask fx)) k)
   | .exit id=>Q (.exit id) w'
   | .ret=>Q .ret w') (BQ m))
 | .exit id,w,Q=>Q (.exit id) w
 | .ret,w,Q=>Q .ret w
 |_,_,_=>False
def SW (s:Spec) (fn:Func) (P:s.res.den->Prop) (st:St):Prop:=
 Dy (gJ T s fn st) λp=>match p.1||!s.fresh with|true=>P p.2|false=>False
def cj (st:St) (K:Prop):List AC->List (Bool×CK)->Prop
 | .own l off len::as,(true,_)::r=>match st.at l with
  |some (.arr _ _ _ _ xs)=>(off=0/\len=xs.length)/\cj st K as r
  |some (.Dg _ _ xs)=>(off=0/\len=xs.length)/\cj st K as r
  |_=>False
 |_::as,(false,_)::r=>cj st K as r
 |_,_=>K
def jv (st:St):(cs:List CK)->List AC->(CKs.den cs->List Nat->Prop)->Prop
 | [],[],K=>K () []
 | .Ak e te _::r, .own l off len::as,K=>match st.at l with
  |some (.Ak e' Lc rows none _)=>if h:e'=e/\Lc=te then (off=0/\len=rows.length)/\jv st r as λy t=>K ((h.1▸rows:List (List e.den)),y) (l::t) else False
  |_=>False
 |c::r,a::as,K=>Dy (dS st c a) λp=>jv st r as λy t=>K (p.1,y) (p.2++t)
 |_,_,_=>False
def ss (st:St) (n:Nat) (as:List AC):List (Nat×Nat)->Prop->Prop
 | [],K=>K
 |(k,j)::r,K=>match as[j]? with
  |some (.own l _ _)=>match st.at l with
   |some (.Ak _ _ _ _ (some p))=>match Nat.beq p.1 (Bq false k)&&Nat.blt k 1000 with
    |true=>n<=p.2/\ss st n as r K
    |false=>False
   |_=>False
  |_=>False
def nF (s:MSpec) (fn:Func) (x:Ins.den s.ins) (st:St) (cs:List AC) (P:CKs.den s.outs×IOs.den s.ins->Prop):Prop:=
 Dy (Xd T st fn.results.toList) λl=>Dy (zh s st l) λp=>jv st s.outs (cs++p.1) λr ls=>Dy (Je st 0 s.ins) λo=>
  match Sv (p.2++ls++Jx 0 s.ins)&&Nat.blt s.ins.length 1000&&Nat.blt s.outs.length 1000&&s.JP with
  |true=>ss st (s.Cr x) (cs++p.1) s.keeps (P (r,o))
  |false=>False
def BN (s:MSpec) (fn:Func) (x:Ins.den s.ins) (st:St) (P:CKs.den s.outs×IOs.den s.ins->Prop):Prop:=
 match s.ptr with
 |none=>nF T s fn x st [] P
 |some p=>match st.at Lo with
  |some (.var tid vs)=>match Nat.beq tid p.1&&Nat.beq vs.length p.2 with
   |true=>Dy (Ez 0 s.ins vs) λcs=>cj st (nF T s fn x st cs P) vs s.ins
   |false=>False
  |_=>False
@[irreducible] def fnMW (s:MSpec) (fn:Func) (x:Ins.den s.ins) (P:CKs.den s.outs×IOs.den s.ins->Prop):Prop:=
 match Nat.blt s.ins.length 1000&&sU s with
 |false=>False
 |true=>Dy fn.body λc=>Xr T Γ (sy T.marks fn c) c {kn:= [],st:= {tmps:=Tc s (Ux 0 s.ins x)++List.replicate (fn.ntmps-(Tc s (Ux 0 s.ins x)).length) .undef,heap:=kz s x} } λe w=>match e with
  | .normal=>BN T s fn x w.st P
  | .ret=>BN T s fn x w.st P
  | .exit _=>False
@[irreducible] def fnW (s:Spec) (fn:Func) (x:s.arg.den) (P:s.res.den->Prop):Prop:=
 Dy fn.body λc=>Xr T Γ (sy T.marks fn c) c {kn:= [],st:= {tmps:=Me s.arg x++List.replicate (fn.ntmps-(Me s.arg x).length) .undef,heap:= []} } λe w=>match e with
  | .normal=>SW T s fn P w.st
  | .ret=>SW T s fn P w.st
  | .exit _=>False
end Go.Proofs.Ytjbdmibbbpdnnaa
