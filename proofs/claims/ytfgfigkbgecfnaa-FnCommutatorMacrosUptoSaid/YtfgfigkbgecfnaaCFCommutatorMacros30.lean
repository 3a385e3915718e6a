/-
  Part 31 of the proof that the statement FnCommutatorMacros holds.
-/
import Derived.Test.YtfgfigkbgecfnaaCFCommutatorMacros29
namespace Go.Proofs.Ytfgfigkbgecfnaa
open Go.RowKit
inductive Br (b:Bool) (A B:Prop):Prop
 |mk (t:b=true->A) (f:b=false->B)
inductive Gz {V:Type} (step:V->(V->Prop)->Prop) (v0:V):Prop
 |mk (I:V->Prop) (μ:V->Nat) (h0:I v0) (h: ∀v,I v->step v (λv'=>I v'/\μ v'<μ v))
structure WS where
 kn:List (Nat×Bool)
 st:St
def ir:List (Nat×Bool)->Nat->Option Bool
 | [],_=>none
 |(k,b)::r,t=>if k=t then some b else ir r t
def pf:List (Nat×Bool)->Nat->List (Nat×Bool)
 | [],_=> []
 |(k,b)::r,t=>if k=t then pf r t else (k,b)::pf r t
def WS.put (w:WS) (dst:Option Tmp) (v:AV):WS:=
 match dst with
 |some d=> {kn:=pf w.kn d,st:=w.st.put (some d) v}
 |none=>w
def Rr (kn:List (Nat×Bool)):Operand->Option Bool
 | .const (.bool b)=>some b
 | .tmp t=>ir kn t
 |_=>none
def Fb (kn:List (Nat×Bool)) (o:Oper):Option Bool:=
 match o.op with
 | .assign x=>Rr kn x
 | .move x=>Rr kn x
 | .unOp .not _ x=>(Rr kn x).map (!·)
 | .pick c a b=>match Rr kn c with
  |some true=>Rr kn a
  |some false=>Rr kn b
  |none=>none
 |_=>none
def WS.o9 (w:WS) (o:Oper) (v:AV):WS:=
 match o.dst,Fb w.kn o with
 |some d,some b=>match (w.st.put (some d) v).get d with
  | .at (.data _ .bool _)=> {kn:=(d,b)::pf w.kn d,st:=w.st.put (some d) v}
  |_=>w.put (some d) v
 |dst,_=>w.put dst v
def WS.to (w:WS) (st:St):WS:= {kn:=w.kn,st:=st}
def SJ (w:WS) (t:Nat) (K:Bool->WS->Prop):Prop:=
 match ir w.kn t with
 |some b=>K b w
 |none=>match w.st.get t with
  | .at (.data _ .bool b)=>Br b (K true {kn:=(t,true)::w.kn,st:=w.st}) (K false {kn:=(t,false)::w.kn,st:=w.st})
  |_=>False
def SI (w:WS) (c:Operand) (K:Bool->WS->Prop):Prop:=
 match c with
 | .tmp t=>SJ w t K
 | .const (.bool b)=>K b w
 |_=>False
def Fk {α:Type} (o:Option α) (K:α->Prop):Prop:=match o with|some x=>K x|none=>False
def MQ (T:Tab) (st:St) (t:TypeId) (x:AV) (l h:Int):Option AV:=
 match x with
 | .at (.data fr (.slice e) xs)=>if (T.elem t).bind T.ty=some e then some (.at (.data fr (.slice e) ((xs.take h.toNat).drop l.toNat))) else none
 | .at (.own k off _)=>match st.at k with
  |some (.arr _ _ e tid _)=>if T.elem t=some tid/\T.ty tid=some e then some (.at (.own k (off+l.toNat) (h.toNat-l.toNat))) else none
  |_=>none
 | .at (.data _ .str s)=>if T.ty t=some .str then some (.at (.data true .str (s.extract l.toNat h.toNat))) else none
 |_=>none
variable (T:Tab) (Γ:Env)
def JZ (op:BinOp) (t:TypeId) (x y:AV) (K:AV->Prop):Prop:=
 match op,x,y with
 | .quo, .at (.data _ (.int k) a), .at (.data _ (.int k') b)=>if k=k' then b≠0/\K (.at (.data true (.int k) (k.wrap (a.tdiv b)))) else False
 | .rem, .at (.data _ (.int k) a), .at (.data _ (.int k') b)=>if k=k' then b≠0/\K (.at (.data true (.int k) (a.tmod b))) else False
 | .shl, .at (.data _ (.int k) a), .at (.data _ (.int _) b)=> ¬b<0/\K (.at (.data true (.int k) (k.wrap (a*2^(min b.toNat k.bits)))))
 | .shr, .at (.data _ (.int k) a), .at (.data _ (.int _) b)=> ¬b<0/\K (.at (.data true (.int k) (a.fdiv (2^(min b.toNat k.bits)))))
 | .add, .at (.data _ .str a), .at (.data _ .str b)=>a.size+b.size<=4294967296/\K (.at (.data true .str (a++b)))
 |op,x,y=>Fk (Po T op t x y) K
def CM (st:St) (t:TypeId) (p:AV) (K:AV->Prop):Prop:=
 match p with
 | .at (.Hj l i)=>Fk (T.ty t) λτ=>match st.at l with
  |some (.arr fr _ e _ xs)=>if e=τ then ∃x,xs[i]?=some x/\K (.at (.data (fr||e.flat) e x)) else False
  |some (.Ev e _ xs)=>if e=τ then ∃x,xs[i]?=some x/\K (if e.Ak then .agg (bF l i 0 e x) else .at ((bF l i 0 e x).headD .undef)) else False
  |some (.Bc _ _ _ none _)=>if τ.Ak then False else K (.at (.sub l i 0))
  |_=>False
 | .at (.data fr (.optr Lg) x)=>Fk (T.ty t) λτ=>if Lg=τ then ∃y,x=some y/\K (.at (.data (fr||Lg.flat) Lg y)) else False
 |p=>Fk (Ms T st t p) K
def fR (s:TypeId) (x:AV) (f:Nat) (K:AV->Prop):Prop:=
 match x with
 | .at (.data fr (.optr τ) x)=> ∃y,x=some y/\Fk (Lc T s (.at (.data fr (.ptr τ) y)) f) K
 |x=>Fk (Lc T s x f) K
def pv (st:St) (x:Operand) (K:AV->Prop) (d:Option AV):Prop:=
 match st.ev x with
 | .at (.data fr (.optr τ) x)=> ∃y,x=some y/\K (.at (.data fr (.ptr τ) y))
 |_=>Fk d K
def wL (st:St) (t:TypeId) (x:AV) (lo hi:Option AV) (K:AV->Prop):Prop:=
 Fk (tD x) λn=>Fk (zU lo 0) λl=>Fk (zU hi n) λh=>(0<=l/\l<=h/\h<=n)/\Fk (MQ T st t x l h) K
def fZ (st:St) (t:TypeId) (x i:AV) (K:AV->Prop):Prop:=
 match x,i with
 | .at (.data fr (.slice e) xs), .at (.data _ (.int _) n)=>if (T.elem t).bind T.ty=some e then ∃x,idx xs n=some x/\K (.at (.data fr (.ptr e) x)) else False
 | .at (.own l off len), .at (.data _ (.int _) n)=>match st.at l with
  |some (.arr _ _ e tid _)=>if T.elem t=some tid/\T.ty tid=some e then (0<=n/\n<len)/\K (.at (.Hj l (off+n.toNat))) else False
  |some (.Ev e tid _)=>if T.elem t=some tid/\T.ty tid=some e then (0<=n/\n<len)/\K (.at (.Hj l (off+n.toNat))) else False
  |some (.Bc _ te _ _ _)=>if T.elem t=some te/\(T.ty te).map Ty.size=some 1 then (0<=n/\n<len)/\K (.at (.Hj l (off+n.toNat))) else False
  |_=>False
 | .at (.sub l i _), .at (.data _ (.int _) n)=>match st.at l with
  |some (.Bc e _ rows none _)=>if ((T.elem t).bind T.ty).map Ty.size=some e.size then (0<=n/\n<(rows.getD i []).length)/\K (.at (.Hf l i n.toNat)) else False
  |_=>False
 |_,_=>False
def vU (t:TypeId) (x i:AV) (K:AV->Prop):Prop:=
 match x,i with
 | .at (.data _ .str s), .at (.data _ (.int _) n)=>if T.ty t=some .str then 0<=n/\ ∃b,s[n.toNat]?=some b/\K (.at (.data true (.int .u8) b.toNat)) else False
 |_,_=>False
def oS (st:St) (f:FuncId) (args:List AV) (K:AV->Prop):Prop:=
 Fk (match Γ f with|some (.q s)=>some s|_=>none) λs=>match s.fresh||s.res.flat||args.all (·.settled) with
  |true=>Fk (Cs st s.arg args) λp=> ∃y,s.fn p.2=some y/\K (if s.Hy then .Wh (s.fresh||s.res.flat) s.res y else .at (.data (s.fresh||s.res.flat) s.res y))
  |false=>False
def vg (st:St) (v:AV) (args:List AV) (K:AV->Prop):Prop:=
 match v with
 | .at (.data fr (.clo f τ) x)=>match τ.chain with|true=>(match Nat.blt f 1000000000 with|true=>oS Γ st f (args++Wq fr τ x) K|false=>oS Γ st (f-1000000000) (Wq fr τ x++args) K)|false=>False
 | .at (.clo f Cx)=>oS Γ st f (args++Cx.map λp=> .at (.Ez p.1 p.2)) K
 |_=>False
def qW (w:WS) (o:Oper) (K:AV->WS->Prop):Prop:=
 match o.op with
 | .pick c a b=>SI w c λt w'=>match t with|true=>K (w'.st.ev a) w'|false=>K (w'.st.ev b) w'
 | .load t a=>CM T w.st t (w.st.ev a) λv=>K v w
 | .binOp op t x y _=>JZ T op t (w.st.ev x) (w.st.ev y) λv=>K v w
 | .slice t x lo hi mx=>match mx with
  |none=>wL T w.st t (w.st.ev x) (lo.map w.st.ev) (hi.map w.st.ev) λv=>K v w
  |some _=>False
 | .indexAddr t x i=>fZ T w.st t (jq (w.st.ev x)) (w.st.ev i) λv=>K v w
 | .index t x i=>vU T t (w.st.ev x) (w.st.ev i) λv=>K v w
 | .call {callee:= .value (.func f),args, .. } =>oS Γ w.st f (args.toList.map w.st.ev) λv=>K v w
 | .call {callee:= .value (.tmp t),args, .. } =>vg Γ w.st (w.st.get t) (args.toList.map w.st.ev) λv=>K v w
 | .fieldAddr s x f=>fR T s (w.st.ev x) f λv=>K v w
 | .nilCheck x=>pv w.st x (λv=>K v w) (Dq T Γ w.st o)
 |_=>Fk (Dq T Γ w.st o) λv=>K v w
def wT (st:St) (t:TypeId) (p v:AV) (K:St->Prop):Prop:=
 match p with
 | .at (.Hj l j)=>Fk (T.ty t) λτ=>Fk (settle st v) λq=>match q.2.at l with
  |some (.arr fr tr e tid xs)=>Fk (Dz q.2 τ q.1) λu=>if h:τ=e then j<xs.length/\K (q.2.He l (.arr (fr&&u.1) (tr&&(Ph st v&&e.tree)) e tid (xs.set j (h▸u.2)))) else False
  |_=>False
 |p=>Fk (Qm T st t p v) K
def xY (st:St) (t:TypeId) (p v:AV) (K:St->Prop):Prop:=
 match p with
 | .at (.Hf l i j)=>Fk (T.ty t) λτ=>Fk (settle st v) λq=>match q.2.at l with
  |some (.Bc e te rows none kp)=>Fk (Dz q.2 τ q.1) λu=>if h:τ=e then K (q.2.He l (.Bc e te (rows.set i ((rows.getD i []).set j (h▸u.2))) none kp)) else False
  |_=>False
 | .at (.Hj l j)=>Fk (T.ty t) λτ=>match st.at l,v with
  |some (.Bc e te rows out kp), .at (.own m off len)=>match st.at m with
   |some (.arr _ _ e' _ xs)=>if h:e'=e/\(Nat.blt l Az&&(!Nat.beq m l&&!τ.Ak))=true then
     off=0/\len=xs.length/\(match out with|none=>True|some i=>i=j)/\K (Pn st l j m e te rows (h.1▸xs) (Xd j kp))
    else False
   |_=>False
  |_,_=>False
 |_=>False
def rU (st:St) (t:TypeId) (p v:AV) (K:St->Prop):Prop:=match xu st p with
 |true=>xY T st t p v K
 |false=>wT T st t p v K
def gD (st:St) (dst:Nat) (t:TypeId) (x y:Operand) (K:AV->St->Prop):Prop:=
 Fk (T.elem t) λte=>Fk (T.ty te) λe=>Fk (settle st (st.ev y)) λq=>Fk (Dz q.2 (.slice e) q.1) λu=>match q.2.ev x with
  | .at .Jf=>match Nat.blt dst Az with
   |true=>List.length u.2<=Ga/\K (.at (.own dst 0 (List.length u.2))) ((q.2.new dst (.arr (T.nO||e.flat) T.uF e te [])).new dst (.arr ((T.nO||e.flat)&&(u.1||e.flat)) (T.uF&&(e.flat||(Ph st (st.ev y)&&e.tree))) e te u.2))
   |false=>False
  | .at (.own l off len)=>match q.2.at l with
   |some (.arr fr tr e' tid xs)=>if h:e'=e/\tid=te/\Nat.blt l Az=true then
     off=0/\len=xs.length/\len+List.length u.2<=Ga/\K (.at (.own l 0 (List.length ((h.1▸xs:List e.den)++u.2)))) (q.2.new l (.arr (fr&&(u.1||e.flat)) (tr&&(e.flat||(Ph st (st.ev y)&&e.tree))) e te ((h.1▸xs:List e.den)++u.2)))
    else False
   |_=>False
  |_=>False
def lE (st:St) (dst:Nat) (t:TypeId) (x y:Operand) (K:AV->St->Prop):Prop:=
 match x with
 | .tmp tx=>match st.get tx with
  | .at (.sub l i _)=>Fk (T.elem t) λtid=>match st.at l with
   |some (.Bc e te rows none kp)=>match Nat.blt l Az&&(Nat.blt dst Az&&!Nat.beq dst l) with
    |true=>gD T ((Mr st l i dst e te tid rows kp).put (some tx) (.at (.own dst 0 (rows.getD i []).length))) dst t x y K
    |false=>False
   |_=>False
  |_=>gD T st dst t x y K
 |_=>gD T st dst t x y K
def CR (st:St) (dst:Nat) (t:TypeId) (l c:AV) (K:AV->St->Prop):Prop:=
 match l,c with
 | .at (.data _ (.int _) n), .at (.data _ (.int _) m)=>Fk (T.elem t) λte=>Fk (T.ty te) λe=>match bN e&&Nat.blt dst Az with
  |true=>(0<=n/\n<Ga+1)/\n=m/\K (.at (.own dst 0 (List.replicate n.toNat e.zero).length)) (st.new dst (.arr (T.nO||e.flat) (T.uF&&e.tree) e te (List.replicate n.toNat e.zero)))
  |false=>False
 |_,_=>False
def w5 (st:St) (dst:Nat) (t:TypeId) (l c:AV) (K:AV->St->Prop):Prop:=
 match ag T t with
 |none=>CR T st dst t l c K
 |some p=>match l,c with
  | .at (.data _ (.int _) n), .at (.data _ (.int _) m)=>match Nat.blt dst Az with
   |true=>(0<=n/\n<Ga+1)/\n=m/\K (.at (.own dst 0 (List.replicate n.toNat ([]:List p.2.den)).length)) (Nn st dst dst (.Bc p.2 p.1 (List.replicate n.toNat []) none none))
   |false=>False
  |_,_=>False
def aS (st:St) (dst:Nat) (t:TypeId) (len:Nat) (parts:Array (Nat×Operand)) (K:AV->St->Prop):Prop:=
 match ag T t with
 |none=>Fk (Jt T st dst t len parts) λr=>K r.1 r.2
 |some p=>match parts.toList with
  | [(0,x)]=>match st.ev x with
   | .at (.own m off ln)=>match st.at m with
    |some (.arr _ _ e' _ xs)=>if h:e'=p.2/\(Nat.beq len 1&&(Nat.blt dst Az&&Nat.blt m Az))=true then off=0/\ln=xs.length/\K (.at (.own dst 0 1)) (Nn st dst m (.Bc p.2 p.1 [h.1▸xs] none none)) else False
    |_=>False
   |_=>False
  |_=>False
def lG (st:St) (dst:Nat) (t:TypeId) (x y:Operand) (K:AV->St->Prop):Prop:=
 match ag T t with
 |none=>lE T st dst t x y K
 |some p=>match st.ev x,st.ev y with
  | .at (.own l off len), .at (.own m CZ qQ)=>match st.at l,st.at m with
   |some (.Bc e1 UA A none _),some (.Bc e2 oB B none _)=>
    if h:(e1=p.2/\e2=p.2)/\(decide (UA=p.1)&&decide (oB=p.1)&&(Nat.blt l Az&&(Nat.blt m Az&&!Nat.beq m l)))=true then
     (off=0/\len=A.length)/\(CZ=0/\qQ=B.length)/\0<B.length/\A.length+B.length<=Ga/\
      K (.at (.own l 0 (List.length ((h.1.1▸A:List (List p.2.den))++(h.1.2▸B:List (List p.2.den)))))) (Nn st l m (.Bc p.2 p.1 ((h.1.1▸A:List (List p.2.den))++(h.1.2▸B:List (List p.2.den))) none none))
    else False
   |_,_=>False
  |_,_=>False
def bI (st:St) (io:Bool) (k:Nat):(c:CK)->AC->(c.den->List (Nat×Loc)->Prop)->Prop
 | .Ji τ, .own l off len,K=>Fk (Cn st τ (.own l off len)) λp=>K p.2 [(Cp false k, .view l)]
 | .Ji τ, .clo g Cx,K=>match Xn st (Cx.map (·.1))&&!τ.Ak with
  |true=>Fk (Hc st τ (.clo g Cx)) λp=>K p.2 (views k (Cx.map (·.1)))
  |false=>False
 | .Ji τ, .Ez l i,K=>match Xn st [l]&&!τ.Ak with
  |true=>Fk (Hc st τ (.Ez l i)) λp=>K p.2 (views k [l])
  |false=>False
 | .Ji τ, .sub l i c,K=>Fk (Cn st τ (.sub l i c)) λp=>K p.2 [(Cp false k, .view l)]
 | .Ji τ,a,K=>match τ.flat||a.settled with
  |true=>Fk (Cn st τ a) λp=>K p.2 []
  |false=>False
 | .row e te, .own l off len,K=>match st.at l with
  |some (.arr _ _ e' Nr xs)=>if h:e'=e/\Nr=te then off=0/\len=xs.length/\K (h.1▸xs:List e.den) [(Cp io k, .row l)] else False
  |_=>False
 | .row e _, .sub l i c,K=>match st.at l with
  |some (.Ev e' _ xs)=>if h:e'= .slice e/\e.flat=true/\io=true/\c=0 then ∃y,xs[i]?=some y/\K (h.1▸y:(Ty.slice e).den) [(Cp io k, .sub l i c)] else False
  |_=>False
 | .row _ _, .Jf,K=>K [] []
 | .Fl e te, .own l off len,K=>match st.at l with
  |some (.Ev e' Nr xs)=>if h:e'=e/\Nr=te then off=0/\len=xs.length/\K (h.1▸xs:List e.den) [(Cp io k, .row l)] else False
  |_=>False
 | .Fl e _, .sub l i c,K=>match st.at l with
  |some (.Ev e' _ xs)=>if h:e'= .slice e/\io=true/\c=0 then ∃y,xs[i]?=some y/\K (h.1▸y:(Ty.slice e).den) [(Cp io k, .sub l i c)] else False
  |_=>False
 | .Fl _ _, .Jf,K=>K [] []
 | .part e te, .own l off len,K=>match st.at l with
  |some (.arr _ _ e' Nr xs)=>if h:e'=e/\Nr=te/\e.flat=true/\io=true then K ((h.1▸xs:List e.den),off,len) [(Cp io k, .row l)] else False
  |_=>False
 | .Bc e te _, .own l off len,K=>match st.at l with
  |some (.Bc e' Nr rows none _)=>if h:e'=e/\Nr=te/\io=false then off=0/\len=rows.length/\K (h.1▸rows:List (List e.den)) [(Cp io k, .row l)] else False
  |_=>False
 |_,_,_=>False
def s8 (st:St):(k:Nat)->(cs:List (Bool×CK))->List AC->(Ins.den cs->List (Nat×Loc)->Prop)->Prop
 |_,[],[],K=>K () []
 |k,p::r,a::as,K=>bI st p.1 k p.2 a λx t1=>s8 st (k+1) r as λy t2=>K (x,y) (t1++t2)
 |_,_,_,_=>False
def ko (st:St):(c:CK)->c.den->AC->(St->Prop)->Prop
 | .row e _,ys, .own l _ len,K=>match st.at l with
  |some (.arr fr tr e' te xs)=>if h:e=e' then (List.length ys=len/\xs.length=len)/\K (st.He l (.arr (fr&&e'.flat) (tr&&e'.flat) e' te (h▸ys))) else False
  |_=>False
 | .Fl e _,ys, .own l _ len,K=>match st.at l with
  |some (.Ev e' te xs)=>if h:e=e' then (List.length ys=len/\xs.length=len)/\K (st.He l (.Ev e' te (h▸ys))) else False
  |_=>False
 | .row e _,ys, .sub l i _,K=>match st.at l with
  |some (.Ev e' te xs)=>if h: .slice e=e' then ∃y,xs[i]?=some y/\List.length ys=List.length (h▸y:(Ty.slice e).den)/\K (st.He l (.Ev e' te (xs.set i (h▸(ys:(Ty.slice e).den))))) else False
  |_=>False
 | .Fl e _,ys, .sub l i _,K=>match st.at l with
  |some (.Ev e' te xs)=>if h: .slice e=e' then ∃y,xs[i]?=some y/\List.length ys=List.length (h▸y:(Ty.slice e).den)/\K (st.He l (.Ev e' te (xs.set i (h▸(ys:(Ty.slice e).den))))) else False
  |_=>False
 |_,_, .Jf,K=>K st
 |_,_,_,_=>False
def DN (st:St) (e:Ty) (ys:List e.den):AC->(St->Prop)->Prop
 | .own l _ _,K=>match st.at l with
  |some (.arr fr tr e' te xs)=>if h:e=e' then List.length ys=xs.length/\K (st.He l (.arr fr tr e' te (h▸ys))) else False
  |_=>False
 |_,_=>False
def dE:(cs:List (Bool×CK))->IOs.den cs->List AC->St->(St->Prop)->Prop
 | [],_,_,st,K=>K st
 |(true, .Ji _)::r,x,_::as,st,K=>dE r x as st K
 |(true, .row e te)::r,x,a::as,st,K=>ko st (.row e te) x.1 a λst'=>dE r x.2 as st' K
 |(true, .Fl e te)::r,x,a::as,st,K=>ko st (.Fl e te) x.1 a λst'=>dE r x.2 as st' K
 |(true, .part e _)::r,x,a::as,st,K=>DN st e x.1 a λst'=>dE r x.2 as st' K
 |(true, .Bc _ _ _)::r,x,_::as,st,K=>dE r x as st K
 |(false,_)::r,x,_::as,st,K=>dE r x as st K
 |_,_,_,_,_=>False
def nt (H:List (Nat×OB)) (ls:List Nat) (n:Nat):List AV->Prop->Prop
 | [],K=>K
 | .at (.sub l i _)::r,K=>match ls.contains l with
  |true=>(i<n/\i<l9 H l)/\nt H ls n r K
  |false=>nt H ls n r K
 |_::r,K=>nt H ls n r K
def vf (st:St) (dst:Option Nat) (s:MSpec) (args:List AV) (K:AV->St->Prop):Prop:=
 Fk (xU st s args) λq=>Fk (ungroup s.Jg q.2.2) λiQ=>s8 st 0 s.ins (q.2.1++iQ) λx tks=>
  match Uv (tks.map λt=>t.2.Sa)&&qN (Oh s tks (dst.getD 0)) (s.outs.length+(gq s (dst.getD 0)).length)&&Nat.blt s.outs.length 1000&&Nat.blt s.ins.length 1000&&(Ro s.ins q.2.1&&q.1.all λl=>!((tks.map λt=>t.2.Sa)++Oh s tks (dst.getD 0)).contains l) with
  |true=> ∃p,s.fn x=some p/\dE s.ins p.2 (q.2.1++iQ) st λst1=>Fk (HE s (dst.getD 0) ((Xe (Cw (Oh s tks (dst.getD 0))) 0 s.outs p.1).drop s.Ui)) λv=>
    nt (fI st st1 (dst.getD 0) s q.1 tks p.1).heap (Xc st.heap (Oh s tks (dst.getD 0)) tks s.keeps) (s.Ep x) st.tmps
     (K v (ga st (fI st st1 (dst.getD 0) s q.1 tks p.1) (Xc st.heap (Oh s tks (dst.getD 0)) tks s.keeps) (s.Ep x)))
  |false=>False
def GY (w:WS) (o:Oper) (K:AV->WS->Prop):Prop:=
 match o.op with
 | .store t p x=>rU T (Ll T w.st p x) t ((Ll T w.st p x).ev p) ((Ll T w.st p x).ev x) λs=>K .undef (w.to s)
 | .makeSlice t l c=>Fk o.dst λd=>w5 T w.st d t (w.st.ev l) (w.st.ev c) λv s=>K v (w.to s)
 | .call {callee:= .builtin .append,args,argTypes} =>match o.dst,args.toList,argTypes.toList with
  |some d,[x,y],[t,t']=>if t=t' then lG T w.st d t x y λv s=>K v (w.to s) else False
  |_,_,_=>False
 | .assign _=>Fk (evalOp T Γ w.st o) λr=>K r.1 (w.to r.2)
 | .alloc _=>Fk (evalOp T Γ w.st o) λr=>K r.1 (w.to r.2)
 | .box _ _=>Fk (evalOp T Γ w.st o) λr=>K r.1 (w.to r.2)
 | .buildSlice t len parts=>Fk o.dst λd=>aS T w.st d t len parts λv s=>K v (w.to s)
 | .build _ _=>Fk (evalOp T Γ w.st o) λr=>K r.1 (w.to r.2)
 | .makeMap _ _=>Fk (evalOp T Γ w.st o) λr=>K r.1 (w.to r.2)
 | .mapUpdate _ _ _ _=>Fk (evalOp T Γ w.st o) λr=>K r.1 (w.to r.2)
 | .insert _ _ _ _=>Fk (evalOp T Γ w.st o) λr=>K r.1 (w.to r.2)
 | .call {callee:= .builtin .copy, .. } =>Fk (evalOp T Γ w.st o) λr=>K r.1 (w.to r.2)
 | .call {callee:= .builtin .clear, .. } =>Fk (evalOp T Γ w.st o) λr=>K r.1 (w.to r.2)
 | .call {callee:= .value (.func f),args, .. } =>match Γ f with
  |some (.m s)=>vf w.st o.dst s (args.toList.map w.st.ev) λv s'=>K v (w.to s')
  |some (.q s)=>match bm s (args.toList.map w.st.ev) with
   |true=>Fk (Km args.toList w.st) λst1=>qW T Γ (w.to st1) o K
   |false=>qW T Γ w o K
  |_=>qW T Γ w o K
 |_=>qW T Γ w o K
def AV.CH:AV->Bool
 | .at .skip=>true
 |_=>false
def bW (w:WS) (o:Oper) (K:AV->WS->Prop):Prop:=
 match o.op with
 | .buildSlice t len parts=>Fk (Ws T w.st t len parts) λv=>K v w
 | .build t parts=>Fk (Sn T w.st t parts) λv=>K v w
 |_=>qW T Γ w o K
def dU (ops:Array Oper) (w:WS) (o:Oper) (run:(AV->WS->Prop)->WS->Prop) (K:WS->Prop):Prop:=
 match o.guard with
 |none=>run (λv w'=>K (w'.o9 o v)) w
 |some (j,want)=>Fk ((ops[j]?).bind (·.dst)) λt=>match (w.st.get t).CH with
  |true=>K (w.put o.dst (.at .skip))
  |false=>SJ w t λb w'=>match b,want with
   |true,true=>run (λv kF=>K (kF.o9 o v)) w'
   |false,false=>run (λv kF=>K (kF.o9 o v)) w'
   |_,_=>K (w'.put o.dst (.at .skip))
def MH (ops:Array Oper):List Oper->WS->(WS->Prop)->Prop
 | [],w,K=>K w
 |o::r,w,K=>dU ops w o (λk w'=>GY T Γ w' o k) λw'=>MH ops r w' K
def CB (ops:Array Oper):List Nat->WS->(WS->Prop)->Prop
 | [],w,K=>K w
 |i::r,w,K=>Fk ops[i]? λo=>dU ops w o (λk w'=>GY T Γ w' o k) λw'=>CB ops r w' K
def eW (ops:Array Oper):List Nat->WS->(WS->Prop)->Prop
 | [],w,K=>K w
 |i::r,w,K=>Fk ops[i]? λo=>dU ops w o (λk w'=>bW T Γ w' o k) λw'=>eW ops r w' K
def AL:List Nat->(Nat->Prop)->Prop
 | [],_=>True
 | [i],P=>P i
 |i::j::r,P=>P i/\AL (j::r) P
def ye (ops:Array Oper):Nat->Array Bool->WS->(WS->Prop)->Prop
 |0,Ae,w,K=>match Region.ready .any ops Ae with
  | []=>K w
  |_::_=>False
 |f+1,Ae,w,K=>match Region.ready .any ops Ae with
  | []=>False
  |i::r=>AL (i::r) λk=>Fk ops[k]? λo=>dU ops w o (λkk w'=>GY T Γ w' o kk) λw'=>ye ops f (Ae.setIfInBounds k true) w' K
def NB:AC->Type->Type
 | .data _ τ _,R=>τ.den×R
 | .sub _ _ _,R=>Nat×R
 | .Hj _ _,R=>Nat×R
 | .Hf _ _ _,R=>Nat×Nat×R
 |_,R=>R
def v7:List AC->Type->Type
 | [],R=>R
 |c::r,R=>NB c (v7 r R)
def NC:AV->Type->Type
 | .at a,R=>NB a R
 | .agg cs,R=>v7 cs R
 | .Wh _ τ _,R=>τ.den×R
 | .Jy _,R=>R
def RI:OB->Type->Type
 | .arr _ _ e _ _,R=>List e.den×R
 | .Ev e _ _,R=>List e.den×R
 | .var _ vs,R=>v7 vs R
 | .Bc e _ _ _ none,R=>List (List e.den)×R
 | .Bc e _ _ _ (some _),R=>List (List e.den)×(Nat×R)
 | .Qy v _,R=>(ByteArray->Option v.den)×R
def kD:List AV->Type->Type
 | [],R=>R
 |v::r,R=>NC v (kD r R)
def oZ:List (Nat×OB)->Type->Type
 | [],R=>R
 |p::r,R=>RI p.2 (oZ r R)
def RT (s:St):Type:=kD s.tmps (oZ s.heap Unit)
def xi:(c:AC)-> {R:Type} ->R->NB c R
 | .data _ _ x,_,r=>(x,r)
 | .undef,_,r=>r
 | .skip,_,r=>r
 | .Jf,_,r=>r
 | .Qx,_,r=>r
 | .own _ _ _,_,r=>r
 | .Ez _ _,_,r=>r
 | .Hj _ i,_,r=>(i,r)
 | .clo _ _,_,r=>r
 | .Hv _,_,r=>r
 | .sub _ i _,_,r=>(i,r)
 | .Hf _ i j,_,r=>(i,j,r)
def lB:(l:List AC)-> {R:Type} ->R->v7 l R
 | [],_,r=>r
 |c::l,_,r=>xi c (lB l r)
def HR:(c:AV)-> {R:Type} ->R->NC c R
 | .at a,_,r=>xi a r
 | .agg cs,_,r=>lB cs r
 | .Wh _ _ x,_,r=>(x,r)
 | .Jy _,_,r=>r
def JM:(b:OB)-> {R:Type} ->R->RI b R
 | .arr _ _ _ _ xs,_,r=>(xs,r)
 | .Ev _ _ xs,_,r=>(xs,r)
 | .var _ vs,_,r=>lB vs r
 | .Bc _ _ rows _ none,_,r=>(rows,r)
 | .Bc _ _ rows _ (some p),_,r=>(rows,p.2,r)
 | .Qy _ m,_,r=>(m,r)
def lk:(l:List AV)-> {R:Type} ->R->kD l R
 | [],_,r=>r
 |c::l,_,r=>HR c (lk l r)
def ld:(l:List (Nat×OB))-> {R:Type} ->R->oZ l R
 | [],_,r=>r
 |p::l,_,r=>JM p.2 (ld l r)
def xX (s:St):RT s:=lk s.tmps (ld s.heap ())
def iU:(c d:AC)-> {R:Type} ->R->Option (NB c R)
 | .data fr τ _, .data Rj Lg x,_,r=>if h:Lg=τ/\Rj=fr then some (h.1▸x,r) else none
 | .undef, .undef,_,r=>some r
 | .skip, .skip,_,r=>some r
 | .Jf, .Jf,_,r=>some r
 | .Qx, .Qx,_,r=>some r
 | .own l _ _, .own l' _ _,_,r=>if l=l' then some r else none
 | .Ez l i, .Ez l' i',_,r=>if l=l'/\i=i' then some r else none
 | .Hj l _, .Hj l' i',_,r=>if l=l' then some (i',r) else none
 | .clo f c, .clo f' c',_,r=>if f=f'/\c=c' then some r else none
 | .Hv l, .Hv l',_,r=>if l=l' then some r else none
 | .sub l _ c, .sub l' i' c',_,r=>if l=l'/\c=c' then some (i',r) else none
 | .Hf l _ _, .Hf l' i' j',_,r=>if l=l' then some (i',j',r) else none
 |_,_,_,_=>none
def Og:(l m:List AC)-> {R:Type} ->R->Option (v7 l R)
 | [],[],_,r=>some r
 |c::l,d::m,_,r=>(Og l m r).bind λr'=>iU c d r'
 |_,_,_,_=>none
def fM:(c d:AV)-> {R:Type} ->R->Option (NC c R)
 | .at a, .at b,_,r=>iU a b r
 | .agg cs, .agg ds,_,r=>Og cs ds r
 | .Wh fr τ _, .Wh Rj Lg x,_,r=>if h:Lg=τ/\Rj=fr then some (h.1▸x,r) else none
 |_,_,_,_=>none
def Pc:(b d:OB)-> {R:Type} ->R->Option (RI b R)
 | .arr fr tr e tid _, .arr Rj EG e' Qj xs,_,r=>if h:e'=e/\Rj=fr/\EG=tr/\Qj=tid then some (h.1▸xs,r) else none
 | .Ev e tid _, .Ev e' Qj xs,_,r=>if h:e'=e/\Qj=tid then some (h.1▸xs,r) else none
 | .Qy v _, .Qy v' m,_,r=>if h:v'=v then some (h▸m,r) else none
 | .var t vs, .var t' us,_,r=>if t'=t then Og vs us r else none
 | .Bc e te _ out none, .Bc e' Nr rows cy none,_,r=>if h:e'=e/\Nr=te/\cy=out then some (h.1▸rows,r) else none
 | .Bc e te _ out (some p), .Bc e' Nr rows cy (some p'),_,r=>if h:e'=e/\Nr=te/\cy=out/\p'.1=p.1 then some (h.1▸rows,p'.2,r) else none
 |_,_,_,_=>none
def Ly:(l m:List AV)-> {R:Type} ->R->Option (kD l R)
 | [],[],_,r=>some r
 |c::l,d::m,_,r=>(Ly l m r).bind λr'=>fM c d r'
 |_,_,_,_=>none
def Mt:(l m:List (Nat×OB))-> {R:Type} ->R->Option (oZ l R)
 | [],[],_,r=>some r
 |p::l,q::m,_,r=>if q.1=p.1 then (Mt l m r).bind λr'=>Pc p.2 q.2 r' else none
 |_,_,_,_=>none
def dS (s t:St):Option (RT s):=(Mt s.heap t.heap ()).bind λr=>Ly s.tmps t.tmps r
def fH:(c:AC)-> {R:Type} ->NB c R->AC×R
 | .data fr τ _,_,v=>(.data fr τ v.1,v.2)
 | .undef,_,r=>(.undef,r)
 | .skip,_,r=>(.skip,r)
 | .Jf,_,r=>(.Jf,r)
 | .Qx,_,r=>(.Qx,r)
 | .own l off len,_,r=>(.own l off len,r)
 | .Ez l i,_,r=>(.Ez l i,r)
 | .Hj l _,_,v=>(.Hj l v.1,v.2)
 | .clo f c,_,r=>(.clo f c,r)
 | .Hv l,_,r=>(.Hv l,r)
 | .sub l _ c,_,v=>(.sub l v.1 c,v.2)
 | .Hf l _ _,_,v=>(.Hf l v.1 v.2.1,v.2.2)
def Vh:(l:List AC)-> {R:Type} ->v7 l R->List AC×R
 | [],_,r=>([],r)
 |c::l,_,v=>((fH c v).1::(Vh l (fH c v).2).1,(Vh l (fH c v).2).2)
def lK:(c:AV)-> {R:Type} ->NC c R->AV×R
 | .at a,_,v=>(.at (fH a v).1,(fH a v).2)
 | .agg cs,_,v=>(.agg (Vh cs v).1,(Vh cs v).2)
 | .Wh fr τ _,_,v=>(.Wh fr τ v.1,v.2)
 | .Jy l,_,r=>(.Jy l,r)
def mH:(b:OB)-> {R:Type} ->RI b R->OB×R
 | .arr fr tr e tid _,_,v=>(.arr fr tr e tid v.1,v.2)
 | .Ev e tid _,_,v=>(.Ev e tid v.1,v.2)
 | .Qy w _,_,v=>(.Qy w v.1,v.2)
 | .var t vs,_,v=>(.var t (Vh vs v).1,(Vh vs v).2)
 | .Bc e te _ out none,_,v=>(.Bc e te v.1 out none,v.2)
 | .Bc e te _ out (some p),_,v=>(.Bc e te v.1 out (some (p.1,v.2.1)),v.2.2)
def Rx:(l:List AV)-> {R:Type} ->kD l R->List AV×R
 | [],_,r=>([],r)
 |c::l,_,v=>((lK c v).1::(Rx l (lK c v).2).1,(Rx l (lK c v).2).2)
def ak:(l:List (Nat×OB))-> {R:Type} ->oZ l R->List (Nat×OB)×R
 | [],_,r=>([],r)
 |p::l,_,v=>((p.1,(mH p.2 v).1)::(ak l (mH p.2 v).2).1,(ak l (mH p.2 v).2).2)
def dQ (s:St) (v:RT s):St:= {tmps:=(Rx s.tmps v).1,heap:=(ak s.heap (Rx s.tmps v).2).1}
def lenOf (H:List (Nat×OB)) (l:Nat):Nat:=match Ap H l with|some (.arr _ _ _ _ xs)=>xs.length|some (.Ev _ _ xs)=>xs.length|some (.Bc _ _ rows _ _)=>rows.length|_=>0
def Us (ps:List Nat):List AV->List (Nat×Nat×Nat)
 | []=> []
 | .at (.own l off len)::r=>if ps.contains l then (l,off,len)::Us ps r else Us ps r
 |_::r=>Us ps r
def MF:List (Nat×Nat×Nat)->Nat->Nat
 | [],_=>0
 |(k,o,_)::r,l=>if k=l then o else MF r l
def yH:List (Nat×Nat×Nat)->List (Nat×OB)->Nat->Nat
 | [],H,l=>lenOf H l
 |(k,_,n)::r,H,l=>if k=l then n else yH r H l
def bM (B:List (Nat×Nat×Nat)) (H:List (Nat×OB)):AC->AC
 | .own l _ _=> .own l (MF B l) (yH B H l)
 |c=>c
def St.whole (B:List (Nat×Nat×Nat)) (s:St):St:=s.Ih (bM B s.heap)
def q8 (B:List (Nat×Nat×Nat)) (H:List (Nat×OB)) (c:AC) (K:Prop):Prop:=match c with
 | .own l off len=>off=MF B l/\len=yH B H l/\K
 |_=>K
def Zs (B:List (Nat×Nat×Nat)) (H:List (Nat×OB)):List AC->Prop->Prop
 | [],K=>K
 |c::r,K=>q8 B H c (Zs B H r K)
def xk (B:List (Nat×Nat×Nat)) (H:List (Nat×OB)) (c:AV) (K:Prop):Prop:=match c with
 | .at a=>q8 B H a K
 | .agg cs=>Zs B H cs K
 | .Wh _ _ _=>K
 | .Jy _=>False
def Wg (B:List (Nat×Nat×Nat)) (H:List (Nat×OB)):List AV->Prop->Prop
 | [],K=>K
 |c::r,K=>xk B H c (Wg B H r K)
def ej (B:List (Nat×Nat×Nat)) (H:List (Nat×OB)):List (Nat×OB)->Prop->Prop
 | [],K=>K
 |p::r,K=>match p.2 with
  | .var _ vs=>Zs B H vs (ej B H r K)
  |_=>ej B H r K
def rT (B:List (Nat×Nat×Nat)) (s:St) (K:Prop):Prop:=Wg B s.heap s.tmps (ej B s.heap s.heap K)
def AV.Sx:AV->Bool
 | .at (.data _ _ _)=>true
 |_=>false
def Hu (p:Nat->Bool):Nat->List AV->List Bool
 |_,[]=> []
 |i,v::r=>(v.Sx&&p i)::Hu p (i+1) r
def stays (live:Nat->List Nat) (c:Code) (t:Nat):Bool:=!(writes c).contains t&&Xb live c t
def Pq:List Bool->List AV->List AV
 |true::f,_::r=> .undef::Pq f r
 |false::f,v::r=>v::Pq f r
 |_,l=>l
def Qr:List Bool->List AV->List AV->List AV
 |true::f,a::s,_::r=>a::Qr f s r
 |false::f,_::s,v::r=>v::Qr f s r
 |_,_,l=>l
def St.mask (fx:List Bool) (s:St):St:= {tmps:=Pq fx s.tmps,heap:=s.heap}
def St.o3 (fx:List Bool) (s0 s:St):St:= {tmps:=Qr fx s0.tmps s.tmps,heap:=s.heap}
def l7 (c:AC) (k:AC->Prop):Prop:=match c with
 | .undef=>k .undef
 | .skip=>k .skip
 | .Jf=>k .Jf
 | .Qx=>k .Qx
 | .data fr τ x=>match fr with
  |true=>k (.data true τ x)
  |false=>k (.data false τ x)
 | .own l off len=>k (.own l off len)
 | .Ez l i=>k (.Ez l i)
 | .Hj l i=>k (.Hj l i)
 | .clo f c=>k (.clo f c)
 | .Hv l=>k (.Hv l)
 | .sub l i c=>k (.sub l i c)
 | .Hf l i c=>k (.Hf l i c)
def df:List AC->(List AC->Prop)->Prop
 | [],k=>k []
 |c::r,k=>l7 c λc'=>df r λr'=>k (c'::r')
def qq (c:AV) (k:AV->Prop):Prop:=match c with
 | .at a=>l7 a λa'=>k (.at a')
 | .agg cs=>df cs λcX=>k (.agg cX)
 | .Wh fr τ x=>k (.Wh fr τ x)
 | .Jy l=>k (.Jy l)
def dg:List AV->(List AV->Prop)->Prop
 | [],k=>k []
 |c::r,k=>qq c λc'=>dg r λr'=>k (c'::r')
def qs (b:OB) (k:OB->Prop):Prop:=match b with
 | .arr fr tr e tid xs=>match fr,tr with
  |true,true=>k (.arr true true e tid xs)
  |true,false=>k (.arr true false e tid xs)
  |false,true=>k (.arr false true e tid xs)
  |false,false=>k (.arr false false e tid xs)
 | .Ev e tid xs=>k (.Ev e tid xs)
 | .var t vs=>df vs λvs'=>k (.var t vs')
 | .Bc e te rows out kp=>match out,kp with
  |none,none=>k (.Bc e te rows none none)
  |none,some (l,n)=>k (.Bc e te rows none (some (l,n)))
  |some i,none=>k (.Bc e te rows (some i) none)
  |some i,some (l,n)=>k (.Bc e te rows (some i) (some (l,n)))
 | .Qy v m=>k (.Qy v m)
def m4:List (Nat×OB)->(List (Nat×OB)->Prop)->Prop
 | [],k=>k []
 |(l,b)::r,k=>qs b λb'=>m4 r λr'=>k ((l,b')::r')
def Uu (w:WS) (k:WS->Prop):Prop:=dg w.st.tmps λt=>m4 w.st.heap λh=>k {kn:=w.kn,st:= {tmps:=t,heap:=h} }
def j7 (s:St) (k:St->Prop):Prop:=dg s.tmps λt=>m4 s.heap λh=>k {tmps:=t,heap:=h}
def aZ:List Bool->(List Bool->Prop)->Prop
 | [],k=>k []
 |true::r,k=>aZ r λr'=>k (true::r')
 |false::r,k=>aZ r λr'=>k (false::r')
theorem jU {c:AC} {k:AC->Prop} :l7 c k↔k c:=by
 cases c<;>simp only [l7]
 split<;>rfl
theorem aX: ∀ {l:List AC} {k:List AC->Prop},df l k↔k l
 | [],k=>Iff.rfl
 |c::r,k=>by simp only [df];rw [jU,aX]
theorem sU {c:AV} {k:AV->Prop} :qq c k↔k c:=by
 cases c<;>simp only [qq]
 ·exact jU
 ·exact aX
theorem aY: ∀ {l:List AV} {k:List AV->Prop},dg l k↔k l
 | [],k=>Iff.rfl
 |c::r,k=>by simp only [dg];rw [sU,aY]
theorem sV {b:OB} {k:OB->Prop} :qs b k↔k b:=by
 cases b<;>simp only [qs]
 ·split<;>rfl
 ·exact aX
 ·split<;>rfl
theorem fT: ∀ {l:List (Nat×OB)} {k:List (Nat×OB)->Prop},m4 l k↔k l
 | [],k=>Iff.rfl
 |(l,b)::r,k=>by simp only [m4];rw [sV,fT]
theorem yt {s:St} {k:St->Prop} :j7 s k=k s:=by
 unfold j7
 exact propext (by rw [aY,fT])
theorem ba: ∀ {l:List Bool} {k:List Bool->Prop},aZ l k=k l
 | [],k=>rfl
 |true::r,k=>by simp only [aZ];rw [ba]
 |false::r,k=>by simp only [aZ];rw [ba]
theorem Ld {w:WS} {k:WS->Prop} :Uu w k↔k w:=by
 unfold Uu
 rw [aY,fT]
def Wm:AC->List (Nat×Nat)
 | .own _ off len=> [(off,len)]
 |_=> []
def Wo:AV->List (Nat×Nat)
 | .at a=>Wm a
 | .agg cs=>cs.flatMap Wm
 |_=> []
def gl:OB->List (Nat×Nat)
 | .var _ vs=>vs.flatMap Wm
 |_=> []
def wS (s:St):List (Nat×Nat):=s.tmps.flatMap Wo++s.heap.flatMap λp=>gl p.2
def ND (s0 s:St):Prop:=wS s=wS s0/\Fk (dS s0 s) λv=>v=xX s0
def Ww (ops:Array Oper):Nat->Array Bool->WS->(WS->Prop)->Prop
 |0,Ae,w,K=>match Region.ready .any ops Ae with
  | []=>K w
  |_::_=>False
 |f+1,Ae,w,K=>match Region.ready .any ops Ae with
  | []=>False
  |k::_=>Fk ops[k]? λo=>dU ops w o (λkk w'=>GY T Γ w' o kk) λw'=>Ww ops f (Ae.setIfInBounds k true) w' K
def sA (P:List (Nat×Nat×AV×OB)) (ops:Array Oper):Nat->Array Bool->WS->(WS->Prop)->Prop
 |0,Ae,w,K=>match Region.ready .any ops Ae with
  | []=>K w
  |_::_=>False
 |f+1,Ae,w,K=>match Region.ready .any ops Ae with
  | []=>False
  |i::r=>AL (i::r) λk=>Fk ops[k]? λo=>match we P Γ ops w.st o k with
   |true=>dU ops w o (λkk w'=>GY T Γ w' o kk) λw'=>sA P ops f (Ae.setIfInBounds k true) w' K
   |false=>False
def pP (ops:Array Oper) (E:List Nat) (Ae:Array Bool) (w:WS):List Nat->Prop->Prop
 | [],K=>K
 |r::R,K=>match ll ops E Ae r with
  |true=>pP ops E Ae w R K
  |false=>(eW T Γ ops [r] w λw'=>Fk ((ops[r]?).bind (·.dst)) λd=>match Nat.blt d w.st.tmps.length with
    |true=>ND ⟨[w.st.get d],[]⟩ ⟨[w'.st.get d],[]⟩
    |false=>False)/\pP ops E Ae w R K
def lC (ops:Array Oper) (E:List Nat):Nat->Array Bool->WS->(WS->Prop)->Prop
 |0,Ae,w,K=>pP T Γ ops E Ae w E (match Region.ready .any ops Ae with
  | []=>K w
  |_::_=>False)
 |f+1,Ae,w,K=>pP T Γ ops E Ae w E (match Region.ready .any ops Ae with
  | []=>False
  |i::r=>AL (i::r) λk=>Fk ops[k]? λo=>dU ops w o (λkk w'=>GY T Γ w' o kk) λw'=>lC ops E f (Ae.setIfInBounds k true) w' K)
def wz (E:List Nat) (n:Nat) (L0:Array Bool) (ops:Array Oper) (w:WS) (K:WS->Prop):Prop:=
 match Yp ops E L0&&(Nat.ble E.length n&&Nat.ble (n-E.length) 10) with
 |true=>eW T Γ ops E w λw1=>Uu w1 λw1=>Ww T Γ ops (n-E.length) (Da E L0) w1 λw0=>Uu w0 λw0=>K w0/\lC T Γ ops E (n-E.length) (Da E L0) w1 λw2=>Uu w2 λw2=>ND w0.st w2.st
 |false=>False
def qc (P:List (Nat×Nat×AV×OB)) (n:Nat) (L0:Array Bool) (ops:Array Oper) (w:WS) (K:WS->Prop):Prop:=
 match (Uv (P.map (·.1))&&Uv (P.map (·.2.1)))&&((P.all λa=>ji a.2.1 w.st)&&(Nat.ble P.length n&&Nat.ble (n-P.length) 10)) with
 |true=>CB T Γ ops (P.map (·.1)) w λw1=>Uu w1 λw1=>Ww T Γ ops (n-P.length) (Da (P.map (·.1)) L0) w1 λw0=>Uu w0 λw0=>K w0/\sA T Γ P ops (n-P.length) (Da (P.map (·.1)) L0) w1 λw2=>ND w0.st w2.st
 |false=>wz T Γ (ey ops (List.range ops.size) L0) n L0 ops w K
def dA:Nat:=800000000
def u7 (ops:Array Oper):Nat->Array Bool->Bool
 |0,Ae=>(Region.ready .any ops Ae).isEmpty
 |f+1,Ae=>match Region.ready .any ops Ae with
  | [i]=>u7 ops f (Ae.setIfInBounds i true)
  |_=>false
def xS (ops:Array Oper) (L0:Array Bool):List Nat:=ey ops (List.range ops.size) L0
def pw (ops:Array Oper):Array Bool:=Da (Hw ops) (Array.replicate ops.size false)
def DB (ops:Array Oper):Bool:=Region.noSelect ops&&(Yp ops (xS ops (pw ops)) (pw ops)&&(Nat.ble (xS ops (pw ops)).length (ops.size-(Hw ops).length)&&Nat.ble ((ops.size-(Hw ops).length)-(xS ops (pw ops)).length) 10))
def YP (fx:List Bool) (s0 s:St):Prop:=ND (s0.mask fx) (s.mask fx)
def Ot (ops:Array Oper) (t:Nat):Bool:=!Tm ops t
def nB (ops:Array Oper):List Nat:=(ops.toList.filterMap λo=>match o.op with
 | .alloc _=>none
 | .box _ _=>none
 | .assign _=>none
 |_=>o.dst).filter λd=>ops.toList.any λo=>(o.looksAt ops).contains d
def WS.Mw (dead:List Nat) (w:WS):WS:= {kn:=w.kn.filter λp=>!dead.contains p.1,st:=w.st.Mw dead}
def DC (dead E:List Nat) (n:Nat) (L0:Array Bool) (ops:Array Oper) (w:WS) (K:WS->Prop):Prop:=
 match Yp ops E L0&&Nat.ble E.length n with
 |true=>eW T Γ ops E w λw1=>Uu w1 λw1=>match u7 ops (n-E.length) (Da E L0) with
  |true=>lC T Γ ops E (n-E.length) (Da E L0) w1 λw2=>K (w2.Mw dead)
  |false=>aZ (Hu (Ot ops) 0 w1.st.tmps) λfx=>Ww T Γ ops (n-E.length) (Da E L0) w1 λw0=>Uu (w0.Mw dead) λw0=>K w0/\lC T Γ ops E (n-E.length) (Da E L0) w1 λw2=>Uu (w2.Mw dead) λw2=>YP fx w0.st w2.st
 |false=>False
def lj (ops:Array Oper) (draw:Bool) (w:WS) (K:WS->Prop):Prop:=
 match draw with
 |true=>match Yo false Γ ops with
  |true=>eW T Γ ops (ei false Γ ops) w λw'=>CB T Γ ops (Gv false Γ ops) w' K
  |false=>match Yo true Γ ops with
   |true=>eW T Γ ops (ei true Γ ops) w λw'=>CB T Γ ops (Gv true Γ ops) w' K
   |false=>match Region.noSelect ops&&Nat.ble (ops.size-(Hw ops).length) 8 with
    |true=>eW T Γ ops (Hw ops) w λw'=>match eg false ops&&!T.marks.contains dA with
     |true=>ye T Γ ops (ops.size-(Hw ops).length) (Da (Hw ops) (Array.replicate ops.size false)) w' K
     |false=>Ww T Γ ops (ops.size-(Hw ops).length) (Da (Hw ops) (Array.replicate ops.size false)) w' λw0=>Uu w0 λw0=>K w0/\ye T Γ ops (ops.size-(Hw ops).length) (Da (Hw ops) (Array.replicate ops.size false)) w' λw1=>ND w0.st w1.st
    |false=>match Region.noSelect ops with
     |true=>eW T Γ ops (Hw ops) w λw'=>qc T Γ (Uc T ops (Da (Hw ops) (Array.replicate ops.size false))) (ops.size-(Hw ops).length) (Da (Hw ops) (Array.replicate ops.size false)) ops w' K
     |false=>False
 |false=>MH T Γ ops ops.toList w K
def rC (ops:Array Oper) (draw:Bool) (w:WS) (K:WS->Prop):Prop:=
 match T.marks.contains dA&&(nB ops).all (Tm ops) with
 |true=>match draw&&(!(Yo false Γ ops||Yo true Γ ops)&&DB ops) with
  |true=>eW T Γ ops (Hw ops) w λw'=>DC T Γ (nB ops) (xS ops (pw ops)) (ops.size-(Hw ops).length) (pw ops) ops w' K
  |false=>lj T Γ ops draw w λw'=>K (w'.Mw (nB ops))
 |false=>lj T Γ ops draw w K
def Zw (live:Nat->List Nat):Code->WS->(Iu->WS->Prop)->Prop
 | .skip,w,Q=>Q .normal w
 | .label _,w,Q=>Q .normal w
 | .region _ ops draw,w,Q=>rC T (rz Γ draw) ops draw {w with st:=w.st.gK ops} λw'=>Uu w' (Q .normal)
 | .seq a b,w,Q=>Zw live a w λe w'=>match e with
  | .normal=>Zw live b w' Q
  | .exit id=>Q (.exit id) w'
  | .ret=>Q .ret w'
 | .cond c a b,w,Q=>SI w c λt w'=>match t with
  |true=>Zw live a w' Q
  |false=>Zw live b w' Q
 | .block id c,w,Q=>Zw live c w λe w'=>match e with
  | .normal=>Q .normal w'
  | .exit yE=>if yE=id then Q .normal w' else Q (.exit yE) w'
  | .ret=>Q .ret w'
 | .loop c,w,Q=>
  j7 (w.st.clean (live (Dm c))) λs0=>aZ (Hu (stays live c) 0 s0.tmps) λfx=>j7 (s0.mask fx) λm=>
  rT (Us T.parts s0.tmps) s0 (Gz (V:=RT m) (λv k=>j7 ((St.o3 fx s0 (dQ m v)).whole (Us T.parts s0.tmps)) λsb=>Zw live c ⟨[],sb⟩ λe w'=>match e with
   | .normal=>j7 (w'.st.clean (live (Dm c))) λs1=>rT (Us T.parts s0.tmps) s1 (Fk (dS m (s1.mask fx)) k)
   | .exit id=>Q (.exit id) w'
   | .ret=>Q .ret w') (xX m))
 | .exit id,w,Q=>Q (.exit id) w
 | .ret,w,Q=>Q .ret w
 |_,_,_=>False
def KB (s:Spec) (fn:Func) (P:s.res.den->Prop) (st:St):Prop:=
 Fk (gV T s fn st) λp=>match p.1||!s.fresh with|true=>P p.2|false=>False
def du (st:St) (K:Prop):List AC->List (Bool×CK)->Prop
 | .own l off len::as,(true,_)::r=>match st.at l with
  |some (.arr _ _ _ _ xs)=>(off=0/\len=xs.length)/\du st K as r
  |some (.Ev _ _ xs)=>(off=0/\len=xs.length)/\du st K as r
  |_=>False
 |_::as,(false,_)::r=>du st K as r
 |_,_=>K
def jl (st:St):(cs:List CK)->List AC->(CKs.den cs->List Nat->Prop)->Prop
 | [],[],K=>K () []
 | .Bc e te _::r, .own l off len::as,K=>match st.at l with
  |some (.Bc e' Nr rows none _)=>if h:e'=e/\Nr=te then (off=0/\len=rows.length)/\jl st r as λy t=>K ((h.1▸rows:List (List e.den)),y) (l::t) else False
  |_=>False
 |c::r,a::as,K=>Fk (eI st c a) λp=>jl st r as λy t=>K (p.1,y) (p.2++t)
 |_,_,_=>False
def qM (st:St) (n:Nat) (as:List AC):List (Nat×Nat)->Prop->Prop
 | [],K=>K
 |(k,j)::r,K=>match as[j]? with
  |some (.own l _ _)=>match st.at l with
   |some (.Bc _ _ _ _ (some p))=>match Nat.beq p.1 (Cp false k)&&Nat.blt k 1000 with
    |true=>n<=p.2/\qM st n as r K
    |false=>False
   |_=>False
  |_=>False
def mV (s:MSpec) (fn:Func) (x:Ins.den s.ins) (st:St) (cs:List AC) (P:CKs.den s.outs×IOs.den s.ins->Prop):Prop:=
 Fk (Zh T st fn.results.toList) λl=>Fk (wD s st l) λp=>jl st s.outs (cs++p.1) λr ls=>Fk (Ln st 0 s.ins) λo=>
  match Uv (p.2++ls++Mj 0 s.ins)&&Nat.blt s.ins.length 1000&&Nat.blt s.outs.length 1000&&s.CS with
  |true=>qM st (s.Ep x) (cs++p.1) s.keeps (P (r,o))
  |false=>False
def xV (s:MSpec) (fn:Func) (x:Ins.den s.ins) (st:St) (P:CKs.den s.outs×IOs.den s.ins->Prop):Prop:=
 match s.ptr with
 |none=>mV T s fn x st [] P
 |some p=>match st.at Lz with
  |some (.var tid vs)=>match Nat.beq tid p.1&&Nat.beq vs.length p.2 with
   |true=>Fk (Gq 0 s.ins vs) λcs=>du st (mV T s fn x st cs P) vs s.ins
   |false=>False
  |_=>False
@[irreducible] def fnMW (s:MSpec) (fn:Func) (x:Ins.den s.ins) (P:CKs.den s.outs×IOs.den s.ins->Prop):Prop:=
 match Nat.blt s.ins.length 1000&&rn s with
 |false=>False
 |true=>Fk fn.body λc=>Zw T Γ (qS T.marks fn c) c {kn:= [],st:= {tmps:=Vd s (Xa 0 s.ins x)++List.replicate (fn.ntmps-(Vd s (Xa 0 s.ins x)).length) .undef,heap:=ka s x} } λe w=>match e with
  | .normal=>xV T s fn x w.st P
  | .ret=>xV T s fn x w.st P
  | .exit _=>False
@[irreducible] def fnW (s:Spec) (fn:Func) (x:s.arg.den) (P:s.res.den->Prop):Prop:=
 Fk fn.body λc=>Zw T Γ (qS T.marks fn c) c {kn:= [],st:= {tmps:=Oy s.arg x++List.replicate (fn.ntmps-(Oy s.arg x).length) .undef,heap:= []} } λe w=>match e with
  | .normal=>KB T s fn P w.st
  | .ret=>KB T s fn P w.st
  | .exit _=>False
end Go.Proofs.Ytfgfigkbgecfnaa
