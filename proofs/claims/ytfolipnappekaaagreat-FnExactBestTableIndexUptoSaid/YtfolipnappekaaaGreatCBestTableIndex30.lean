/-
  Part 31 of the proof that the statement FnExactBestTableIndex holds.
-/
import Derived.Test.YtfolipnappekaaaGreatCBestTableIndex29
namespace Go.Proofs.YtfolipnappekaaaGreat
open Go.RowKit
inductive Br (b:Bool) (A B:Prop):Prop
 |mk (t:b=true->A) (f:b=false->B)
inductive Bk {V:Type} (step:V->(V->Prop)->Prop) (v0:V):Prop
 |mk (I:V->Prop) (μ:V->Nat) (h0:I v0) (h: ∀v,I v->step v (λv'=>I v'/\μ v'<μ v))
structure WS where
 kn:List (Nat×Bool)
 st:St
def pS:List (Nat×Bool)->Nat->Option Bool
 | [],_=>none
 |(k,b)::r,t=>if k=t then some b else pS r t
def rK:List (Nat×Bool)->Nat->List (Nat×Bool)
 | [],_=> []
 |(k,b)::r,t=>if k=t then rK r t else (k,b)::rK r t
def WS.put (w:WS) (dst:Option Tmp) (v:AV):WS:=
 match dst with
 |some d=> {kn:=rK w.kn d,st:=w.st.put (some d) v}
 |none=>w
def Pc (kn:List (Nat×Bool)):Operand->Option Bool
 | .const (.bool b)=>some b
 | .tmp t=>pS kn t
 |_=>none
def Di (kn:List (Nat×Bool)) (o:Oper):Option Bool:=
 match o.op with
 | .assign x=>Pc kn x
 | .move x=>Pc kn x
 | .unOp .not _ x=>(Pc kn x).map (!·)
 | .pick c a b=>match Pc kn c with
  |some true=>Pc kn a
  |some false=>Pc kn b
  |none=>none
 |_=>none
def WS.qh (w:WS) (o:Oper) (v:AV):WS:=
 match o.dst,Di w.kn o with
 |some d,some b=>match (w.st.put (some d) v).get d with
  | .at (.data _ .bool _)=> {kn:=(d,b)::rK w.kn d,st:=w.st.put (some d) v}
  |_=>w.put (some d) v
 |dst,_=>w.put dst v
def WS.to (w:WS) (st:St):WS:= {kn:=w.kn,st:=st}
def brT (w:WS) (t:Nat) (K:Bool->WS->Prop):Prop:=
 match pS w.kn t with
 |some b=>K b w
 |none=>match w.st.get t with
  | .at (.data _ .bool b)=>Br b (K true {kn:=(t,true)::w.kn,st:=w.st}) (K false {kn:=(t,false)::w.kn,st:=w.st})
  |_=>False
def brO (w:WS) (c:Operand) (K:Bool->WS->Prop):Prop:=
 match c with
 | .tmp t=>brT w t K
 | .const (.bool b)=>K b w
 |_=>False
def Dw {α:Type} (o:Option α) (K:α->Prop):Prop:=match o with|some x=>K x|none=>False
def YB (T:Tab) (st:St) (t:TypeId) (x:AV) (l h:Int):Option AV:=
 match x with
 | .at (.data fr (.slice e) xs)=>if (T.elem t).bind T.ty=some e then some (.at (.data fr (.slice e) ((xs.take h.toNat).drop l.toNat))) else none
 | .at (.own k off _)=>match st.at k with
  |some (.arr _ _ e tid _)=>if T.elem t=some tid/\T.ty tid=some e then some (.at (.own k (off+l.toNat) (h.toNat-l.toNat))) else none
  |_=>none
 | .at (.data _ .str s)=>if T.ty t=some .str then some (.at (.data true .str (s.extract l.toNat h.toNat))) else none
 |_=>none
variable (T:Tab) (Γ:Env)
def UP (op:BinOp) (t:TypeId) (x y:AV) (K:AV->Prop):Prop:=
 match op,x,y with
 | .quo, .at (.data _ (.int k) a), .at (.data _ (.int k') b)=>if k=k' then b≠0/\K (.at (.data true (.int k) (k.wrap (a.tdiv b)))) else False
 | .rem, .at (.data _ (.int k) a), .at (.data _ (.int k') b)=>if k=k' then b≠0/\K (.at (.data true (.int k) (a.tmod b))) else False
 | .shl, .at (.data _ (.int k) a), .at (.data _ (.int _) b)=> ¬b<0/\K (.at (.data true (.int k) (k.wrap (a*2^(min b.toNat k.bits)))))
 | .shr, .at (.data _ (.int k) a), .at (.data _ (.int _) b)=> ¬b<0/\K (.at (.data true (.int k) (a.fdiv (2^(min b.toNat k.bits)))))
 | .add, .at (.data _ .str a), .at (.data _ .str b)=>a.size+b.size<=4294967296/\K (.at (.data true .str (a++b)))
 |op,x,y=>Dw (Mx T op t x y) K
def LM (st:St) (t:TypeId) (p:AV) (K:AV->Prop):Prop:=
 match p with
 | .at (.Fo l i)=>Dw (T.ty t) λτ=>match st.at l with
  |some (.arr fr _ e _ xs)=>if e=τ then ∃x,xs[i]?=some x/\K (.at (.data (fr||e.flat) e x)) else False
  |some (.Cz e _ xs)=>if e=τ then ∃x,xs[i]?=some x/\K (if e.Ab then .agg (aL l i 0 e x) else .at ((aL l i 0 e x).headD .undef)) else False
  |some (.Ai _ _ _ none _)=>if τ.Ab then False else K (.at (.sub l i 0))
  |_=>False
 | .at (.data fr (.optr Iu) x)=>Dw (T.ty t) λτ=>if Iu=τ then ∃y,x=some y/\K (.at (.data (fr||Iu.flat) Iu y)) else False
 |p=>Dw (Kh T st t p) K
def fK (s:TypeId) (x:AV) (f:Nat) (K:AV->Prop):Prop:=
 match x with
 | .at (.data fr (.optr τ) x)=> ∃y,x=some y/\Dw (Ip T s (.at (.data fr (.ptr τ) y)) f) K
 |x=>Dw (Ip T s x f) K
def rU (st:St) (x:Operand) (K:AV->Prop) (d:Option AV):Prop:=
 match st.ev x with
 | .at (.data fr (.optr τ) x)=> ∃y,x=some y/\K (.at (.data fr (.ptr τ) y))
 |_=>Dw d K
def BE (st:St) (t:TypeId) (x:AV) (lo hi:Option AV) (K:AV->Prop):Prop:=
 Dw (wV x) λn=>Dw (IQ lo 0) λl=>Dw (IQ hi n) λh=>(0<=l/\l<=h/\h<=n)/\Dw (YB T st t x l h) K
def fU (st:St) (t:TypeId) (x i:AV) (K:AV->Prop):Prop:=
 match x,i with
 | .at (.data fr (.slice e) xs), .at (.data _ (.int _) n)=>if (T.elem t).bind T.ty=some e then ∃x,idx xs n=some x/\K (.at (.data fr (.ptr e) x)) else False
 | .at (.own l off len), .at (.data _ (.int _) n)=>match st.at l with
  |some (.arr _ _ e tid _)=>if T.elem t=some tid/\T.ty tid=some e then (0<=n/\n<len)/\K (.at (.Fo l (off+n.toNat))) else False
  |some (.Cz e tid _)=>if T.elem t=some tid/\T.ty tid=some e then (0<=n/\n<len)/\K (.at (.Fo l (off+n.toNat))) else False
  |some (.Ai _ te _ _ _)=>if T.elem t=some te/\(T.ty te).map Ty.size=some 1 then (0<=n/\n<len)/\K (.at (.Fo l (off+n.toNat))) else False
  |_=>False
 | .at (.sub l i _), .at (.data _ (.int _) n)=>match st.at l with
  |some (.Ai e _ rows none _)=>if ((T.elem t).bind T.ty).map Ty.size=some e.size then (0<=n/\n<(rows.getD i []).length)/\K (.at (.Fk l i n.toNat)) else False
  |_=>False
 |_,_=>False
def zz (t:TypeId) (x i:AV) (K:AV->Prop):Prop:=
 match x,i with
 | .at (.data _ .str s), .at (.data _ (.int _) n)=>if T.ty t=some .str then 0<=n/\ ∃b,s[n.toNat]?=some b/\K (.at (.data true (.int .u8) b.toNat)) else False
 |_,_=>False
def r8 (st:St) (f:FuncId) (args:List AV) (K:AV->Prop):Prop:=
 Dw (match Γ f with|some (.q s)=>some s|_=>none) λs=>match s.fresh||s.res.flat||args.all (·.settled) with
  |true=>Dw (Bp st s.arg args) λp=> ∃y,s.fn p.2=some y/\K (if s.Dh then .Uo (s.fresh||s.res.flat) s.res y else .at (.data (s.fresh||s.res.flat) s.res y))
  |false=>False
def z0 (st:St) (v:AV) (args:List AV) (K:AV->Prop):Prop:=
 match v with
 | .at (.data fr (.clo f τ) x)=>match τ.chain with|true=>(match Nat.blt f 1000000000 with|true=>r8 Γ st f (args++Uu fr τ x) K|false=>r8 Γ st (f-1000000000) (Uu fr τ x++args) K)|false=>False
 | .at (.clo f Bu)=>r8 Γ st f (args++Bu.map λp=> .at (.Dn p.1 p.2)) K
 |_=>False
def qW (w:WS) (o:Oper) (K:AV->WS->Prop):Prop:=
 match o.op with
 | .pick c a b=>brO w c λt w'=>match t with|true=>K (w'.st.ev a) w'|false=>K (w'.st.ev b) w'
 | .load t a=>LM T w.st t (w.st.ev a) λv=>K v w
 | .binOp op t x y _=>UP T op t (w.st.ev x) (w.st.ev y) λv=>K v w
 | .slice t x lo hi mx=>match mx with
  |none=>BE T w.st t (w.st.ev x) (lo.map w.st.ev) (hi.map w.st.ev) λv=>K v w
  |some _=>False
 | .indexAddr t x i=>fU T w.st t (jU (w.st.ev x)) (w.st.ev i) λv=>K v w
 | .index t x i=>zz T t (w.st.ev x) (w.st.ev i) λv=>K v w
 | .call {callee:= .value (.func f),args, .. } =>r8 Γ w.st f (args.toList.map w.st.ev) λv=>K v w
 | .call {callee:= .value (.tmp t),args, .. } =>z0 Γ w.st (w.st.get t) (args.toList.map w.st.ev) λv=>K v w
 | .fieldAddr s x f=>fK T s (w.st.ev x) f λv=>K v w
 | .nilCheck x=>rU w.st x (λv=>K v w) (Cg T Γ w.st o)
 |_=>Dw (Cg T Γ w.st o) λv=>K v w
def BS (st:St) (t:TypeId) (p v:AV) (K:St->Prop):Prop:=
 match p with
 | .at (.Fo l j)=>Dw (T.ty t) λτ=>Dw (settle st v) λq=>match q.2.at l with
  |some (.arr fr tr e tid xs)=>Dw (Cq q.2 τ q.1) λu=>if h:τ=e then j<xs.length/\K (q.2.Fh l (.arr (fr&&u.1) (tr&&(Ms st v&&e.tree)) e tid (xs.set j (h▸u.2)))) else False
  |_=>False
 |p=>Dw (Nw T st t p v) K
def EG (st:St) (t:TypeId) (p v:AV) (K:St->Prop):Prop:=
 match p with
 | .at (.Fk l i j)=>Dw (T.ty t) λτ=>Dw (settle st v) λq=>match q.2.at l with
  |some (.Ai e te rows none kp)=>Dw (Cq q.2 τ q.1) λu=>if h:τ=e then K (q.2.Fh l (.Ai e te (rows.set i ((rows.getD i []).set j (h▸u.2))) none kp)) else False
  |_=>False
 | .at (.Fo l j)=>Dw (T.ty t) λτ=>match st.at l,v with
  |some (.Ai e te rows out kp), .at (.own m off len)=>match st.at m with
   |some (.arr _ _ e' _ xs)=>if h:e'=e/\(Nat.blt l Ak&&(!Nat.beq m l&&!τ.Ab))=true then
     off=0/\len=xs.length/\(match out with|none=>True|some i=>i=j)/\K (Mw st l j m e te rows (h.1▸xs) (Vh j kp))
    else False
   |_=>False
  |_,_=>False
 |_=>False
def uE (st:St) (t:TypeId) (p v:AV) (K:St->Prop):Prop:=match DH st p with
 |true=>EG T st t p v K
 |false=>BS T st t p v K
def gJ (st:St) (dst:Nat) (t:TypeId) (x y:Operand) (K:AV->St->Prop):Prop:=
 Dw (T.elem t) λte=>Dw (T.ty te) λe=>Dw (settle st (st.ev y)) λq=>Dw (Cq q.2 (.slice e) q.1) λu=>match q.2.ev x with
  | .at .Hf=>match Nat.blt dst Ak with
   |true=>List.length u.2<=Bj/\K (.at (.own dst 0 (List.length u.2))) ((q.2.new dst (.arr (T.ng||e.flat) T.uP e te [])).new dst (.arr ((T.ng||e.flat)&&(u.1||e.flat)) (T.uP&&(e.flat||(Ms st (st.ev y)&&e.tree))) e te u.2))
   |false=>False
  | .at (.own l off len)=>match q.2.at l with
   |some (.arr fr tr e' tid xs)=>if h:e'=e/\tid=te/\Nat.blt l Ak=true then
     off=0/\len=xs.length/\len+List.length u.2<=Bj/\K (.at (.own l 0 (List.length ((h.1▸xs:List e.den)++u.2)))) (q.2.new l (.arr (fr&&(u.1||e.flat)) (tr&&(e.flat||(Ms st (st.ev y)&&e.tree))) e te ((h.1▸xs:List e.den)++u.2)))
    else False
   |_=>False
  |_=>False
def mG (st:St) (dst:Nat) (t:TypeId) (x y:Operand) (K:AV->St->Prop):Prop:=
 match x with
 | .tmp tx=>match st.get tx with
  | .at (.sub l i _)=>Dw (T.elem t) λtid=>match st.at l with
   |some (.Ai e te rows none kp)=>match Nat.blt l Ak&&(Nat.blt dst Ak&&!Nat.beq dst l) with
    |true=>gJ T ((Kg st l i dst e te tid rows kp).put (some tx) (.at (.own dst 0 (rows.getD i []).length))) dst t x y K
    |false=>False
   |_=>False
  |_=>gJ T st dst t x y K
 |_=>gJ T st dst t x y K
def LS (st:St) (dst:Nat) (t:TypeId) (l c:AV) (K:AV->St->Prop):Prop:=
 match l,c with
 | .at (.data _ (.int _) n), .at (.data _ (.int _) m)=>Dw (T.elem t) λte=>Dw (T.ty te) λe=>match aT e&&Nat.blt dst Ak with
  |true=>(0<=n/\n<Bj+1)/\n=m/\K (.at (.own dst 0 (List.replicate n.toNat e.zero).length)) (st.new dst (.arr (T.ng||e.flat) (T.uP&&e.tree) e te (List.replicate n.toNat e.zero)))
  |false=>False
 |_,_=>False
def zN (st:St) (dst:Nat) (t:TypeId) (l c:AV) (K:AV->St->Prop):Prop:=
 match Yn T t with
 |none=>LS T st dst t l c K
 |some p=>match l,c with
  | .at (.data _ (.int _) n), .at (.data _ (.int _) m)=>match Nat.blt dst Ak with
   |true=>(0<=n/\n<Bj+1)/\n=m/\K (.at (.own dst 0 (List.replicate n.toNat ([]:List p.2.den)).length)) (Kv st dst dst (.Ai p.2 p.1 (List.replicate n.toNat []) none none))
   |false=>False
  |_,_=>False
def Zv (st:St) (dst:Nat) (t:TypeId) (len:Nat) (parts:Array (Nat×Operand)) (K:AV->St->Prop):Prop:=
 match Yn T t with
 |none=>Dw (Hj T st dst t len parts) λr=>K r.1 r.2
 |some p=>match parts.toList with
  | [(0,x)]=>match st.ev x with
   | .at (.own m off ln)=>match st.at m with
    |some (.arr _ _ e' _ xs)=>if h:e'=p.2/\(Nat.beq len 1&&(Nat.blt dst Ak&&Nat.blt m Ak))=true then off=0/\ln=xs.length/\K (.at (.own dst 0 1)) (Kv st dst m (.Ai p.2 p.1 [h.1▸xs] none none)) else False
    |_=>False
   |_=>False
  |_=>False
def mI (st:St) (dst:Nat) (t:TypeId) (x y:Operand) (K:AV->St->Prop):Prop:=
 match Yn T t with
 |none=>mG T st dst t x y K
 |some p=>match st.ev x,st.ev y with
  | .at (.own l off len), .at (.own m MB nL)=>match st.at l,st.at m with
   |some (.Ai e1 te1 A none _),some (.Ai e2 qE B none _)=>
    if h:(e1=p.2/\e2=p.2)/\(decide (te1=p.1)&&decide (qE=p.1)&&(Nat.blt l Ak&&(Nat.blt m Ak&&!Nat.beq m l)))=true then
     (off=0/\len=A.length)/\(MB=0/\nL=B.length)/\0<B.length/\A.length+B.length<=Bj/\
      K (.at (.own l 0 (List.length ((h.1.1▸A:List (List p.2.den))++(h.1.2▸B:List (List p.2.den)))))) (Kv st l m (.Ai p.2 p.1 ((h.1.1▸A:List (List p.2.den))++(h.1.2▸B:List (List p.2.den))) none none))
    else False
   |_,_=>False
  |_,_=>False
def aO (st:St) (io:Bool) (k:Nat):(c:CK)->AC->(c.den->List (Nat×Loc)->Prop)->Prop
 | .Ee τ, .own l off len,K=>Dw (Bm st τ (.own l off len)) λp=>K p.2 [(Bq false k, .view l)]
 | .Ee τ, .clo g Bu,K=>match Vw st (Bu.map (·.1))&&!τ.Ab with
  |true=>Dw (Fe st τ (.clo g Bu)) λp=>K p.2 (views k (Bu.map (·.1)))
  |false=>False
 | .Ee τ, .Dn l i,K=>match Vw st [l]&&!τ.Ab with
  |true=>Dw (Fe st τ (.Dn l i)) λp=>K p.2 (views k [l])
  |false=>False
 | .Ee τ, .sub l i c,K=>Dw (Bm st τ (.sub l i c)) λp=>K p.2 [(Bq false k, .view l)]
 | .Ee τ,a,K=>match τ.flat||a.settled with
  |true=>Dw (Bm st τ a) λp=>K p.2 []
  |false=>False
 | .row e te, .own l off len,K=>match st.at l with
  |some (.arr _ _ e' Kz xs)=>if h:e'=e/\Kz=te then off=0/\len=xs.length/\K (h.1▸xs:List e.den) [(Bq io k, .row l)] else False
  |_=>False
 | .row e _, .sub l i c,K=>match st.at l with
  |some (.Cz e' _ xs)=>if h:e'= .slice e/\e.flat=true/\io=true/\c=0 then ∃y,xs[i]?=some y/\K (h.1▸y:(Ty.slice e).den) [(Bq io k, .sub l i c)] else False
  |_=>False
 | .row _ _, .Hf,K=>K [] []
 | .Dp e te, .own l off len,K=>match st.at l with
  |some (.Cz e' Kz xs)=>if h:e'=e/\Kz=te then off=0/\len=xs.length/\K (h.1▸xs:List e.den) [(Bq io k, .row l)] else False
  |_=>False
 | .Dp e _, .sub l i c,K=>match st.at l with
  |some (.Cz e' _ xs)=>if h:e'= .slice e/\io=true/\c=0 then ∃y,xs[i]?=some y/\K (h.1▸y:(Ty.slice e).den) [(Bq io k, .sub l i c)] else False
  |_=>False
 | .Dp _ _, .Hf,K=>K [] []
 | .part e te, .own l off len,K=>match st.at l with
  |some (.arr _ _ e' Kz xs)=>if h:e'=e/\Kz=te/\e.flat=true/\io=true then K ((h.1▸xs:List e.den),off,len) [(Bq io k, .row l)] else False
  |_=>False
 | .Ai e te _, .own l off len,K=>match st.at l with
  |some (.Ai e' Kz rows none _)=>if h:e'=e/\Kz=te/\io=false then off=0/\len=rows.length/\K (h.1▸rows:List (List e.den)) [(Bq io k, .row l)] else False
  |_=>False
 |_,_,_=>False
def uO (st:St):(k:Nat)->(cs:List (Bool×CK))->List AC->(Ins.den cs->List (Nat×Loc)->Prop)->Prop
 |_,[],[],K=>K () []
 |k,p::r,a::as,K=>aO st p.1 k p.2 a λx t1=>uO st (k+1) r as λy t2=>K (x,y) (t1++t2)
 |_,_,_,_=>False
def l7 (st:St):(c:CK)->c.den->AC->(St->Prop)->Prop
 | .row e _,ys, .own l _ len,K=>match st.at l with
  |some (.arr fr tr e' te xs)=>if h:e=e' then (List.length ys=len/\xs.length=len)/\K (st.Fh l (.arr (fr&&e'.flat) (tr&&e'.flat) e' te (h▸ys))) else False
  |_=>False
 | .Dp e _,ys, .own l _ len,K=>match st.at l with
  |some (.Cz e' te xs)=>if h:e=e' then (List.length ys=len/\xs.length=len)/\K (st.Fh l (.Cz e' te (h▸ys))) else False
  |_=>False
 | .row e _,ys, .sub l i _,K=>match st.at l with
  |some (.Cz e' te xs)=>if h: .slice e=e' then ∃y,xs[i]?=some y/\List.length ys=List.length (h▸y:(Ty.slice e).den)/\K (st.Fh l (.Cz e' te (xs.set i (h▸(ys:(Ty.slice e).den))))) else False
  |_=>False
 | .Dp e _,ys, .sub l i _,K=>match st.at l with
  |some (.Cz e' te xs)=>if h: .slice e=e' then ∃y,xs[i]?=some y/\List.length ys=List.length (h▸y:(Ty.slice e).den)/\K (st.Fh l (.Cz e' te (xs.set i (h▸(ys:(Ty.slice e).den))))) else False
  |_=>False
 |_,_, .Hf,K=>K st
 |_,_,_,_=>False
def MO (st:St) (e:Ty) (ys:List e.den):AC->(St->Prop)->Prop
 | .own l _ _,K=>match st.at l with
  |some (.arr fr tr e' te xs)=>if h:e=e' then List.length ys=xs.length/\K (st.Fh l (.arr fr tr e' te (h▸ys))) else False
  |_=>False
 |_,_=>False
def cN:(cs:List (Bool×CK))->IOs.den cs->List AC->St->(St->Prop)->Prop
 | [],_,_,st,K=>K st
 |(true, .Ee _)::r,x,_::as,st,K=>cN r x as st K
 |(true, .row e te)::r,x,a::as,st,K=>l7 st (.row e te) x.1 a λst'=>cN r x.2 as st' K
 |(true, .Dp e te)::r,x,a::as,st,K=>l7 st (.Dp e te) x.1 a λst'=>cN r x.2 as st' K
 |(true, .part e _)::r,x,a::as,st,K=>MO st e x.1 a λst'=>cN r x.2 as st' K
 |(true, .Ai _ _ _)::r,x,_::as,st,K=>cN r x as st K
 |(false,_)::r,x,_::as,st,K=>cN r x as st K
 |_,_,_,_,_=>False
def oZ (H:List (Nat×OB)) (ls:List Nat) (n:Nat):List AV->Prop->Prop
 | [],K=>K
 | .at (.sub l i _)::r,K=>match ls.contains l with
  |true=>(i<n/\i<mc H l)/\oZ H ls n r K
  |false=>oZ H ls n r K
 |_::r,K=>oZ H ls n r K
def yZ (st:St) (dst:Option Nat) (s:MSpec) (args:List AV) (K:AV->St->Prop):Prop:=
 Dw (EB st s args) λq=>Dw (ungroup s.Fb q.2.2) λjd=>uO st 0 s.ins (q.2.1++jd) λx tks=>
  match Sw (tks.map λt=>t.2.Pq)&&tG (Lu s tks (dst.getD 0)) (s.outs.length+(gk s (dst.getD 0)).length)&&Nat.blt s.outs.length 1000&&Nat.blt s.ins.length 1000&&(Pa s.ins q.2.1&&q.1.all λl=>!((tks.map λt=>t.2.Pq)++Lu s tks (dst.getD 0)).contains l) with
  |true=> ∃p,s.fn x=some p/\cN s.ins p.2 (q.2.1++jd) st λst1=>Dw (RE s (dst.getD 0) ((Vl (Bt (Lu s tks (dst.getD 0))) 0 s.outs p.1).drop s.Tg)) λv=>
    oZ (fE st st1 (dst.getD 0) s q.1 tks p.1).heap (Vg st.heap (Lu s tks (dst.getD 0)) tks s.keeps) (s.Ci x) st.tmps
     (K v (fV st (fE st st1 (dst.getD 0) s q.1 tks p.1) (Vg st.heap (Lu s tks (dst.getD 0)) tks s.keeps) (s.Ci x)))
  |false=>False
def TZ (w:WS) (o:Oper) (K:AV->WS->Prop):Prop:=
 match o.op with
 | .store t p x=>uE T w.st t (w.st.ev p) (w.st.ev x) λs=>K .undef (w.to s)
 | .makeSlice t l c=>Dw o.dst λd=>zN T w.st d t (w.st.ev l) (w.st.ev c) λv s=>K v (w.to s)
 | .call {callee:= .builtin .append,args,argTypes} =>match o.dst,args.toList,argTypes.toList with
  |some d,[x,y],[t,t']=>if t=t' then mI T w.st d t x y λv s=>K v (w.to s) else False
  |_,_,_=>False
 | .assign _=>Dw (evalOp T Γ w.st o) λr=>K r.1 (w.to r.2)
 | .alloc _=>Dw (evalOp T Γ w.st o) λr=>K r.1 (w.to r.2)
 | .box _ _=>Dw (evalOp T Γ w.st o) λr=>K r.1 (w.to r.2)
 | .buildSlice t len parts=>Dw o.dst λd=>Zv T w.st d t len parts λv s=>K v (w.to s)
 | .build _ _=>Dw (evalOp T Γ w.st o) λr=>K r.1 (w.to r.2)
 | .makeMap _ _=>Dw (evalOp T Γ w.st o) λr=>K r.1 (w.to r.2)
 | .mapUpdate _ _ _ _=>Dw (evalOp T Γ w.st o) λr=>K r.1 (w.to r.2)
 | .insert _ _ _ _=>Dw (evalOp T Γ w.st o) λr=>K r.1 (w.to r.2)
 | .call {callee:= .builtin .copy, .. } =>Dw (evalOp T Γ w.st o) λr=>K r.1 (w.to r.2)
 | .call {callee:= .builtin .clear, .. } =>Dw (evalOp T Γ w.st o) λr=>K r.1 (w.to r.2)
 | .call {callee:= .value (.func f),args, .. } =>match Γ f with
  |some (.m s)=>yZ w.st o.dst s (args.toList.map w.st.ev) λv s'=>K v (w.to s')
  |some (.q s)=>match ao s (args.toList.map w.st.ev) with
   |true=>Dw (Ji args.toList w.st) λst1=>qW T Γ (w.to st1) o K
   |false=>qW T Γ w o K
  |_=>qW T Γ w o K
 |_=>qW T Γ w o K
def AV.LH:AV->Bool
 | .at .skip=>true
 |_=>false
def bW (w:WS) (o:Oper) (K:AV->WS->Prop):Prop:=
 match o.op with
 | .buildSlice t len parts=>Dw (Uv T w.st t len parts) λv=>K v w
 | .build t parts=>Dw (Qd T w.st t parts) λv=>K v w
 |_=>qW T Γ w o K
def fe (ops:Array Oper) (w:WS) (o:Oper) (run:(AV->WS->Prop)->WS->Prop) (K:WS->Prop):Prop:=
 match o.guard with
 |none=>run (λv w'=>K (w'.qh o v)) w
 |some (j,want)=>Dw ((ops[j]?).bind (·.dst)) λt=>match (w.st.get t).LH with
  |true=>K (w.put o.dst (.at .skip))
  |false=>brT w t λb w'=>match b,want with
   |true,true=>run (λv ph=>K (ph.qh o v)) w'
   |false,false=>run (λv ph=>K (ph.qh o v)) w'
   |_,_=>K (w'.put o.dst (.at .skip))
def XK (ops:Array Oper):List Oper->WS->(WS->Prop)->Prop
 | [],w,K=>K w
 |o::r,w,K=>fe ops w o (λk w'=>TZ T Γ w' o k) λw'=>XK ops r w' K
def KV (ops:Array Oper):List Nat->WS->(WS->Prop)->Prop
 | [],w,K=>K w
 |i::r,w,K=>Dw ops[i]? λo=>fe ops w o (λk w'=>TZ T Γ w' o k) λw'=>KV ops r w' K
def rq (ops:Array Oper):List Nat->WS->(WS->Prop)->Prop
 | [],w,K=>K w
 |i::r,w,K=>Dw ops[i]? λo=>fe ops w o (λk w'=>bW T Γ w' o k) λw'=>rq ops r w' K
def PH:List Nat->(Nat->Prop)->Prop
 | [],_=>True
 | [i],P=>P i
 |i::j::r,P=>P i/\PH (j::r) P
def EP (ops:Array Oper):Nat->Array Bool->WS->(WS->Prop)->Prop
 |0,Ac,w,K=>match Region.ready .any ops Ac with
  | []=>K w
  |_::_=>False
 |f+1,Ac,w,K=>match Region.ready .any ops Ac with
  | []=>False
  |i::r=>PH (i::r) λk=>Dw ops[k]? λo=>fe ops w o (λkk w'=>TZ T Γ w' o kk) λw'=>EP ops f (Ac.setIfInBounds k true) w' K
def YY:AC->Type->Type
 | .data _ τ _,R=>τ.den×R
 | .sub _ _ _,R=>Nat×R
 | .Fo _ _,R=>Nat×R
 | .Fk _ _ _,R=>Nat×Nat×R
 |_,R=>R
def yP:List AC->Type->Type
 | [],R=>R
 |c::r,R=>YY c (yP r R)
def YZ:AV->Type->Type
 | .at a,R=>YY a R
 | .agg cs,R=>yP cs R
 | .Uo _ τ _,R=>τ.den×R
 | .Ht _,R=>R
def obV:OB->Type->Type
 | .arr _ _ e _ _,R=>List e.den×R
 | .Cz e _ _,R=>List e.den×R
 | .var _ vs,R=>yP vs R
 | .Ai e _ _ _ none,R=>List (List e.den)×R
 | .Ai e _ _ _ (some _),R=>List (List e.den)×(Nat×R)
 | .Ol v _,R=>(ByteArray->Option v.den)×R
def lq:List AV->Type->Type
 | [],R=>R
 |v::r,R=>YZ v (lq r R)
def ru:List (Nat×OB)->Type->Type
 | [],R=>R
 |p::r,R=>obV p.2 (ru r R)
def stV (s:St):Type:=lq s.tmps (ru s.heap Unit)
def CQ:(c:AC)-> {R:Type} ->R->YY c R
 | .data _ _ x,_,r=>(x,r)
 | .undef,_,r=>r
 | .skip,_,r=>r
 | .Hf,_,r=>r
 | .Pr,_,r=>r
 | .own _ _ _,_,r=>r
 | .Dn _ _,_,r=>r
 | .Fo _ i,_,r=>(i,r)
 | .clo _ _,_,r=>r
 | .Fw _,_,r=>r
 | .sub _ i _,_,r=>(i,r)
 | .Fk _ i j,_,r=>(i,j,r)
def mD:(l:List AC)-> {R:Type} ->R->yP l R
 | [],_,r=>r
 |c::l,_,r=>CQ c (mD l r)
def SB:(c:AV)-> {R:Type} ->R->YZ c R
 | .at a,_,r=>CQ a r
 | .agg cs,_,r=>mD cs r
 | .Uo _ _ x,_,r=>(x,r)
 | .Ht _,_,r=>r
def TX:(b:OB)-> {R:Type} ->R->obV b R
 | .arr _ _ _ _ xs,_,r=>(xs,r)
 | .Cz _ _ xs,_,r=>(xs,r)
 | .var _ vs,_,r=>mD vs r
 | .Ai _ _ rows _ none,_,r=>(rows,r)
 | .Ai _ _ rows _ (some p),_,r=>(rows,p.2,r)
 | .Ol _ m,_,r=>(m,r)
def mr:(l:List AV)-> {R:Type} ->R->lq l R
 | [],_,r=>r
 |c::l,_,r=>SB c (mr l r)
def me:(l:List (Nat×OB))-> {R:Type} ->R->ru l R
 | [],_,r=>r
 |p::l,_,r=>TX p.2 (me l r)
def EF (s:St):stV s:=mr s.tmps (me s.heap ())
def jk:(c d:AC)-> {R:Type} ->R->Option (YY c R)
 | .data fr τ _, .data Ox Iu x,_,r=>if h:Iu=τ/\Ox=fr then some (h.1▸x,r) else none
 | .undef, .undef,_,r=>some r
 | .skip, .skip,_,r=>some r
 | .Hf, .Hf,_,r=>some r
 | .Pr, .Pr,_,r=>some r
 | .own l _ _, .own l' _ _,_,r=>if l=l' then some r else none
 | .Dn l i, .Dn l' i',_,r=>if l=l'/\i=i' then some r else none
 | .Fo l _, .Fo l' i',_,r=>if l=l' then some (i',r) else none
 | .clo f c, .clo f' c',_,r=>if f=f'/\c=c' then some r else none
 | .Fw l, .Fw l',_,r=>if l=l' then some r else none
 | .sub l _ c, .sub l' i' c',_,r=>if l=l'/\c=c' then some (i',r) else none
 | .Fk l _ _, .Fk l' i' j',_,r=>if l=l' then some (i',j',r) else none
 |_,_,_,_=>none
def Lt:(l m:List AC)-> {R:Type} ->R->Option (yP l R)
 | [],[],_,r=>some r
 |c::l,d::m,_,r=>(Lt l m r).bind λr'=>jk c d r'
 |_,_,_,_=>none
def fH:(c d:AV)-> {R:Type} ->R->Option (YZ c R)
 | .at a, .at b,_,r=>jk a b r
 | .agg cs, .agg ds,_,r=>Lt cs ds r
 | .Uo fr τ _, .Uo Ox Iu x,_,r=>if h:Iu=τ/\Ox=fr then some (h.1▸x,r) else none
 |_,_,_,_=>none
def Mn:(b d:OB)-> {R:Type} ->R->Option (obV b R)
 | .arr fr tr e tid _, .arr Ox NY e' Nt xs,_,r=>if h:e'=e/\Ox=fr/\NY=tr/\Nt=tid then some (h.1▸xs,r) else none
 | .Cz e tid _, .Cz e' Nt xs,_,r=>if h:e'=e/\Nt=tid then some (h.1▸xs,r) else none
 | .Ol v _, .Ol v' m,_,r=>if h:v'=v then some (h▸m,r) else none
 | .var t vs, .var t' us,_,r=>if t'=t then Lt vs us r else none
 | .Ai e te _ out none, .Ai e' Kz rows bF none,_,r=>if h:e'=e/\Kz=te/\bF=out then some (h.1▸rows,r) else none
 | .Ai e te _ out (some p), .Ai e' Kz rows bF (some p'),_,r=>if h:e'=e/\Kz=te/\bF=out/\p'.1=p.1 then some (h.1▸rows,p'.2,r) else none
 |_,_,_,_=>none
def Jj:(l m:List AV)-> {R:Type} ->R->Option (lq l R)
 | [],[],_,r=>some r
 |c::l,d::m,_,r=>(Jj l m r).bind λr'=>fH c d r'
 |_,_,_,_=>none
def Ki:(l m:List (Nat×OB))-> {R:Type} ->R->Option (ru l R)
 | [],[],_,r=>some r
 |p::l,q::m,_,r=>if q.1=p.1 then (Ki l m r).bind λr'=>Mn p.2 q.2 r' else none
 |_,_,_,_=>none
def dd (s t:St):Option (stV s):=(Ki s.heap t.heap ()).bind λr=>Jj s.tmps t.tmps r
def fC:(c:AC)-> {R:Type} ->YY c R->AC×R
 | .data fr τ _,_,v=>(.data fr τ v.1,v.2)
 | .undef,_,r=>(.undef,r)
 | .skip,_,r=>(.skip,r)
 | .Hf,_,r=>(.Hf,r)
 | .Pr,_,r=>(.Pr,r)
 | .own l off len,_,r=>(.own l off len,r)
 | .Dn l i,_,r=>(.Dn l i,r)
 | .Fo l _,_,v=>(.Fo l v.1,v.2)
 | .clo f c,_,r=>(.clo f c,r)
 | .Fw l,_,r=>(.Fw l,r)
 | .sub l _ c,_,v=>(.sub l v.1 c,v.2)
 | .Fk l _ _,_,v=>(.Fk l v.1 v.2.1,v.2.2)
def Tj:(l:List AC)-> {R:Type} ->yP l R->List AC×R
 | [],_,r=>([],r)
 |c::l,_,v=>((fC c v).1::(Tj l (fC c v).2).1,(Tj l (fC c v).2).2)
def mL:(c:AV)-> {R:Type} ->YZ c R->AV×R
 | .at a,_,v=>(.at (fC a v).1,(fC a v).2)
 | .agg cs,_,v=>(.agg (Tj cs v).1,(Tj cs v).2)
 | .Uo fr τ _,_,v=>(.Uo fr τ v.1,v.2)
 | .Ht l,_,r=>(.Ht l,r)
def nV:(b:OB)-> {R:Type} ->obV b R->OB×R
 | .arr fr tr e tid _,_,v=>(.arr fr tr e tid v.1,v.2)
 | .Cz e tid _,_,v=>(.Cz e tid v.1,v.2)
 | .Ol w _,_,v=>(.Ol w v.1,v.2)
 | .var t vs,_,v=>(.var t (Tj vs v).1,(Tj vs v).2)
 | .Ai e te _ out none,_,v=>(.Ai e te v.1 out none,v.2)
 | .Ai e te _ out (some p),_,v=>(.Ai e te v.1 out (some (p.1,v.2.1)),v.2.2)
def Pn:(l:List AV)-> {R:Type} ->lq l R->List AV×R
 | [],_,r=>([],r)
 |c::l,_,v=>((mL c v).1::(Pn l (mL c v).2).1,(Pn l (mL c v).2).2)
def Yq:(l:List (Nat×OB))-> {R:Type} ->ru l R->List (Nat×OB)×R
 | [],_,r=>([],r)
 |p::l,_,v=>((p.1,(nV p.2 v).1)::(Yq l (nV p.2 v).2).1,(Yq l (nV p.2 v).2).2)
def dc (s:St) (v:stV s):St:= {tmps:=(Pn s.tmps v).1,heap:=(Yq s.heap (Pn s.tmps v).2).1}
def lenOf (H:List (Nat×OB)) (l:Nat):Nat:=match Ad H l with|some (.arr _ _ _ _ xs)=>xs.length|some (.Cz _ _ xs)=>xs.length|some (.Ai _ _ rows _ _)=>rows.length|_=>0
def Sp (ps:List Nat):List AV->List (Nat×Nat×Nat)
 | []=> []
 | .at (.own l off len)::r=>if ps.contains l then (l,off,len)::Sp ps r else Sp ps r
 |_::r=>Sp ps r
def XI:List (Nat×Nat×Nat)->Nat->Nat
 | [],_=>0
 |(k,o,_)::r,l=>if k=l then o else XI r l
def FR:List (Nat×Nat×Nat)->List (Nat×OB)->Nat->Nat
 | [],H,l=>lenOf H l
 |(k,_,n)::r,H,l=>if k=l then n else FR r H l
def aR (B:List (Nat×Nat×Nat)) (H:List (Nat×OB)):AC->AC
 | .own l _ _=> .own l (XI B l) (FR B H l)
 |c=>c
def St.whole (B:List (Nat×Nat×Nat)) (s:St):St:=s.Gg (aR B s.heap)
def sE (B:List (Nat×Nat×Nat)) (H:List (Nat×OB)) (c:AC) (K:Prop):Prop:=match c with
 | .own l off len=>off=XI B l/\len=FR B H l/\K
 |_=>K
def Xz (B:List (Nat×Nat×Nat)) (H:List (Nat×OB)):List AC->Prop->Prop
 | [],K=>K
 |c::r,K=>sE B H c (Xz B H r K)
def CW (B:List (Nat×Nat×Nat)) (H:List (Nat×OB)) (c:AV) (K:Prop):Prop:=match c with
 | .at a=>sE B H a K
 | .agg cs=>Xz B H cs K
 | .Uo _ _ _=>K
 | .Ht _=>False
def Un (B:List (Nat×Nat×Nat)) (H:List (Nat×OB)):List AV->Prop->Prop
 | [],K=>K
 |c::r,K=>CW B H c (Un B H r K)
def dG (B:List (Nat×Nat×Nat)) (H:List (Nat×OB)):List (Nat×OB)->Prop->Prop
 | [],K=>K
 |p::r,K=>match p.2 with
  | .var _ vs=>Xz B H vs (dG B H r K)
  |_=>dG B H r K
def uD (B:List (Nat×Nat×Nat)) (s:St) (K:Prop):Prop:=Un B s.heap s.tmps (dG B s.heap s.heap K)
def AV.Ql:AV->Bool
 | .at (.data _ _ _)=>true
 |_=>false
def Hk (p:Nat->Bool):Nat->List AV->List Bool
 |_,[]=> []
 |i,v::r=>(v.Ql&&p i)::Hk p (i+1) r
def stays (live:Nat->List Nat) (c:Code) (t:Nat):Bool:=!(writes c).contains t&&Vf live c t
def Oa:List Bool->List AV->List AV
 |true::f,_::r=> .undef::Oa f r
 |false::f,v::r=>v::Oa f r
 |_,l=>l
def Pd:List Bool->List AV->List AV->List AV
 |true::f,a::s,_::r=>a::Pd f s r
 |false::f,_::s,v::r=>v::Pd f s r
 |_,_,l=>l
def St.mask (fx:List Bool) (s:St):St:= {tmps:=Oa fx s.tmps,heap:=s.heap}
def St.pX (fx:List Bool) (s0 s:St):St:= {tmps:=Pd fx s0.tmps s.tmps,heap:=s.heap}
def ma (c:AC) (k:AC->Prop):Prop:=match c with
 | .undef=>k .undef
 | .skip=>k .skip
 | .Hf=>k .Hf
 | .Pr=>k .Pr
 | .data fr τ x=>match fr with
  |true=>k (.data true τ x)
  |false=>k (.data false τ x)
 | .own l off len=>k (.own l off len)
 | .Dn l i=>k (.Dn l i)
 | .Fo l i=>k (.Fo l i)
 | .clo f c=>k (.clo f c)
 | .Fw l=>k (.Fw l)
 | .sub l i c=>k (.sub l i c)
 | .Fk l i c=>k (.Fk l i c)
def cj:List AC->(List AC->Prop)->Prop
 | [],k=>k []
 |c::r,k=>ma c λc'=>cj r λr'=>k (c'::r')
def sZ (c:AV) (k:AV->Prop):Prop:=match c with
 | .at a=>ma a λa'=>k (.at a')
 | .agg cs=>cj cs λc7=>k (.agg c7)
 | .Uo fr τ x=>k (.Uo fr τ x)
 | .Ht l=>k (.Ht l)
def ck:List AV->(List AV->Prop)->Prop
 | [],k=>k []
 |c::r,k=>sZ c λc'=>ck r λr'=>k (c'::r')
def ta (b:OB) (k:OB->Prop):Prop:=match b with
 | .arr fr tr e tid xs=>match fr,tr with
  |true,true=>k (.arr true true e tid xs)
  |true,false=>k (.arr true false e tid xs)
  |false,true=>k (.arr false true e tid xs)
  |false,false=>k (.arr false false e tid xs)
 | .Cz e tid xs=>k (.Cz e tid xs)
 | .var t vs=>cj vs λvs'=>k (.var t vs')
 | .Ai e te rows out kp=>match out,kp with
  |none,none=>k (.Ai e te rows none none)
  |none,some (l,n)=>k (.Ai e te rows none (some (l,n)))
  |some i,none=>k (.Ai e te rows (some i) none)
  |some i,some (l,n)=>k (.Ai e te rows (some i) (some (l,n)))
 | .Ol v m=>k (.Ol v m)
def nf:List (Nat×OB)->(List (Nat×OB)->Prop)->Prop
 | [],k=>k []
 |(l,b)::r,k=>ta b λb'=>nf r λr'=>k ((l,b')::r')
def jA (w:WS) (k:WS->Prop):Prop:=ck w.st.tmps λt=>nf w.st.heap λh=>k {kn:=w.kn,st:= {tmps:=t,heap:=h} }
def jz (s:St) (k:St->Prop):Prop:=ck s.tmps λt=>nf s.heap λh=>k {tmps:=t,heap:=h}
def dD:List Bool->(List Bool->Prop)->Prop
 | [],k=>k []
 |true::r,k=>dD r λr'=>k (true::r')
 |false::r,k=>dD r λr'=>k (false::r')
theorem kL {c:AC} {k:AC->Prop} :ma c k↔k c:=by
 cases c<;>simp only [ma]
 split<;>rfl
theorem a8: ∀ {l:List AC} {k:List AC->Prop},cj l k↔k l
 | [],k=>Iff.rfl
 |c::r,k=>by simp only [cj];rw [kL,a8]
theorem we {c:AV} {k:AV->Prop} :sZ c k↔k c:=by
 cases c<;>simp only [sZ]
 ·exact kL
 ·exact a8
theorem a9: ∀ {l:List AV} {k:List AV->Prop},ck l k↔k l
 | [],k=>Iff.rfl
 |c::r,k=>by simp only [ck];rw [we,a9]
theorem wg {b:OB} {k:OB->Prop} :ta b k↔k b:=by
 cases b<;>simp only [ta]
 ·split<;>rfl
 ·exact a8
 ·split<;>rfl
theorem fN: ∀ {l:List (Nat×OB)} {k:List (Nat×OB)->Prop},nf l k↔k l
 | [],k=>Iff.rfl
 |(l,b)::r,k=>by simp only [nf];rw [wg,fN]
theorem FA {s:St} {k:St->Prop} :jz s k=k s:=by
 unfold jz
 exact propext (by rw [a9,fN])
theorem fM: ∀ {l:List Bool} {k:List Bool->Prop},dD l k=k l
 | [],k=>rfl
 |true::r,k=>by simp only [dD];rw [fM]
 |false::r,k=>by simp only [dD];rw [fM]
theorem aa {w:WS} {k:WS->Prop} :jA w k↔k w:=by
 unfold jA
 rw [a9,fN]
def Ur:AC->List (Nat×Nat)
 | .own _ off len=> [(off,len)]
 |_=> []
def Ut:AV->List (Nat×Nat)
 | .at a=>Ur a
 | .agg cs=>cs.flatMap Ur
 |_=> []
def gg:OB->List (Nat×Nat)
 | .var _ vs=>vs.flatMap Ur
 |_=> []
def BR (s:St):List (Nat×Nat):=s.tmps.flatMap Ut++s.heap.flatMap λp=>gg p.2
def eqW (s0 s:St):Prop:=BR s=BR s0/\Dw (dd s0 s) λv=>v=EF s0
def jy (ops:Array Oper):Nat->Array Bool->WS->(WS->Prop)->Prop
 |0,Ac,w,K=>match Region.ready .any ops Ac with
  | []=>K w
  |_::_=>False
 |f+1,Ac,w,K=>match Region.ready .any ops Ac with
  | []=>False
  |k::_=>Dw ops[k]? λo=>fe ops w o (λkk w'=>TZ T Γ w' o kk) λw'=>jy ops f (Ac.setIfInBounds k true) w' K
def vK (P:List (Nat×Nat×AV×OB)) (ops:Array Oper):Nat->Array Bool->WS->(WS->Prop)->Prop
 |0,Ac,w,K=>match Region.ready .any ops Ac with
  | []=>K w
  |_::_=>False
 |f+1,Ac,w,K=>match Region.ready .any ops Ac with
  | []=>False
  |i::r=>PH (i::r) λk=>Dw ops[k]? λo=>match zV P Γ ops w.st o k with
   |true=>fe ops w o (λkk w'=>TZ T Γ w' o kk) λw'=>vK P ops f (Ac.setIfInBounds k true) w' K
   |false=>False
def sL (P:List (Nat×Nat×AV×OB)) (n:Nat) (L0:Array Bool) (ops:Array Oper) (w:WS) (K:WS->Prop):Prop:=
 match (Sw (P.map (·.1))&&Sw (P.map (·.2.1)))&&((P.all λa=>jO a.2.1 w.st)&&(Nat.ble P.length n&&Nat.ble (n-P.length) 10)) with
 |true=>KV T Γ ops (P.map (·.1)) w λw1=>jA w1 λw1=>jy T Γ ops (n-P.length) (Ec (P.map (·.1)) L0) w1 λw0=>jA w0 λw0=>K w0/\vK T Γ P ops (n-P.length) (Ec (P.map (·.1)) L0) w1 λw2=>eqW w0.st w2.st
 |false=>False
def ug (ops:Array Oper) (draw:Bool) (w:WS) (K:WS->Prop):Prop:=
 match draw with
 |true=>match dQ false Γ ops with
  |true=>rq T Γ ops (dF false Γ ops) w λw'=>KV T Γ ops (Ew false Γ ops) w' K
  |false=>match dQ true Γ ops with
   |true=>rq T Γ ops (dF true Γ ops) w λw'=>KV T Γ ops (Ew true Γ ops) w' K
   |false=>match Region.noSelect ops&&Nat.ble (ops.size-(Kb ops).length) 8 with
    |true=>rq T Γ ops (Kb ops) w λw'=>match dB false ops with
     |true=>EP T Γ ops (ops.size-(Kb ops).length) (Ec (Kb ops) (Array.replicate ops.size false)) w' K
     |false=>jy T Γ ops (ops.size-(Kb ops).length) (Ec (Kb ops) (Array.replicate ops.size false)) w' λw0=>jA w0 λw0=>K w0/\EP T Γ ops (ops.size-(Kb ops).length) (Ec (Kb ops) (Array.replicate ops.size false)) w' λw1=>eqW w0.st w1.st
    |false=>match Region.noSelect ops with
     |true=>rq T Γ ops (Kb ops) w λw'=>sL T Γ (Ru T ops (Ec (Kb ops) (Array.replicate ops.size false))) (ops.size-(Kb ops).length) (Ec (Kb ops) (Array.replicate ops.size false)) ops w' K
     |false=>False
 |false=>XK T Γ ops ops.toList w K
def Ye (live:Nat->List Nat):Code->WS->(Gr->WS->Prop)->Prop
 | .skip,w,Q=>Q .normal w
 | .label _,w,Q=>Q .normal w
 | .region _ ops draw,w,Q=>ug T (uf Γ draw) ops draw {w with st:=w.st.gQ ops} λw'=>jA w' (Q .normal)
 | .seq a b,w,Q=>Ye live a w λe w'=>match e with
  | .normal=>Ye live b w' Q
  | .exit id=>Q (.exit id) w'
  | .ret=>Q .ret w'
 | .cond c a b,w,Q=>brO w c λt w'=>match t with
  |true=>Ye live a w' Q
  |false=>Ye live b w' Q
 | .block id c,w,Q=>Ye live c w λe w'=>match e with
  | .normal=>Q .normal w'
  | .exit FO=>if FO=id then Q .normal w' else Q (.exit FO) w'
  | .ret=>Q .ret w'
 | .loop c,w,Q=>
  jz (w.st.clean (live (Cd c))) λs0=>dD (Hk (stays live c) 0 s0.tmps) λfx=>jz (s0.mask fx) λm=>
  uD (Sp T.parts s0.tmps) s0 (Bk (V:=stV m) (λv k=>jz ((St.pX fx s0 (dc m v)).whole (Sp T.parts s0.tmps)) λsb=>Ye live c ⟨[],sb⟩ λe w'=>match e with
   | .normal=>jz (w'.st.clean (live (Cd c))) λs1=>uD (Sp T.parts s0.tmps) s1 (Dw (dd m (s1.mask fx)) k)
   | .exit id=>Q (.exit id) w'
   | .ret=>Q .ret w') (EF m))
 | .exit id,w,Q=>Q (.exit id) w
 | .ret,w,Q=>Q .ret w
 |_,_,_=>False
def UQ (s:Spec) (fn:Func) (P:s.res.den->Prop) (st:St):Prop:=
 Dw (gZ T s fn st) λp=>match p.1||!s.fresh with|true=>P p.2|false=>False
def cz (st:St) (K:Prop):List AC->List (Bool×CK)->Prop
 | .own l off len::as,(true,_)::r=>match st.at l with
  |some (.arr _ _ _ _ xs)=>(off=0/\len=xs.length)/\cz st K as r
  |some (.Cz _ _ xs)=>(off=0/\len=xs.length)/\cz st K as r
  |_=>False
 |_::as,(false,_)::r=>cz st K as r
 |_,_=>K
def jQ (st:St):(cs:List CK)->List AC->(CKs.den cs->List Nat->Prop)->Prop
 | [],[],K=>K () []
 | .Ai e te _::r, .own l off len::as,K=>match st.at l with
  |some (.Ai e' Kz rows none _)=>if h:e'=e/\Kz=te then (off=0/\len=rows.length)/\jQ st r as λy t=>K ((h.1▸rows:List (List e.den)),y) (l::t) else False
  |_=>False
 |c::r,a::as,K=>Dw (er st c a) λp=>jQ st r as λy t=>K (p.1,y) (p.2++t)
 |_,_,_=>False
def tF (st:St) (n:Nat) (as:List AC):List (Nat×Nat)->Prop->Prop
 | [],K=>K
 |(k,j)::r,K=>match as[j]? with
  |some (.own l _ _)=>match st.at l with
   |some (.Ai _ _ _ _ (some p))=>match Nat.beq p.1 (Bq false k)&&Nat.blt k 1000 with
    |true=>n<=p.2/\tF st n as r K
    |false=>False
   |_=>False
  |_=>False
def oh (s:MSpec) (fn:Func) (x:Ins.den s.ins) (st:St) (cs:List AC) (P:CKs.den s.outs×IOs.den s.ins->Prop):Prop:=
 Dw (Xt T st fn.results.toList) λl=>Dw (AW s st l) λp=>jQ st s.outs (cs++p.1) λr ls=>Dw (Jb st 0 s.ins) λo=>
  match Sw (p.2++ls++Jz 0 s.ins)&&Nat.blt s.ins.length 1000&&Nat.blt s.outs.length 1000&&s.LU with
  |true=>tF st (s.Ci x) (cs++p.1) s.keeps (P (r,o))
  |false=>False
def EC (s:MSpec) (fn:Func) (x:Ins.den s.ins) (st:St) (P:CKs.den s.outs×IOs.den s.ins->Prop):Prop:=
 match s.ptr with
 |none=>oh T s fn x st [] P
 |some p=>match st.at Jk with
  |some (.var tid vs)=>match Nat.beq tid p.1&&Nat.beq vs.length p.2 with
   |true=>Dw (Er 0 s.ins vs) λcs=>cz st (oh T s fn x st cs P) vs s.ins
   |false=>False
  |_=>False
@[irreducible] def fnMW (s:MSpec) (fn:Func) (x:Ins.den s.ins) (P:CKs.den s.outs×IOs.den s.ins->Prop):Prop:=
 match Nat.blt s.ins.length 1000&&ub s with
 |false=>False
 |true=>Dw fn.body λc=>Ye T Γ (tM T.marks fn c) c {kn:= [],st:= {tmps:=Tf s (Ve 0 s.ins x)++List.replicate (fn.ntmps-(Tf s (Ve 0 s.ins x)).length) .undef,heap:=kR s x} } λe w=>match e with
  | .normal=>EC T s fn x w.st P
  | .ret=>EC T s fn x w.st P
  | .exit _=>False
@[irreducible] def fnW (s:Spec) (fn:Func) (x:s.arg.den) (P:s.res.den->Prop):Prop:=
 Dw fn.body λc=>Ye T Γ (tM T.marks fn c) c {kn:= [],st:= {tmps:=Mi s.arg x++List.replicate (fn.ntmps-(Mi s.arg x).length) .undef,heap:= []} } λe w=>match e with
  | .normal=>UQ T s fn P w.st
  | .ret=>UQ T s fn P w.st
  | .exit _=>False
end Go.Proofs.YtfolipnappekaaaGreat
