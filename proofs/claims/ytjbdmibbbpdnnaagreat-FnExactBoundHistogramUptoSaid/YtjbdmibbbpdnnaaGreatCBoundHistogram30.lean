/-
  Part 31 of the proof that the statement FnExactBoundHistogram holds.
-/
import Derived.Test.YtjbdmibbbpdnnaaGreatCBoundHistogram29
namespace Go.Proofs.YtjbdmibbbpdnnaaGreat
open Go.RowKit
inductive Br (b:Bool) (A B:Prop):Prop
 |mk (t:b=true->A) (f:b=false->B)
inductive Bi {V:Type} (step:V->(V->Prop)->Prop) (v0:V):Prop
 |mk (I:V->Prop) (μ:V->Nat) (h0:I v0) (h: ∀v,I v->step v (λv'=>I v'/\μ v'<μ v))
structure WS where
 kn:List (Nat×Bool)
 st:St
def px:List (Nat×Bool)->Nat->Option Bool
 | [],_=>none
 |(k,b)::r,t=>if k=t then some b else px r t
def qP:List (Nat×Bool)->Nat->List (Nat×Bool)
 | [],_=> []
 |(k,b)::r,t=>if k=t then qP r t else (k,b)::qP r t
def WS.put (w:WS) (dst:Option Tmp) (v:AV):WS:=
 match dst with
 |some d=> {kn:=qP w.kn d,st:=w.st.put (some d) v}
 |none=>w
def Pj (kn:List (Nat×Bool)):Operand->Option Bool
 | .const (.bool b)=>some b
 | .tmp t=>px kn t
 |_=>none
def Dm (kn:List (Nat×Bool)) (o:Oper):Option Bool:=
 match o.op with
 | .assign x=>Pj kn x
 | .move x=>Pj kn x
 | .unOp .not _ x=>(Pj kn x).map (!·)
 | .pick c a b=>match Pj kn c with
  |some true=>Pj kn a
  |some false=>Pj kn b
  |none=>none
 |_=>none
def WS.pM (w:WS) (o:Oper) (v:AV):WS:=
 match o.dst,Dm w.kn o with
 |some d,some b=>match (w.st.put (some d) v).get d with
  | .at (.data _ .bool _)=> {kn:=(d,b)::qP w.kn d,st:=w.st.put (some d) v}
  |_=>w.put (some d) v
 |dst,_=>w.put dst v
def WS.to (w:WS) (st:St):WS:= {kn:=w.kn,st:=st}
def brT (w:WS) (t:Nat) (K:Bool->WS->Prop):Prop:=
 match px w.kn t with
 |some b=>K b w
 |none=>match w.st.get t with
  | .at (.data _ .bool b)=>Br b (K true {kn:=(t,true)::w.kn,st:=w.st}) (K false {kn:=(t,false)::w.kn,st:=w.st})
  |_=>False
def brO (w:WS) (c:Operand) (K:Bool->WS->Prop):Prop:=
 match c with
 | .tmp t=>brT w t K
 | .const (.bool b)=>K b w
 |_=>False
def Eb {α:Type} (o:Option α) (K:α->Prop):Prop:=match o with|some x=>K x|none=>False
def WJ (T:Tab) (st:St) (t:TypeId) (x:AV) (l h:Int):Option AV:=
 match x with
 | .at (.data fr (.slice e) xs)=>if (T.elem t).bind T.ty=some e then some (.at (.data fr (.slice e) ((xs.take h.toNat).drop l.toNat))) else none
 | .at (.own k off _)=>match st.at k with
  |some (.arr _ _ e tid _)=>if T.elem t=some tid/\T.ty tid=some e then some (.at (.own k (off+l.toNat) (h.toNat-l.toNat))) else none
  |_=>none
 | .at (.data _ .str s)=>if T.ty t=some .str then some (.at (.data true .str (s.extract l.toNat h.toNat))) else none
 |_=>none
variable (T:Tab) (Γ:Env)
def TD (op:BinOp) (t:TypeId) (x y:AV) (K:AV->Prop):Prop:=
 match op,x,y with
 | .quo, .at (.data _ (.int k) a), .at (.data _ (.int k') b)=>if k=k' then b≠0/\K (.at (.data true (.int k) (k.wrap (a.tdiv b)))) else False
 | .rem, .at (.data _ (.int k) a), .at (.data _ (.int k') b)=>if k=k' then b≠0/\K (.at (.data true (.int k) (a.tmod b))) else False
 | .shl, .at (.data _ (.int k) a), .at (.data _ (.int _) b)=> ¬b<0/\K (.at (.data true (.int k) (k.wrap (a*2^(min b.toNat k.bits)))))
 | .shr, .at (.data _ (.int k) a), .at (.data _ (.int _) b)=> ¬b<0/\K (.at (.data true (.int k) (a.fdiv (2^(min b.toNat k.bits)))))
 | .add, .at (.data _ .str a), .at (.data _ .str b)=>a.size+b.size<=4294967296/\K (.at (.data true .str (a++b)))
 |op,x,y=>Eb (Mu T op t x y) K
def KH (st:St) (t:TypeId) (p:AV) (K:AV->Prop):Prop:=
 match p with
 | .at (.Fz l i)=>Eb (T.ty t) λτ=>match st.at l with
  |some (.arr fr _ e _ xs)=>if e=τ then ∃x,xs[i]?=some x/\K (.at (.data (fr||e.flat) e x)) else False
  |some (.Dc e _ xs)=>if e=τ then ∃x,xs[i]?=some x/\K (if e.Ac then .agg (aQ l i 0 e x) else .at ((aQ l i 0 e x).headD .undef)) else False
  |some (.Al _ _ _ none _)=>if τ.Ac then False else K (.at (.sub l i 0))
  |_=>False
 | .at (.data fr (.optr Ja) x)=>Eb (T.ty t) λτ=>if Ja=τ then ∃y,x=some y/\K (.at (.data (fr||Ja.flat) Ja y)) else False
 |p=>Eb (Kg T st t p) K
def fv (s:TypeId) (x:AV) (f:Nat) (K:AV->Prop):Prop:=
 match x with
 | .at (.data fr (.optr τ) x)=> ∃y,x=some y/\Eb (Iq T s (.at (.data fr (.ptr τ) y)) f) K
 |x=>Eb (Iq T s x f) K
def qZ (st:St) (x:Operand) (K:AV->Prop) (d:Option AV):Prop:=
 match st.ev x with
 | .at (.data fr (.optr τ) x)=> ∃y,x=some y/\K (.at (.data fr (.ptr τ) y))
 |_=>Eb d K
def zX (st:St) (t:TypeId) (x:AV) (lo hi:Option AV) (K:AV->Prop):Prop:=
 Eb (wj x) λn=>Eb (HP lo 0) λl=>Eb (HP hi n) λh=>(0<=l/\l<=h/\h<=n)/\Eb (WJ T st t x l h) K
def fJ (st:St) (t:TypeId) (x i:AV) (K:AV->Prop):Prop:=
 match x,i with
 | .at (.data fr (.slice e) xs), .at (.data _ (.int _) n)=>if (T.elem t).bind T.ty=some e then ∃x,idx xs n=some x/\K (.at (.data fr (.ptr e) x)) else False
 | .at (.own l off len), .at (.data _ (.int _) n)=>match st.at l with
  |some (.arr _ _ e tid _)=>if T.elem t=some tid/\T.ty tid=some e then (0<=n/\n<len)/\K (.at (.Fz l (off+n.toNat))) else False
  |some (.Dc e tid _)=>if T.elem t=some tid/\T.ty tid=some e then (0<=n/\n<len)/\K (.at (.Fz l (off+n.toNat))) else False
  |some (.Al _ te _ _ _)=>if T.elem t=some te/\(T.ty te).map Ty.size=some 1 then (0<=n/\n<len)/\K (.at (.Fz l (off+n.toNat))) else False
  |_=>False
 | .at (.sub l i _), .at (.data _ (.int _) n)=>match st.at l with
  |some (.Al e _ rows none _)=>if ((T.elem t).bind T.ty).map Ty.size=some e.size then (0<=n/\n<(rows.getD i []).length)/\K (.at (.Fw l i n.toNat)) else False
  |_=>False
 |_,_=>False
def z0 (t:TypeId) (x i:AV) (K:AV->Prop):Prop:=
 match x,i with
 | .at (.data _ .str s), .at (.data _ (.int _) n)=>if T.ty t=some .str then 0<=n/\ ∃b,s[n.toNat]?=some b/\K (.at (.data true (.int .u8) b.toNat)) else False
 |_,_=>False
def qy (st:St) (f:FuncId) (args:List AV) (K:AV->Prop):Prop:=
 Eb (match Γ f with|some (.q s)=>some s|_=>none) λs=>match s.fresh||s.res.flat||args.all (·.settled) with
  |true=>Eb (Bt st s.arg args) λp=> ∃y,s.fn p.2=some y/\K (if s.Ej then .Ur (s.fresh||s.res.flat) s.res y else .at (.data (s.fresh||s.res.flat) s.res y))
  |false=>False
def yw (st:St) (v:AV) (args:List AV) (K:AV->Prop):Prop:=
 match v with
 | .at (.data fr (.clo f τ) x)=>match τ.chain with|true=>(match Nat.blt f 1000000000 with|true=>qy Γ st f (args++Ux fr τ x) K|false=>qy Γ st (f-1000000000) (Ux fr τ x++args) K)|false=>False
 | .at (.clo f Bw)=>qy Γ st f (args++Bw.map λp=> .at (.Dy p.1 p.2)) K
 |_=>False
def qW (w:WS) (o:Oper) (K:AV->WS->Prop):Prop:=
 match o.op with
 | .pick c a b=>brO w c λt w'=>match t with|true=>K (w'.st.ev a) w'|false=>K (w'.st.ev b) w'
 | .load t a=>KH T w.st t (w.st.ev a) λv=>K v w
 | .binOp op t x y _=>TD T op t (w.st.ev x) (w.st.ev y) λv=>K v w
 | .slice t x lo hi mx=>match mx with
  |none=>zX T w.st t (w.st.ev x) (lo.map w.st.ev) (hi.map w.st.ev) λv=>K v w
  |some _=>False
 | .indexAddr t x i=>fJ T w.st t (jC (w.st.ev x)) (w.st.ev i) λv=>K v w
 | .index t x i=>z0 T t (w.st.ev x) (w.st.ev i) λv=>K v w
 | .call {callee:= .value (.func f),args, .. } =>qy Γ w.st f (args.toList.map w.st.ev) λv=>K v w
 | .call {callee:= .value (.tmp t),args, .. } =>yw Γ w.st (w.st.get t) (args.toList.map w.st.ev) λv=>K v w
 | .fieldAddr s x f=>fv T s (w.st.ev x) f λv=>K v w
 | .nilCheck x=>qZ w.st x (λv=>K v w) (Ch T Γ w.st o)
 |_=>Eb (Ch T Γ w.st o) λv=>K v w
def AJ (st:St) (t:TypeId) (p v:AV) (K:St->Prop):Prop:=
 match p with
 | .at (.Fz l j)=>Eb (T.ty t) λτ=>Eb (settle st v) λq=>match q.2.at l with
  |some (.arr fr tr e tid xs)=>Eb (Ct q.2 τ q.1) λu=>if h:τ=e then j<xs.length/\K (q.2.Gc l (.arr (fr&&u.1) (tr&&(Mp st v&&e.tree)) e tid (xs.set j (h▸u.2)))) else False
  |_=>False
 |p=>Eb (Ny T st t p v) K
def CY (st:St) (t:TypeId) (p v:AV) (K:St->Prop):Prop:=
 match p with
 | .at (.Fw l i j)=>Eb (T.ty t) λτ=>Eb (settle st v) λq=>match q.2.at l with
  |some (.Al e te rows none kp)=>Eb (Ct q.2 τ q.1) λu=>if h:τ=e then K (q.2.Gc l (.Al e te (rows.set i ((rows.getD i []).set j (h▸u.2))) none kp)) else False
  |_=>False
 | .at (.Fz l j)=>Eb (T.ty t) λτ=>match st.at l,v with
  |some (.Al e te rows out kp), .at (.own m off len)=>match st.at m with
   |some (.arr _ _ e' _ xs)=>if h:e'=e/\(Nat.blt l Ai&&(!Nat.beq m l&&!τ.Ac))=true then
     off=0/\len=xs.length/\(match out with|none=>True|some i=>i=j)/\K (Mt st l j m e te rows (h.1▸xs) (Vj j kp))
    else False
   |_=>False
  |_,_=>False
 |_=>False
def u7 (st:St) (t:TypeId) (p v:AV) (K:St->Prop):Prop:=match BY st p with
 |true=>CY T st t p v K
 |false=>AJ T st t p v K
def gk (st:St) (dst:Nat) (t:TypeId) (x y:Operand) (K:AV->St->Prop):Prop:=
 Eb (T.elem t) λte=>Eb (T.ty te) λe=>Eb (settle st (st.ev y)) λq=>Eb (Ct q.2 (.slice e) q.1) λu=>match q.2.ev x with
  | .at .Hj=>match Nat.blt dst Ai with
   |true=>List.length u.2<=Bg/\K (.at (.own dst 0 (List.length u.2))) ((q.2.new dst (.arr (T.oW||e.flat) T.uK e te [])).new dst (.arr ((T.oW||e.flat)&&(u.1||e.flat)) (T.uK&&(e.flat||(Mp st (st.ev y)&&e.tree))) e te u.2))
   |false=>False
  | .at (.own l off len)=>match q.2.at l with
   |some (.arr fr tr e' tid xs)=>if h:e'=e/\tid=te/\Nat.blt l Ai=true then
     off=0/\len=xs.length/\len+List.length u.2<=Bg/\K (.at (.own l 0 (List.length ((h.1▸xs:List e.den)++u.2)))) (q.2.new l (.arr (fr&&(u.1||e.flat)) (tr&&(e.flat||(Mp st (st.ev y)&&e.tree))) e te ((h.1▸xs:List e.den)++u.2)))
    else False
   |_=>False
  |_=>False
def mj (st:St) (dst:Nat) (t:TypeId) (x y:Operand) (K:AV->St->Prop):Prop:=
 match x with
 | .tmp tx=>match st.get tx with
  | .at (.sub l i _)=>Eb (T.elem t) λtid=>match st.at l with
   |some (.Al e te rows none kp)=>match Nat.blt l Ai&&(Nat.blt dst Ai&&!Nat.beq dst l) with
    |true=>gk T ((Kf st l i dst e te tid rows kp).put (some tx) (.at (.own dst 0 (rows.getD i []).length))) dst t x y K
    |false=>False
   |_=>False
  |_=>gk T st dst t x y K
 |_=>gk T st dst t x y K
def KN (st:St) (dst:Nat) (t:TypeId) (l c:AV) (K:AV->St->Prop):Prop:=
 match l,c with
 | .at (.data _ (.int _) n), .at (.data _ (.int _) m)=>Eb (T.elem t) λte=>Eb (T.ty te) λe=>match aY e&&Nat.blt dst Ai with
  |true=>(0<=n/\n<Bg+1)/\n=m/\K (.at (.own dst 0 (List.replicate n.toNat e.zero).length)) (st.new dst (.arr (T.oW||e.flat) (T.uK&&e.tree) e te (List.replicate n.toNat e.zero)))
  |false=>False
 |_,_=>False
def zj (st:St) (dst:Nat) (t:TypeId) (l c:AV) (K:AV->St->Prop):Prop:=
 match Yp T t with
 |none=>KN T st dst t l c K
 |some p=>match l,c with
  | .at (.data _ (.int _) n), .at (.data _ (.int _) m)=>match Nat.blt dst Ai with
   |true=>(0<=n/\n<Bg+1)/\n=m/\K (.at (.own dst 0 (List.replicate n.toNat ([]:List p.2.den)).length)) (Kx st dst dst (.Al p.2 p.1 (List.replicate n.toNat []) none none))
   |false=>False
  |_,_=>False
def Zz (st:St) (dst:Nat) (t:TypeId) (len:Nat) (parts:Array (Nat×Operand)) (K:AV->St->Prop):Prop:=
 match Yp T t with
 |none=>Eb (Hl T st dst t len parts) λr=>K r.1 r.2
 |some p=>match parts.toList with
  | [(0,x)]=>match st.ev x with
   | .at (.own m off ln)=>match st.at m with
    |some (.arr _ _ e' _ xs)=>if h:e'=p.2/\(Nat.beq len 1&&(Nat.blt dst Ai&&Nat.blt m Ai))=true then off=0/\ln=xs.length/\K (.at (.own dst 0 1)) (Kx st dst m (.Al p.2 p.1 [h.1▸xs] none none)) else False
    |_=>False
   |_=>False
  |_=>False
def mo (st:St) (dst:Nat) (t:TypeId) (x y:Operand) (K:AV->St->Prop):Prop:=
 match Yp T t with
 |none=>mj T st dst t x y K
 |some p=>match st.ev x,st.ev y with
  | .at (.own l off len), .at (.own m KT nq)=>match st.at l,st.at m with
   |some (.Al e1 te1 A none _),some (.Al e2 qa B none _)=>
    if h:(e1=p.2/\e2=p.2)/\(decide (te1=p.1)&&decide (qa=p.1)&&(Nat.blt l Ai&&(Nat.blt m Ai&&!Nat.beq m l)))=true then
     (off=0/\len=A.length)/\(KT=0/\nq=B.length)/\0<B.length/\A.length+B.length<=Bg/\
      K (.at (.own l 0 (List.length ((h.1.1▸A:List (List p.2.den))++(h.1.2▸B:List (List p.2.den)))))) (Kx st l m (.Al p.2 p.1 ((h.1.1▸A:List (List p.2.den))++(h.1.2▸B:List (List p.2.den))) none none))
    else False
   |_,_=>False
  |_,_=>False
def aT (st:St) (io:Bool) (k:Nat):(c:CK)->AC->(c.den->List (Nat×Loc)->Prop)->Prop
 | .Ee τ, .own l off len,K=>Eb (Bn st τ (.own l off len)) λp=>K p.2 [(Bl false k, .view l)]
 | .Ee τ, .clo g Bw,K=>match Vy st (Bw.map (·.1))&&!τ.Ac with
  |true=>Eb (Fq st τ (.clo g Bw)) λp=>K p.2 (views k (Bw.map (·.1)))
  |false=>False
 | .Ee τ, .Dy l i,K=>match Vy st [l]&&!τ.Ac with
  |true=>Eb (Fq st τ (.Dy l i)) λp=>K p.2 (views k [l])
  |false=>False
 | .Ee τ, .sub l i c,K=>Eb (Bn st τ (.sub l i c)) λp=>K p.2 [(Bl false k, .view l)]
 | .Ee τ,a,K=>match τ.flat||a.settled with
  |true=>Eb (Bn st τ a) λp=>K p.2 []
  |false=>False
 | .row e te, .own l off len,K=>match st.at l with
  |some (.arr _ _ e' Lb xs)=>if h:e'=e/\Lb=te then off=0/\len=xs.length/\K (h.1▸xs:List e.den) [(Bl io k, .row l)] else False
  |_=>False
 | .row e _, .sub l i c,K=>match st.at l with
  |some (.Dc e' _ xs)=>if h:e'= .slice e/\e.flat=true/\io=true/\c=0 then ∃y,xs[i]?=some y/\K (h.1▸y:(Ty.slice e).den) [(Bl io k, .sub l i c)] else False
  |_=>False
 | .row _ _, .Hj,K=>K [] []
 | .Dq e te, .own l off len,K=>match st.at l with
  |some (.Dc e' Lb xs)=>if h:e'=e/\Lb=te then off=0/\len=xs.length/\K (h.1▸xs:List e.den) [(Bl io k, .row l)] else False
  |_=>False
 | .Dq e _, .sub l i c,K=>match st.at l with
  |some (.Dc e' _ xs)=>if h:e'= .slice e/\io=true/\c=0 then ∃y,xs[i]?=some y/\K (h.1▸y:(Ty.slice e).den) [(Bl io k, .sub l i c)] else False
  |_=>False
 | .Dq _ _, .Hj,K=>K [] []
 | .part e te, .own l off len,K=>match st.at l with
  |some (.arr _ _ e' Lb xs)=>if h:e'=e/\Lb=te/\e.flat=true/\io=true then K ((h.1▸xs:List e.den),off,len) [(Bl io k, .row l)] else False
  |_=>False
 | .Al e te _, .own l off len,K=>match st.at l with
  |some (.Al e' Lb rows none _)=>if h:e'=e/\Lb=te/\io=false then off=0/\len=rows.length/\K (h.1▸rows:List (List e.den)) [(Bl io k, .row l)] else False
  |_=>False
 |_,_,_=>False
def ui (st:St):(k:Nat)->(cs:List (Bool×CK))->List AC->(Ins.den cs->List (Nat×Loc)->Prop)->Prop
 |_,[],[],K=>K () []
 |k,p::r,a::as,K=>aT st p.1 k p.2 a λx t1=>ui st (k+1) r as λy t2=>K (x,y) (t1++t2)
 |_,_,_,_=>False
def kK (st:St):(c:CK)->c.den->AC->(St->Prop)->Prop
 | .row e _,ys, .own l _ len,K=>match st.at l with
  |some (.arr fr tr e' te xs)=>if h:e=e' then (List.length ys=len/\xs.length=len)/\K (st.Gc l (.arr (fr&&e'.flat) (tr&&e'.flat) e' te (h▸ys))) else False
  |_=>False
 | .Dq e _,ys, .own l _ len,K=>match st.at l with
  |some (.Dc e' te xs)=>if h:e=e' then (List.length ys=len/\xs.length=len)/\K (st.Gc l (.Dc e' te (h▸ys))) else False
  |_=>False
 | .row e _,ys, .sub l i _,K=>match st.at l with
  |some (.Dc e' te xs)=>if h: .slice e=e' then ∃y,xs[i]?=some y/\List.length ys=List.length (h▸y:(Ty.slice e).den)/\K (st.Gc l (.Dc e' te (xs.set i (h▸(ys:(Ty.slice e).den))))) else False
  |_=>False
 | .Dq e _,ys, .sub l i _,K=>match st.at l with
  |some (.Dc e' te xs)=>if h: .slice e=e' then ∃y,xs[i]?=some y/\List.length ys=List.length (h▸y:(Ty.slice e).den)/\K (st.Gc l (.Dc e' te (xs.set i (h▸(ys:(Ty.slice e).den))))) else False
  |_=>False
 |_,_, .Hj,K=>K st
 |_,_,_,_=>False
def LK (st:St) (e:Ty) (ys:List e.den):AC->(St->Prop)->Prop
 | .own l _ _,K=>match st.at l with
  |some (.arr fr tr e' te xs)=>if h:e=e' then List.length ys=xs.length/\K (st.Gc l (.arr fr tr e' te (h▸ys))) else False
  |_=>False
 |_,_=>False
def cS:(cs:List (Bool×CK))->IOs.den cs->List AC->St->(St->Prop)->Prop
 | [],_,_,st,K=>K st
 |(true, .Ee _)::r,x,_::as,st,K=>cS r x as st K
 |(true, .row e te)::r,x,a::as,st,K=>kK st (.row e te) x.1 a λst'=>cS r x.2 as st' K
 |(true, .Dq e te)::r,x,a::as,st,K=>kK st (.Dq e te) x.1 a λst'=>cS r x.2 as st' K
 |(true, .part e _)::r,x,a::as,st,K=>LK st e x.1 a λst'=>cS r x.2 as st' K
 |(true, .Al _ _ _)::r,x,_::as,st,K=>cS r x as st K
 |(false,_)::r,x,_::as,st,K=>cS r x as st K
 |_,_,_,_,_=>False
def oE (H:List (Nat×OB)) (ls:List Nat) (n:Nat):List AV->Prop->Prop
 | [],K=>K
 | .at (.sub l i _)::r,K=>match ls.contains l with
  |true=>(i<n/\i<lU H l)/\oE H ls n r K
  |false=>oE H ls n r K
 |_::r,K=>oE H ls n r K
def yu (st:St) (dst:Option Nat) (s:MSpec) (args:List AV) (K:AV->St->Prop):Prop:=
 Eb (CS st s args) λq=>Eb (ungroup s.Hb q.2.2) λiU=>ui st 0 s.ins (q.2.1++iU) λx tks=>
  match Sx (tks.map λt=>t.2.Pz)&&sS (Lu s tks (dst.getD 0)) (s.outs.length+(fT s (dst.getD 0)).length)&&Nat.blt s.outs.length 1000&&Nat.blt s.ins.length 1000&&(Pc s.ins q.2.1&&q.1.all λl=>!((tks.map λt=>t.2.Pz)++Lu s tks (dst.getD 0)).contains l) with
  |true=> ∃p,s.fn x=some p/\cS s.ins p.2 (q.2.1++iU) st λst1=>Eb (PT s (dst.getD 0) ((Vp (Bv (Lu s tks (dst.getD 0))) 0 s.outs p.1).drop s.Si)) λv=>
    oE (fh st st1 (dst.getD 0) s q.1 tks p.1).heap (Vi st.heap (Lu s tks (dst.getD 0)) tks s.keeps) (s.Cr x) st.tmps
     (K v (fK st (fh st st1 (dst.getD 0) s q.1 tks p.1) (Vi st.heap (Lu s tks (dst.getD 0)) tks s.keeps) (s.Cr x)))
  |false=>False
def SQ (w:WS) (o:Oper) (K:AV->WS->Prop):Prop:=
 match o.op with
 | .store t p x=>u7 T w.st t (w.st.ev p) (w.st.ev x) λs=>K .undef (w.to s)
 | .makeSlice t l c=>Eb o.dst λd=>zj T w.st d t (w.st.ev l) (w.st.ev c) λv s=>K v (w.to s)
 | .call {callee:= .builtin .append,args,argTypes} =>match o.dst,args.toList,argTypes.toList with
  |some d,[x,y],[t,t']=>if t=t' then mo T w.st d t x y λv s=>K v (w.to s) else False
  |_,_,_=>False
 | .assign _=>Eb (evalOp T Γ w.st o) λr=>K r.1 (w.to r.2)
 | .alloc _=>Eb (evalOp T Γ w.st o) λr=>K r.1 (w.to r.2)
 | .box _ _=>Eb (evalOp T Γ w.st o) λr=>K r.1 (w.to r.2)
 | .buildSlice t len parts=>Eb o.dst λd=>Zz T w.st d t len parts λv s=>K v (w.to s)
 | .build _ _=>Eb (evalOp T Γ w.st o) λr=>K r.1 (w.to r.2)
 | .makeMap _ _=>Eb (evalOp T Γ w.st o) λr=>K r.1 (w.to r.2)
 | .mapUpdate _ _ _ _=>Eb (evalOp T Γ w.st o) λr=>K r.1 (w.to r.2)
 | .insert _ _ _ _=>Eb (evalOp T Γ w.st o) λr=>K r.1 (w.to r.2)
 | .call {callee:= .builtin .copy, .. } =>Eb (evalOp T Γ w.st o) λr=>K r.1 (w.to r.2)
 | .call {callee:= .builtin .clear, .. } =>Eb (evalOp T Γ w.st o) λr=>K r.1 (w.to r.2)
 | .call {callee:= .value (.func f),args, .. } =>match Γ f with
  |some (.m s)=>yu w.st o.dst s (args.toList.map w.st.ev) λv s'=>K v (w.to s')
  |some (.q s)=>match au s (args.toList.map w.st.ev) with
   |true=>Eb (Jm args.toList w.st) λst1=>qW T Γ (w.to st1) o K
   |false=>qW T Γ w o K
  |_=>qW T Γ w o K
 |_=>qW T Γ w o K
def AV.KD:AV->Bool
 | .at .skip=>true
 |_=>false
def bW (w:WS) (o:Oper) (K:AV->WS->Prop):Prop:=
 match o.op with
 | .buildSlice t len parts=>Eb (Uy T w.st t len parts) λv=>K v w
 | .build t parts=>Eb (Qj T w.st t parts) λv=>K v w
 |_=>qW T Γ w o K
def eR (ops:Array Oper) (w:WS) (o:Oper) (run:(AV->WS->Prop)->WS->Prop) (K:WS->Prop):Prop:=
 match o.guard with
 |none=>run (λv w'=>K (w'.pM o v)) w
 |some (j,want)=>Eb ((ops[j]?).bind (·.dst)) λt=>match (w.st.get t).KD with
  |true=>K (w.put o.dst (.at .skip))
  |false=>brT w t λb w'=>match b,want with
   |true,true=>run (λv oR=>K (oR.pM o v)) w'
   |false,false=>run (λv oR=>K (oR.pM o v)) w'
   |_,_=>K (w'.put o.dst (.at .skip))
def VQ (ops:Array Oper):List Oper->WS->(WS->Prop)->Prop
 | [],w,K=>K w
 |o::r,w,K=>eR ops w o (λk w'=>SQ T Γ w' o k) λw'=>VQ ops r w' K
def JU (ops:Array Oper):List Nat->WS->(WS->Prop)->Prop
 | [],w,K=>K w
 |i::r,w,K=>Eb ops[i]? λo=>eR ops w o (λk w'=>SQ T Γ w' o k) λw'=>JU ops r w' K
def qG (ops:Array Oper):List Nat->WS->(WS->Prop)->Prop
 | [],w,K=>K w
 |i::r,w,K=>Eb ops[i]? λo=>eR ops w o (λk w'=>bW T Γ w' o k) λw'=>qG ops r w' K
def NM:List Nat->(Nat->Prop)->Prop
 | [],_=>True
 | [i],P=>P i
 |i::j::r,P=>P i/\NM (j::r) P
def DH (ops:Array Oper):Nat->Array Bool->WS->(WS->Prop)->Prop
 |0,Ab,w,K=>match Region.ready .any ops Ab with
  | []=>K w
  |_::_=>False
 |f+1,Ab,w,K=>match Region.ready .any ops Ab with
  | []=>False
  |i::r=>NM (i::r) λk=>Eb ops[k]? λo=>eR ops w o (λkk w'=>SQ T Γ w' o kk) λw'=>DH ops f (Ab.setIfInBounds k true) w' K
def XE:AC->Type->Type
 | .data _ τ _,R=>τ.den×R
 | .sub _ _ _,R=>Nat×R
 | .Fz _ _,R=>Nat×R
 | .Fw _ _ _,R=>Nat×Nat×R
 |_,R=>R
def yj:List AC->Type->Type
 | [],R=>R
 |c::r,R=>XE c (yj r R)
def XF:AV->Type->Type
 | .at a,R=>XE a R
 | .agg cs,R=>yj cs R
 | .Ur _ τ _,R=>τ.den×R
 | .Iw _,R=>R
def obV:OB->Type->Type
 | .arr _ _ e _ _,R=>List e.den×R
 | .Dc e _ _,R=>List e.den×R
 | .var _ vs,R=>yj vs R
 | .Al e _ _ _ none,R=>List (List e.den)×R
 | .Al e _ _ _ (some _),R=>List (List e.den)×(Nat×R)
 | .Oo v _,R=>(ByteArray->Option v.den)×R
def kX:List AV->Type->Type
 | [],R=>R
 |v::r,R=>XF v (kX r R)
def qH:List (Nat×OB)->Type->Type
 | [],R=>R
 |p::r,R=>obV p.2 (qH r R)
def stV (s:St):Type:=kX s.tmps (qH s.heap Unit)
def BK:(c:AC)-> {R:Type} ->R->XE c R
 | .data _ _ x,_,r=>(x,r)
 | .undef,_,r=>r
 | .skip,_,r=>r
 | .Hj,_,r=>r
 | .Qa,_,r=>r
 | .own _ _ _,_,r=>r
 | .Dy _ _,_,r=>r
 | .Fz _ i,_,r=>(i,r)
 | .clo _ _,_,r=>r
 | .Ge _,_,r=>r
 | .sub _ i _,_,r=>(i,r)
 | .Fw _ i j,_,r=>(i,j,r)
def mg:(l:List AC)-> {R:Type} ->R->yj l R
 | [],_,r=>r
 |c::l,_,r=>BK c (mg l r)
def QU:(c:AV)-> {R:Type} ->R->XF c R
 | .at a,_,r=>BK a r
 | .agg cs,_,r=>mg cs r
 | .Ur _ _ x,_,r=>(x,r)
 | .Iw _,_,r=>r
def SP:(b:OB)-> {R:Type} ->R->obV b R
 | .arr _ _ _ _ xs,_,r=>(xs,r)
 | .Dc _ _ xs,_,r=>(xs,r)
 | .var _ vs,_,r=>mg vs r
 | .Al _ _ rows _ none,_,r=>(rows,r)
 | .Al _ _ rows _ (some p),_,r=>(rows,p.2,r)
 | .Oo _ m,_,r=>(m,r)
def m7:(l:List AV)-> {R:Type} ->R->kX l R
 | [],_,r=>r
 |c::l,_,r=>QU c (m7 l r)
def lV:(l:List (Nat×OB))-> {R:Type} ->R->qH l R
 | [],_,r=>r
 |p::l,_,r=>SP p.2 (lV l r)
def CW (s:St):stV s:=m7 s.tmps (lV s.heap ())
def j0:(c d:AC)-> {R:Type} ->R->Option (XE c R)
 | .data fr τ _, .data Oy Ja x,_,r=>if h:Ja=τ/\Oy=fr then some (h.1▸x,r) else none
 | .undef, .undef,_,r=>some r
 | .skip, .skip,_,r=>some r
 | .Hj, .Hj,_,r=>some r
 | .Qa, .Qa,_,r=>some r
 | .own l _ _, .own l' _ _,_,r=>if l=l' then some r else none
 | .Dy l i, .Dy l' i',_,r=>if l=l'/\i=i' then some r else none
 | .Fz l _, .Fz l' i',_,r=>if l=l' then some (i',r) else none
 | .clo f c, .clo f' c',_,r=>if f=f'/\c=c' then some r else none
 | .Ge l, .Ge l',_,r=>if l=l' then some r else none
 | .sub l _ c, .sub l' i' c',_,r=>if l=l'/\c=c' then some (i',r) else none
 | .Fw l _ _, .Fw l' i' j',_,r=>if l=l' then some (i',j',r) else none
 |_,_,_,_=>none
def Lt:(l m:List AC)-> {R:Type} ->R->Option (yj l R)
 | [],[],_,r=>some r
 |c::l,d::m,_,r=>(Lt l m r).bind λr'=>j0 c d r'
 |_,_,_,_=>none
def fk:(c d:AV)-> {R:Type} ->R->Option (XF c R)
 | .at a, .at b,_,r=>j0 a b r
 | .agg cs, .agg ds,_,r=>Lt cs ds r
 | .Ur fr τ _, .Ur Oy Ja x,_,r=>if h:Ja=τ/\Oy=fr then some (h.1▸x,r) else none
 |_,_,_,_=>none
def Mk:(b d:OB)-> {R:Type} ->R->Option (obV b R)
 | .arr fr tr e tid _, .arr Oy MJ e' Nv xs,_,r=>if h:e'=e/\Oy=fr/\MJ=tr/\Nv=tid then some (h.1▸xs,r) else none
 | .Dc e tid _, .Dc e' Nv xs,_,r=>if h:e'=e/\Nv=tid then some (h.1▸xs,r) else none
 | .Oo v _, .Oo v' m,_,r=>if h:v'=v then some (h▸m,r) else none
 | .var t vs, .var t' us,_,r=>if t'=t then Lt vs us r else none
 | .Al e te _ out none, .Al e' Lb rows bI none,_,r=>if h:e'=e/\Lb=te/\bI=out then some (h.1▸rows,r) else none
 | .Al e te _ out (some p), .Al e' Lb rows bI (some p'),_,r=>if h:e'=e/\Lb=te/\bI=out/\p'.1=p.1 then some (h.1▸rows,p'.2,r) else none
 |_,_,_,_=>none
def Jn:(l m:List AV)-> {R:Type} ->R->Option (kX l R)
 | [],[],_,r=>some r
 |c::l,d::m,_,r=>(Jn l m r).bind λr'=>fk c d r'
 |_,_,_,_=>none
def Kh:(l m:List (Nat×OB))-> {R:Type} ->R->Option (qH l R)
 | [],[],_,r=>some r
 |p::l,q::m,_,r=>if q.1=p.1 then (Kh l m r).bind λr'=>Mk p.2 q.2 r' else none
 |_,_,_,_=>none
def dj (s t:St):Option (stV s):=(Kh s.heap t.heap ()).bind λr=>Jn s.tmps t.tmps r
def fg:(c:AC)-> {R:Type} ->XE c R->AC×R
 | .data fr τ _,_,v=>(.data fr τ v.1,v.2)
 | .undef,_,r=>(.undef,r)
 | .skip,_,r=>(.skip,r)
 | .Hj,_,r=>(.Hj,r)
 | .Qa,_,r=>(.Qa,r)
 | .own l off len,_,r=>(.own l off len,r)
 | .Dy l i,_,r=>(.Dy l i,r)
 | .Fz l _,_,v=>(.Fz l v.1,v.2)
 | .clo f c,_,r=>(.clo f c,r)
 | .Ge l,_,r=>(.Ge l,r)
 | .sub l _ c,_,v=>(.sub l v.1 c,v.2)
 | .Fw l _ _,_,v=>(.Fw l v.1 v.2.1,v.2.2)
def Tj:(l:List AC)-> {R:Type} ->yj l R->List AC×R
 | [],_,r=>([],r)
 |c::l,_,v=>((fg c v).1::(Tj l (fg c v).2).1,(Tj l (fg c v).2).2)
def mu:(c:AV)-> {R:Type} ->XF c R->AV×R
 | .at a,_,v=>(.at (fg a v).1,(fg a v).2)
 | .agg cs,_,v=>(.agg (Tj cs v).1,(Tj cs v).2)
 | .Ur fr τ _,_,v=>(.Ur fr τ v.1,v.2)
 | .Iw l,_,r=>(.Iw l,r)
def nC:(b:OB)-> {R:Type} ->obV b R->OB×R
 | .arr fr tr e tid _,_,v=>(.arr fr tr e tid v.1,v.2)
 | .Dc e tid _,_,v=>(.Dc e tid v.1,v.2)
 | .Oo w _,_,v=>(.Oo w v.1,v.2)
 | .var t vs,_,v=>(.var t (Tj vs v).1,(Tj vs v).2)
 | .Al e te _ out none,_,v=>(.Al e te v.1 out none,v.2)
 | .Al e te _ out (some p),_,v=>(.Al e te v.1 out (some (p.1,v.2.1)),v.2.2)
def Pw:(l:List AV)-> {R:Type} ->kX l R->List AV×R
 | [],_,r=>([],r)
 |c::l,_,v=>((mu c v).1::(Pw l (mu c v).2).1,(Pw l (mu c v).2).2)
def Ys:(l:List (Nat×OB))-> {R:Type} ->qH l R->List (Nat×OB)×R
 | [],_,r=>([],r)
 |p::l,_,v=>((p.1,(nC p.2 v).1)::(Ys l (nC p.2 v).2).1,(Ys l (nC p.2 v).2).2)
def di (s:St) (v:stV s):St:= {tmps:=(Pw s.tmps v).1,heap:=(Ys s.heap (Pw s.tmps v).2).1}
def lenOf (H:List (Nat×OB)) (l:Nat):Nat:=match Ad H l with|some (.arr _ _ _ _ xs)=>xs.length|some (.Dc _ _ xs)=>xs.length|some (.Al _ _ rows _ _)=>rows.length|_=>0
def Su (ps:List Nat):List AV->List (Nat×Nat×Nat)
 | []=> []
 | .at (.own l off len)::r=>if ps.contains l then (l,off,len)::Su ps r else Su ps r
 |_::r=>Su ps r
def VO:List (Nat×Nat×Nat)->Nat->Nat
 | [],_=>0
 |(k,o,_)::r,l=>if k=l then o else VO r l
def EJ:List (Nat×Nat×Nat)->List (Nat×OB)->Nat->Nat
 | [],H,l=>lenOf H l
 |(k,_,n)::r,H,l=>if k=l then n else EJ r H l
def aW (B:List (Nat×Nat×Nat)) (H:List (Nat×OB)):AC->AC
 | .own l _ _=> .own l (VO B l) (EJ B H l)
 |c=>c
def St.whole (B:List (Nat×Nat×Nat)) (s:St):St:=s.Gj (aW B s.heap)
def s6 (B:List (Nat×Nat×Nat)) (H:List (Nat×OB)) (c:AC) (K:Prop):Prop:=match c with
 | .own l off len=>off=VO B l/\len=EJ B H l/\K
 |_=>K
def Yb (B:List (Nat×Nat×Nat)) (H:List (Nat×OB)):List AC->Prop->Prop
 | [],K=>K
 |c::r,K=>s6 B H c (Yb B H r K)
def BM (B:List (Nat×Nat×Nat)) (H:List (Nat×OB)) (c:AV) (K:Prop):Prop:=match c with
 | .at a=>s6 B H a K
 | .agg cs=>Yb B H cs K
 | .Ur _ _ _=>K
 | .Iw _=>False
def Uq (B:List (Nat×Nat×Nat)) (H:List (Nat×OB)):List AV->Prop->Prop
 | [],K=>K
 |c::r,K=>BM B H c (Uq B H r K)
def dH (B:List (Nat×Nat×Nat)) (H:List (Nat×OB)):List (Nat×OB)->Prop->Prop
 | [],K=>K
 |p::r,K=>match p.2 with
  | .var _ vs=>Yb B H vs (dH B H r K)
  |_=>dH B H r K
def u5 (B:List (Nat×Nat×Nat)) (s:St) (K:Prop):Prop:=Uq B s.heap s.tmps (dH B s.heap s.heap K)
def AV.Qt:AV->Bool
 | .at (.data _ _ _)=>true
 |_=>false
def Hm (p:Nat->Bool):Nat->List AV->List Bool
 |_,[]=> []
 |i,v::r=>(v.Qt&&p i)::Hm p (i+1) r
def stays (live:Nat->List Nat) (c:Code) (t:Nat):Bool:=!(writes c).contains t&&Vh live c t
def Oa:List Bool->List AV->List AV
 |true::f,_::r=> .undef::Oa f r
 |false::f,v::r=>v::Oa f r
 |_,l=>l
def Pk:List Bool->List AV->List AV->List AV
 |true::f,a::s,_::r=>a::Pk f s r
 |false::f,_::s,v::r=>v::Pk f s r
 |_,_,l=>l
def St.mask (fx:List Bool) (s:St):St:= {tmps:=Oa fx s.tmps,heap:=s.heap}
def St.pD (fx:List Bool) (s0 s:St):St:= {tmps:=Pk fx s0.tmps s.tmps,heap:=s.heap}
def lR (c:AC) (k:AC->Prop):Prop:=match c with
 | .undef=>k .undef
 | .skip=>k .skip
 | .Hj=>k .Hj
 | .Qa=>k .Qa
 | .data fr τ x=>match fr with
  |true=>k (.data true τ x)
  |false=>k (.data false τ x)
 | .own l off len=>k (.own l off len)
 | .Dy l i=>k (.Dy l i)
 | .Fz l i=>k (.Fz l i)
 | .clo f c=>k (.clo f c)
 | .Ge l=>k (.Ge l)
 | .sub l i c=>k (.sub l i c)
 | .Fw l i c=>k (.Fw l i c)
def ck:List AC->(List AC->Prop)->Prop
 | [],k=>k []
 |c::r,k=>lR c λc'=>ck r λr'=>k (c'::r')
def sx (c:AV) (k:AV->Prop):Prop:=match c with
 | .at a=>lR a λa'=>k (.at a')
 | .agg cs=>ck cs λc9=>k (.agg c9)
 | .Ur fr τ x=>k (.Ur fr τ x)
 | .Iw l=>k (.Iw l)
def cm:List AV->(List AV->Prop)->Prop
 | [],k=>k []
 |c::r,k=>sx c λc'=>cm r λr'=>k (c'::r')
def sy (b:OB) (k:OB->Prop):Prop:=match b with
 | .arr fr tr e tid xs=>match fr,tr with
  |true,true=>k (.arr true true e tid xs)
  |true,false=>k (.arr true false e tid xs)
  |false,true=>k (.arr false true e tid xs)
  |false,false=>k (.arr false false e tid xs)
 | .Dc e tid xs=>k (.Dc e tid xs)
 | .var t vs=>ck vs λuM=>k (.var t uM)
 | .Al e te rows out kp=>match out,kp with
  |none,none=>k (.Al e te rows none none)
  |none,some (l,n)=>k (.Al e te rows none (some (l,n)))
  |some i,none=>k (.Al e te rows (some i) none)
  |some i,some (l,n)=>k (.Al e te rows (some i) (some (l,n)))
 | .Oo v m=>k (.Oo v m)
def mM:List (Nat×OB)->(List (Nat×OB)->Prop)->Prop
 | [],k=>k []
 |(l,b)::r,k=>sy b λb'=>mM r λr'=>k ((l,b')::r')
def jg (w:WS) (k:WS->Prop):Prop:=cm w.st.tmps λt=>mM w.st.heap λh=>k {kn:=w.kn,st:= {tmps:=t,heap:=h} }
def jf (s:St) (k:St->Prop):Prop:=cm s.tmps λt=>mM s.heap λh=>k {tmps:=t,heap:=h}
def dE:List Bool->(List Bool->Prop)->Prop
 | [],k=>k []
 |true::r,k=>dE r λr'=>k (true::r')
 |false::r,k=>dE r λr'=>k (false::r')
theorem km {c:AC} {k:AC->Prop} :lR c k↔k c:=by
 cases c<;>simp only [lR]
 split<;>rfl
theorem ab: ∀ {l:List AC} {k:List AC->Prop},ck l k↔k l
 | [],k=>Iff.rfl
 |c::r,k=>by simp only [ck];rw [km,ab]
theorem vL {c:AV} {k:AV->Prop} :sx c k↔k c:=by
 cases c<;>simp only [sx]
 ·exact km
 ·exact ab
theorem ae: ∀ {l:List AV} {k:List AV->Prop},cm l k↔k l
 | [],k=>Iff.rfl
 |c::r,k=>by simp only [cm];rw [vL,ae]
theorem vM {b:OB} {k:OB->Prop} :sy b k↔k b:=by
 cases b<;>simp only [sy]
 ·split<;>rfl
 ·exact ab
 ·split<;>rfl
theorem fz: ∀ {l:List (Nat×OB)} {k:List (Nat×OB)->Prop},mM l k↔k l
 | [],k=>Iff.rfl
 |(l,b)::r,k=>by simp only [mM];rw [vM,fz]
theorem DS {s:St} {k:St->Prop} :jf s k=k s:=by
 unfold jf
 exact propext (by rw [ae,fz])
theorem fy: ∀ {l:List Bool} {k:List Bool->Prop},dE l k=k l
 | [],k=>rfl
 |true::r,k=>by simp only [dE];rw [fy]
 |false::r,k=>by simp only [dE];rw [fy]
theorem ag {w:WS} {k:WS->Prop} :jg w k↔k w:=by
 unfold jg
 rw [ae,fz]
def Ut:AC->List (Nat×Nat)
 | .own _ off len=> [(off,len)]
 |_=> []
def Uv:AV->List (Nat×Nat)
 | .at a=>Ut a
 | .agg cs=>cs.flatMap Ut
 |_=> []
def fQ:OB->List (Nat×Nat)
 | .var _ vs=>vs.flatMap Ut
 |_=> []
def AI (s:St):List (Nat×Nat):=s.tmps.flatMap Uv++s.heap.flatMap λp=>fQ p.2
def eqW (s0 s:St):Prop:=AI s=AI s0/\Eb (dj s0 s) λv=>v=CW s0
def je (ops:Array Oper):Nat->Array Bool->WS->(WS->Prop)->Prop
 |0,Ab,w,K=>match Region.ready .any ops Ab with
  | []=>K w
  |_::_=>False
 |f+1,Ab,w,K=>match Region.ready .any ops Ab with
  | []=>False
  |k::_=>Eb ops[k]? λo=>eR ops w o (λkk w'=>SQ T Γ w' o kk) λw'=>je ops f (Ab.setIfInBounds k true) w' K
def uU (P:List (Nat×Nat×AV×OB)) (ops:Array Oper):Nat->Array Bool->WS->(WS->Prop)->Prop
 |0,Ab,w,K=>match Region.ready .any ops Ab with
  | []=>K w
  |_::_=>False
 |f+1,Ab,w,K=>match Region.ready .any ops Ab with
  | []=>False
  |i::r=>NM (i::r) λk=>Eb ops[k]? λo=>match zq P Γ ops w.st o k with
   |true=>eR ops w o (λkk w'=>SQ T Γ w' o kk) λw'=>uU P ops f (Ab.setIfInBounds k true) w' K
   |false=>False
def sf (P:List (Nat×Nat×AV×OB)) (n:Nat) (L0:Array Bool) (ops:Array Oper) (w:WS) (K:WS->Prop):Prop:=
 match (Sx (P.map (·.1))&&Sx (P.map (·.2.1)))&&((P.all λa=>jw a.2.1 w.st)&&(Nat.ble P.length n&&Nat.ble (n-P.length) 10)) with
 |true=>JU T Γ ops (P.map (·.1)) w λw1=>jg w1 λw1=>je T Γ ops (n-P.length) (Ek (P.map (·.1)) L0) w1 λw0=>jg w0 λw0=>K w0/\uU T Γ P ops (n-P.length) (Ek (P.map (·.1)) L0) w1 λw2=>eqW w0.st w2.st
 |false=>False
def tG (ops:Array Oper) (draw:Bool) (w:WS) (K:WS->Prop):Prop:=
 match draw with
 |true=>match dP false Γ ops with
  |true=>qG T Γ ops (dG false Γ ops) w λw'=>JU T Γ ops (Fk false Γ ops) w' K
  |false=>match dP true Γ ops with
   |true=>qG T Γ ops (dG true Γ ops) w λw'=>JU T Γ ops (Fk true Γ ops) w' K
   |false=>match Region.noSelect ops&&Nat.ble (ops.size-(Kb ops).length) 8 with
    |true=>qG T Γ ops (Kb ops) w λw'=>match dC false ops with
     |true=>DH T Γ ops (ops.size-(Kb ops).length) (Ek (Kb ops) (Array.replicate ops.size false)) w' K
     |false=>je T Γ ops (ops.size-(Kb ops).length) (Ek (Kb ops) (Array.replicate ops.size false)) w' λw0=>jg w0 λw0=>K w0/\DH T Γ ops (ops.size-(Kb ops).length) (Ek (Kb ops) (Array.replicate ops.size false)) w' λw1=>eqW w0.st w1.st
    |false=>match Region.noSelect ops with
     |true=>qG T Γ ops (Kb ops) w λw'=>sf T Γ (Rt T ops (Ek (Kb ops) (Array.replicate ops.size false))) (ops.size-(Kb ops).length) (Ek (Kb ops) (Array.replicate ops.size false)) ops w' K
     |false=>False
 |false=>VQ T Γ ops ops.toList w K
def Yg (live:Nat->List Nat):Code->WS->(Gw->WS->Prop)->Prop
 | .skip,w,Q=>Q .normal w
 | .label _,w,Q=>Q .normal w
 | .region _ ops draw,w,Q=>tG T (tF Γ draw) ops draw w λw'=>jg w' (Q .normal)
 | .seq a b,w,Q=>Yg live a w λe w'=>match e with
  | .normal=>Yg live b w' Q
  | .exit id=>Q (.exit id) w'
  | .ret=>Q .ret w'
 | .cond c a b,w,Q=>brO w c λt w'=>match t with
  |true=>Yg live a w' Q
  |false=>Yg live b w' Q
 | .block id c,w,Q=>Yg live c w λe w'=>match e with
  | .normal=>Q .normal w'
  | .exit EF=>if EF=id then Q .normal w' else Q (.exit EF) w'
  | .ret=>Q .ret w'
 | .loop c,w,Q=>
  jf (w.st.clean (live (Ce c))) λs0=>dE (Hm (stays live c) 0 s0.tmps) λfx=>jf (s0.mask fx) λm=>
  u5 (Su T.parts s0.tmps) s0 (Bi (V:=stV m) (λv k=>jf ((St.pD fx s0 (di m v)).whole (Su T.parts s0.tmps)) λsb=>Yg live c ⟨[],sb⟩ λe w'=>match e with
   | .normal=>jf (w'.st.clean (live (Ce c))) λs1=>u5 (Su T.parts s0.tmps) s1 (Eb (dj m (s1.mask fx)) k)
   | .exit id=>Q (.exit id) w'
   | .ret=>Q .ret w') (CW m))
 | .exit id,w,Q=>Q (.exit id) w
 | .ret,w,Q=>Q .ret w
 |_,_,_=>False
def TE (s:Spec) (fn:Func) (P:s.res.den->Prop) (st:St):Prop:=
 Eb (gH T s fn st) λp=>match p.1||!s.fresh with|true=>P p.2|false=>False
def cB (st:St) (K:Prop):List AC->List (Bool×CK)->Prop
 | .own l off len::as,(true,_)::r=>match st.at l with
  |some (.arr _ _ _ _ xs)=>(off=0/\len=xs.length)/\cB st K as r
  |some (.Dc _ _ xs)=>(off=0/\len=xs.length)/\cB st K as r
  |_=>False
 |_::as,(false,_)::r=>cB st K as r
 |_,_=>K
def jx (st:St):(cs:List CK)->List AC->(CKs.den cs->List Nat->Prop)->Prop
 | [],[],K=>K () []
 | .Al e te _::r, .own l off len::as,K=>match st.at l with
  |some (.Al e' Lb rows none _)=>if h:e'=e/\Lb=te then (off=0/\len=rows.length)/\jx st r as λy t=>K ((h.1▸rows:List (List e.den)),y) (l::t) else False
  |_=>False
 |c::r,a::as,K=>Eb (eb st c a) λp=>jx st r as λy t=>K (p.1,y) (p.2++t)
 |_,_,_=>False
def sR (st:St) (n:Nat) (as:List AC):List (Nat×Nat)->Prop->Prop
 | [],K=>K
 |(k,j)::r,K=>match as[j]? with
  |some (.own l _ _)=>match st.at l with
   |some (.Al _ _ _ _ (some p))=>match Nat.beq p.1 (Bl false k)&&Nat.blt k 1000 with
    |true=>n<=p.2/\sR st n as r K
    |false=>False
   |_=>False
  |_=>False
def nU (s:MSpec) (fn:Func) (x:Ins.den s.ins) (st:St) (cs:List AC) (P:CKs.den s.outs×IOs.den s.ins->Prop):Prop:=
 Eb (Xs T st fn.results.toList) λl=>Eb (zP s st l) λp=>jx st s.outs (cs++p.1) λr ls=>Eb (Jg st 0 s.ins) λo=>
  match Sx (p.2++ls++Jz 0 s.ins)&&Nat.blt s.ins.length 1000&&Nat.blt s.outs.length 1000&&s.KO with
  |true=>sR st (s.Cr x) (cs++p.1) s.keeps (P (r,o))
  |false=>False
def CT (s:MSpec) (fn:Func) (x:Ins.den s.ins) (st:St) (P:CKs.den s.outs×IOs.den s.ins->Prop):Prop:=
 match s.ptr with
 |none=>nU T s fn x st [] P
 |some p=>match st.at Ls with
  |some (.var tid vs)=>match Nat.beq tid p.1&&Nat.beq vs.length p.2 with
   |true=>Eb (Fb 0 s.ins vs) λcs=>cB st (nU T s fn x st cs P) vs s.ins
   |false=>False
  |_=>False
@[irreducible] def fnMW (s:MSpec) (fn:Func) (x:Ins.den s.ins) (P:CKs.den s.outs×IOs.den s.ins->Prop):Prop:=
 match Nat.blt s.ins.length 1000&&tB s with
 |false=>False
 |true=>Eb fn.body λc=>Yg T Γ (sW T.marks fn c) c {kn:= [],st:= {tmps:=Tf s (Vf 0 s.ins x)++List.replicate (fn.ntmps-(Tf s (Vf 0 s.ins x)).length) .undef,heap:=ky s x} } λe w=>match e with
  | .normal=>CT T s fn x w.st P
  | .ret=>CT T s fn x w.st P
  | .exit _=>False
@[irreducible] def fnW (s:Spec) (fn:Func) (x:s.arg.den) (P:s.res.den->Prop):Prop:=
 Eb fn.body λc=>Yg T Γ (sW T.marks fn c) c {kn:= [],st:= {tmps:=Mf s.arg x++List.replicate (fn.ntmps-(Mf s.arg x).length) .undef,heap:= []} } λe w=>match e with
  | .normal=>TE T s fn P w.st
  | .ret=>TE T s fn P w.st
  | .exit _=>False
end Go.Proofs.YtjbdmibbbpdnnaaGreat
