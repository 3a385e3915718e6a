/-
  Part 31 of the proof that the statement FnExactStageWord holds.
-/
import Derived.Test.YtjbdmibbbpdnnaaCStageWord29
namespace Go.Proofs.Ytjbdmibbbpdnnaa
open Go.RowKit
inductive Br (b:Bool) (A B:Prop):Prop
 |mk (t:b=true->A) (f:b=false->B)
inductive Bt {V:Type} (step:V->(V->Prop)->Prop) (v0:V):Prop
 |mk (I:V->Prop) (μ:V->Nat) (h0:I v0) (h: ∀v,I v->step v (λv'=>I v'/\μ v'<μ v))
structure WS where
 kn:List (Nat×Bool)
 st:St
def oD:List (Nat×Bool)->Nat->Option Bool
 | [],_=>none
 |(k,b)::r,t=>if k=t then some b else oD r t
def pX:List (Nat×Bool)->Nat->List (Nat×Bool)
 | [],_=> []
 |(k,b)::r,t=>if k=t then pX r t else (k,b)::pX r t
def WS.put (w:WS) (dst:Option Tmp) (v:AV):WS:=
 match dst with
 |some d=> {kn:=pX w.kn d,st:=w.st.put (some d) v}
 |none=>w
def Oy (kn:List (Nat×Bool)):Operand->Option Bool
 | .const (.bool b)=>some b
 | .tmp t=>oD kn t
 |_=>none
def Dm (kn:List (Nat×Bool)) (o:Oper):Option Bool:=
 match o.op with
 | .assign x=>Oy kn x
 | .move x=>Oy kn x
 | .unOp .not _ x=>(Oy kn x).map (!·)
 | .pick c a b=>match Oy kn c with
  |some true=>Oy kn a
  |some false=>Oy kn b
  |none=>none
 |_=>none
def WS.oR (w:WS) (o:Oper) (v:AV):WS:=
 match o.dst,Dm w.kn o with
 |some d,some b=>match (w.st.put (some d) v).get d with
  | .at (.data _ .bool _)=> {kn:=(d,b)::pX w.kn d,st:=w.st.put (some d) v}
  |_=>w.put (some d) v
 |dst,_=>w.put dst v
def WS.to (w:WS) (st:St):WS:= {kn:=w.kn,st:=st}
def brT (w:WS) (t:Nat) (K:Bool->WS->Prop):Prop:=
 match oD w.kn t with
 |some b=>K b w
 |none=>match w.st.get t with
  | .at (.data _ .bool b)=>Br b (K true {kn:=(t,true)::w.kn,st:=w.st}) (K false {kn:=(t,false)::w.kn,st:=w.st})
  |_=>False
def brO (w:WS) (c:Operand) (K:Bool->WS->Prop):Prop:=
 match c with
 | .tmp t=>brT w t K
 | .const (.bool b)=>K b w
 |_=>False
def Dy {α:Type} (o:Option α) (K:α->Prop):Prop:=match o with|some x=>K x|none=>False
def VI (T:Tab) (st:St) (t:TypeId) (x:AV) (l h:Int):Option AV:=
 match x with
 | .at (.data fr (.slice e) xs)=>if (T.elem t).bind T.ty=some e then some (.at (.data fr (.slice e) ((xs.take h.toNat).drop l.toNat))) else none
 | .at (.own k off _)=>match st.at k with
  |some (.arr _ _ e tid _)=>if T.elem t=some tid/\T.ty tid=some e then some (.at (.own k (off+l.toNat) (h.toNat-l.toNat))) else none
  |_=>none
 | .at (.data _ .str s)=>if T.ty t=some .str then some (.at (.data true .str (s.extract l.toNat h.toNat))) else none
 |_=>none
variable (T:Tab) (Γ:Env)
def SG (op:BinOp) (t:TypeId) (x y:AV) (K:AV->Prop):Prop:=
 match op,x,y with
 | .quo, .at (.data _ (.int k) a), .at (.data _ (.int k') b)=>if k=k' then b≠0/\K (.at (.data true (.int k) (k.wrap (a.tdiv b)))) else False
 | .rem, .at (.data _ (.int k) a), .at (.data _ (.int k') b)=>if k=k' then b≠0/\K (.at (.data true (.int k) (a.tmod b))) else False
 | .shl, .at (.data _ (.int k) a), .at (.data _ (.int _) b)=> ¬b<0/\K (.at (.data true (.int k) (k.wrap (a*2^(min b.toNat k.bits)))))
 | .shr, .at (.data _ (.int k) a), .at (.data _ (.int _) b)=> ¬b<0/\K (.at (.data true (.int k) (a.fdiv (2^(min b.toNat k.bits)))))
 | .add, .at (.data _ .str a), .at (.data _ .str b)=>a.size+b.size<=4294967296/\K (.at (.data true .str (a++b)))
 |op,x,y=>Dy (Mt T op t x y) K
def IT (st:St) (t:TypeId) (p:AV) (K:AV->Prop):Prop:=
 match p with
 | .at (.Fq l i)=>Dy (T.ty t) λτ=>match st.at l with
  |some (.arr fr _ e _ xs)=>if e=τ then ∃x,xs[i]?=some x/\K (.at (.data (fr||e.flat) e x)) else False
  |some (.Df e _ xs)=>if e=τ then ∃x,xs[i]?=some x/\K (if e.Ab then .agg (aA l i 0 e x) else .at ((aA l i 0 e x).headD .undef)) else False
  |some (.Ak _ _ _ none _)=>if τ.Ab then False else K (.at (.sub l i 0))
  |_=>False
 | .at (.data fr (.optr Iv) x)=>Dy (T.ty t) λτ=>if Iv=τ then ∃y,x=some y/\K (.at (.data (fr||Iv.flat) Iv y)) else False
 |p=>Dy (Kb T st t p) K
def fb (s:TypeId) (x:AV) (f:Nat) (K:AV->Prop):Prop:=
 match x with
 | .at (.data fr (.optr τ) x)=> ∃y,x=some y/\Dy (Ip T s (.at (.data fr (.ptr τ) y)) f) K
 |x=>Dy (Ip T s x f) K
def qd (st:St) (x:Operand) (K:AV->Prop) (d:Option AV):Prop:=
 match st.ev x with
 | .at (.data fr (.optr τ) x)=> ∃y,x=some y/\K (.at (.data fr (.ptr τ) y))
 |_=>Dy d K
def yX (st:St) (t:TypeId) (x:AV) (lo hi:Option AV) (K:AV->Prop):Prop:=
 Dy (vr x) λn=>Dy (FR lo 0) λl=>Dy (FR hi n) λh=>(0<=l/\l<=h/\h<=n)/\Dy (VI T st t x l h) K
def fp (st:St) (t:TypeId) (x i:AV) (K:AV->Prop):Prop:=
 match x,i with
 | .at (.data fr (.slice e) xs), .at (.data _ (.int _) n)=>if (T.elem t).bind T.ty=some e then ∃x,idx xs n=some x/\K (.at (.data fr (.ptr e) x)) else False
 | .at (.own l off len), .at (.data _ (.int _) n)=>match st.at l with
  |some (.arr _ _ e tid _)=>if T.elem t=some tid/\T.ty tid=some e then (0<=n/\n<len)/\K (.at (.Fq l (off+n.toNat))) else False
  |some (.Df e tid _)=>if T.elem t=some tid/\T.ty tid=some e then (0<=n/\n<len)/\K (.at (.Fq l (off+n.toNat))) else False
  |some (.Ak _ te _ _ _)=>if T.elem t=some te/\(T.ty te).map Ty.size=some 1 then (0<=n/\n<len)/\K (.at (.Fq l (off+n.toNat))) else False
  |_=>False
 | .at (.sub l i _), .at (.data _ (.int _) n)=>match st.at l with
  |some (.Ak e _ rows none _)=>if ((T.elem t).bind T.ty).map Ty.size=some e.size then (0<=n/\n<(rows.getD i []).length)/\K (.at (.Fo l i n.toNat)) else False
  |_=>False
 |_,_=>False
def y0 (t:TypeId) (x i:AV) (K:AV->Prop):Prop:=
 match x,i with
 | .at (.data _ .str s), .at (.data _ (.int _) n)=>if T.ty t=some .str then 0<=n/\ ∃b,s[n.toNat]?=some b/\K (.at (.data true (.int .u8) b.toNat)) else False
 |_,_=>False
def pD (st:St) (f:FuncId) (args:List AV) (K:AV->Prop):Prop:=
 Dy (match Γ f with|some (.q s)=>some s|_=>none) λs=>match s.fresh||s.res.flat||args.all (·.settled) with
  |true=>Dy (Bn st s.arg args) λp=> ∃y,s.fn p.2=some y/\K (if s.Fv then .Uc (s.fresh||s.res.flat) s.res y else .at (.data (s.fresh||s.res.flat) s.res y))
  |false=>False
def xy (st:St) (v:AV) (args:List AV) (K:AV->Prop):Prop:=
 match v with
 | .at (.data fr (.clo f τ) x)=>match τ.chain with|true=>(match Nat.blt f 1000000000 with|true=>pD Γ st f (args++Ui fr τ x) K|false=>pD Γ st (f-1000000000) (Ui fr τ x++args) K)|false=>False
 | .at (.clo f Bs)=>pD Γ st f (args++Bs.map λp=> .at (.Dw p.1 p.2)) K
 |_=>False
def qW (w:WS) (o:Oper) (K:AV->WS->Prop):Prop:=
 match o.op with
 | .pick c a b=>brO w c λt w'=>match t with|true=>K (w'.st.ev a) w'|false=>K (w'.st.ev b) w'
 | .load t a=>IT T w.st t (w.st.ev a) λv=>K v w
 | .binOp op t x y _=>SG T op t (w.st.ev x) (w.st.ev y) λv=>K v w
 | .slice t x lo hi mx=>match mx with
  |none=>yX T w.st t (w.st.ev x) (lo.map w.st.ev) (hi.map w.st.ev) λv=>K v w
  |some _=>False
 | .indexAddr t x i=>fp T w.st t (jo (w.st.ev x)) (w.st.ev i) λv=>K v w
 | .index t x i=>y0 T t (w.st.ev x) (w.st.ev i) λv=>K v w
 | .call {callee:= .value (.func f),args, .. } =>pD Γ w.st f (args.toList.map w.st.ev) λv=>K v w
 | .call {callee:= .value (.tmp t),args, .. } =>xy Γ w.st (w.st.get t) (args.toList.map w.st.ev) λv=>K v w
 | .fieldAddr s x f=>fb T s (w.st.ev x) f λv=>K v w
 | .nilCheck x=>qd w.st x (λv=>K v w) (Ch T Γ w.st o)
 |_=>Dy (Ch T Γ w.st o) λv=>K v w
def zg (st:St) (t:TypeId) (p v:AV) (K:St->Prop):Prop:=
 match p with
 | .at (.Fq l j)=>Dy (T.ty t) λτ=>Dy (settle st v) λq=>match q.2.at l with
  |some (.arr fr tr e tid xs)=>Dy (Cr q.2 τ q.1) λu=>if h:τ=e then j<xs.length/\K (q.2.Fu l (.arr (fr&&u.1) (tr&&(Mp st v&&e.tree)) e tid (xs.set j (h▸u.2)))) else False
  |_=>False
 |p=>Dy (Nr T st t p v) K
def AY (st:St) (t:TypeId) (p v:AV) (K:St->Prop):Prop:=
 match p with
 | .at (.Fo l i j)=>Dy (T.ty t) λτ=>Dy (settle st v) λq=>match q.2.at l with
  |some (.Ak e te rows none kp)=>Dy (Cr q.2 τ q.1) λu=>if h:τ=e then K (q.2.Fu l (.Ak e te (rows.set i ((rows.getD i []).set j (h▸u.2))) none kp)) else False
  |_=>False
 | .at (.Fq l j)=>Dy (T.ty t) λτ=>match st.at l,v with
  |some (.Ak e te rows out kp), .at (.own m off len)=>match st.at m with
   |some (.arr _ _ e' _ xs)=>if h:e'=e/\(Nat.blt l Aj&&(!Nat.beq m l&&!τ.Ab))=true then
     off=0/\len=xs.length/\(match out with|none=>True|some i=>i=j)/\K (Ms st l j m e te rows (h.1▸xs) (Uw j kp))
    else False
   |_=>False
  |_,_=>False
 |_=>False
def td (st:St) (t:TypeId) (p v:AV) (K:St->Prop):Prop:=match zT st p with
 |true=>AY T st t p v K
 |false=>zg T st t p v K
def fT (st:St) (dst:Nat) (t:TypeId) (x y:Operand) (K:AV->St->Prop):Prop:=
 Dy (T.elem t) λte=>Dy (T.ty te) λe=>Dy (settle st (st.ev y)) λq=>Dy (Cr q.2 (.slice e) q.1) λu=>match q.2.ev x with
  | .at .Hm=>match Nat.blt dst Aj with
   |true=>List.length u.2<=Bm/\K (.at (.own dst 0 (List.length u.2))) ((q.2.new dst (.arr (T.me||e.flat) T.tw e te [])).new dst (.arr ((T.me||e.flat)&&(u.1||e.flat)) (T.tw&&(e.flat||(Mp st (st.ev y)&&e.tree))) e te u.2))
   |false=>False
  | .at (.own l off len)=>match q.2.at l with
   |some (.arr fr tr e' tid xs)=>if h:e'=e/\tid=te/\Nat.blt l Aj=true then
     off=0/\len=xs.length/\len+List.length u.2<=Bm/\K (.at (.own l 0 (List.length ((h.1▸xs:List e.den)++u.2)))) (q.2.new l (.arr (fr&&(u.1||e.flat)) (tr&&(e.flat||(Mp st (st.ev y)&&e.tree))) e te ((h.1▸xs:List e.den)++u.2)))
    else False
   |_=>False
  |_=>False
def lO (st:St) (dst:Nat) (t:TypeId) (x y:Operand) (K:AV->St->Prop):Prop:=
 match x with
 | .tmp tx=>match st.get tx with
  | .at (.sub l i _)=>Dy (T.elem t) λtid=>match st.at l with
   |some (.Ak e te rows none kp)=>match Nat.blt l Aj&&(Nat.blt dst Aj&&!Nat.beq dst l) with
    |true=>fT T ((Ka st l i dst e te tid rows kp).put (some tx) (.at (.own dst 0 (rows.getD i []).length))) dst t x y K
    |false=>False
   |_=>False
  |_=>fT T st dst t x y K
 |_=>fT T st dst t x y K
def IY (st:St) (dst:Nat) (t:TypeId) (l c:AV) (K:AV->St->Prop):Prop:=
 match l,c with
 | .at (.data _ (.int _) n), .at (.data _ (.int _) m)=>Dy (T.elem t) λte=>Dy (T.ty te) λe=>match aH e&&Nat.blt dst Aj with
  |true=>(0<=n/\n<Bm+1)/\n=m/\K (.at (.own dst 0 (List.replicate n.toNat e.zero).length)) (st.new dst (.arr (T.me||e.flat) (T.tw&&e.tree) e te (List.replicate n.toNat e.zero)))
  |false=>False
 |_,_=>False
def yl (st:St) (dst:Nat) (t:TypeId) (l c:AV) (K:AV->St->Prop):Prop:=
 match Xy T t with
 |none=>IY T st dst t l c K
 |some p=>match l,c with
  | .at (.data _ (.int _) n), .at (.data _ (.int _) m)=>match Nat.blt dst Aj with
   |true=>(0<=n/\n<Bm+1)/\n=m/\K (.at (.own dst 0 (List.replicate n.toNat ([]:List p.2.den)).length)) (Kv st dst dst (.Ak p.2 p.1 (List.replicate n.toNat []) none none))
   |false=>False
  |_,_=>False
def Zi (st:St) (dst:Nat) (t:TypeId) (len:Nat) (parts:Array (Nat×Operand)) (K:AV->St->Prop):Prop:=
 match Xy T t with
 |none=>Dy (Hi T st dst t len parts) λr=>K r.1 r.2
 |some p=>match parts.toList with
  | [(0,x)]=>match st.ev x with
   | .at (.own m off ln)=>match st.at m with
    |some (.arr _ _ e' _ xs)=>if h:e'=p.2/\(Nat.beq len 1&&(Nat.blt dst Aj&&Nat.blt m Aj))=true then off=0/\ln=xs.length/\K (.at (.own dst 0 1)) (Kv st dst m (.Ak p.2 p.1 [h.1▸xs] none none)) else False
    |_=>False
   |_=>False
  |_=>False
def lQ (st:St) (dst:Nat) (t:TypeId) (x y:Operand) (K:AV->St->Prop):Prop:=
 match Xy T t with
 |none=>lO T st dst t x y K
 |some p=>match st.ev x,st.ev y with
  | .at (.own l off len), .at (.own m JD mI)=>match st.at l,st.at m with
   |some (.Ak e1 te1 A none _),some (.Ak e2 pe B none _)=>
    if h:(e1=p.2/\e2=p.2)/\(decide (te1=p.1)&&decide (pe=p.1)&&(Nat.blt l Aj&&(Nat.blt m Aj&&!Nat.beq m l)))=true then
     (off=0/\len=A.length)/\(JD=0/\mI=B.length)/\0<B.length/\A.length+B.length<=Bm/\
      K (.at (.own l 0 (List.length ((h.1.1▸A:List (List p.2.den))++(h.1.2▸B:List (List p.2.den)))))) (Kv st l m (.Ak p.2 p.1 ((h.1.1▸A:List (List p.2.den))++(h.1.2▸B:List (List p.2.den))) none none))
    else False
   |_,_=>False
  |_,_=>False
def aC (st:St) (io:Bool) (k:Nat):(c:CK)->AC->(c.den->List (Nat×Loc)->Prop)->Prop
 | .Fc τ, .own l off len,K=>Dy (Bj st τ (.own l off len)) λp=>K p.2 [(Bo false k, .view l)]
 | .Fc τ, .clo g Bs,K=>match Vh st (Bs.map (·.1))&&!τ.Ab with
  |true=>Dy (Fb st τ (.clo g Bs)) λp=>K p.2 (views k (Bs.map (·.1)))
  |false=>False
 | .Fc τ, .Dw l i,K=>match Vh st [l]&&!τ.Ab with
  |true=>Dy (Fb st τ (.Dw l i)) λp=>K p.2 (views k [l])
  |false=>False
 | .Fc τ, .sub l i c,K=>Dy (Bj st τ (.sub l i c)) λp=>K p.2 [(Bo false k, .view l)]
 | .Fc τ,a,K=>match τ.flat||a.settled with
  |true=>Dy (Bj st τ a) λp=>K p.2 []
  |false=>False
 | .row e te, .own l off len,K=>match st.at l with
  |some (.arr _ _ e' Kz xs)=>if h:e'=e/\Kz=te then off=0/\len=xs.length/\K (h.1▸xs:List e.den) [(Bo io k, .row l)] else False
  |_=>False
 | .row e _, .sub l i c,K=>match st.at l with
  |some (.Df e' _ xs)=>if h:e'= .slice e/\e.flat=true/\io=true/\c=0 then ∃y,xs[i]?=some y/\K (h.1▸y:(Ty.slice e).den) [(Bo io k, .sub l i c)] else False
  |_=>False
 | .row _ _, .Hm,K=>K [] []
 | .Du e te, .own l off len,K=>match st.at l with
  |some (.Df e' Kz xs)=>if h:e'=e/\Kz=te then off=0/\len=xs.length/\K (h.1▸xs:List e.den) [(Bo io k, .row l)] else False
  |_=>False
 | .Du e _, .sub l i c,K=>match st.at l with
  |some (.Df e' _ xs)=>if h:e'= .slice e/\io=true/\c=0 then ∃y,xs[i]?=some y/\K (h.1▸y:(Ty.slice e).den) [(Bo io k, .sub l i c)] else False
  |_=>False
 | .Du _ _, .Hm,K=>K [] []
 | .part e te, .own l off len,K=>match st.at l with
  |some (.arr _ _ e' Kz xs)=>if h:e'=e/\Kz=te/\e.flat=true/\io=true then K ((h.1▸xs:List e.den),off,len) [(Bo io k, .row l)] else False
  |_=>False
 | .Ak e te _, .own l off len,K=>match st.at l with
  |some (.Ak e' Kz rows none _)=>if h:e'=e/\Kz=te/\io=false then off=0/\len=rows.length/\K (h.1▸rows:List (List e.den)) [(Bo io k, .row l)] else False
  |_=>False
 |_,_,_=>False
def tv (st:St):(k:Nat)->(cs:List (Bool×CK))->List AC->(Ins.den cs->List (Nat×Loc)->Prop)->Prop
 |_,[],[],K=>K () []
 |k,p::r,a::as,K=>aC st p.1 k p.2 a λx t1=>tv st (k+1) r as λy t2=>K (x,y) (t1++t2)
 |_,_,_,_=>False
def kv (st:St):(c:CK)->c.den->AC->(St->Prop)->Prop
 | .row e _,ys, .own l _ len,K=>match st.at l with
  |some (.arr fr tr e' te xs)=>if h:e=e' then (List.length ys=len/\xs.length=len)/\K (st.Fu l (.arr (fr&&e'.flat) (tr&&e'.flat) e' te (h▸ys))) else False
  |_=>False
 | .Du e _,ys, .own l _ len,K=>match st.at l with
  |some (.Df e' te xs)=>if h:e=e' then (List.length ys=len/\xs.length=len)/\K (st.Fu l (.Df e' te (h▸ys))) else False
  |_=>False
 | .row e _,ys, .sub l i _,K=>match st.at l with
  |some (.Df e' te xs)=>if h: .slice e=e' then ∃y,xs[i]?=some y/\List.length ys=List.length (h▸y:(Ty.slice e).den)/\K (st.Fu l (.Df e' te (xs.set i (h▸(ys:(Ty.slice e).den))))) else False
  |_=>False
 | .Du e _,ys, .sub l i _,K=>match st.at l with
  |some (.Df e' te xs)=>if h: .slice e=e' then ∃y,xs[i]?=some y/\List.length ys=List.length (h▸y:(Ty.slice e).den)/\K (st.Fu l (.Df e' te (xs.set i (h▸(ys:(Ty.slice e).den))))) else False
  |_=>False
 |_,_, .Hm,K=>K st
 |_,_,_,_=>False
def JW (st:St) (e:Ty) (ys:List e.den):AC->(St->Prop)->Prop
 | .own l _ _,K=>match st.at l with
  |some (.arr fr tr e' te xs)=>if h:e=e' then List.length ys=xs.length/\K (st.Fu l (.arr fr tr e' te (h▸ys))) else False
  |_=>False
 |_,_=>False
def cA:(cs:List (Bool×CK))->IOs.den cs->List AC->St->(St->Prop)->Prop
 | [],_,_,st,K=>K st
 |(true, .Fc _)::r,x,_::as,st,K=>cA r x as st K
 |(true, .row e te)::r,x,a::as,st,K=>kv st (.row e te) x.1 a λst'=>cA r x.2 as st' K
 |(true, .Du e te)::r,x,a::as,st,K=>kv st (.Du e te) x.1 a λst'=>cA r x.2 as st' K
 |(true, .part e _)::r,x,a::as,st,K=>JW st e x.1 a λst'=>cA r x.2 as st' K
 |(true, .Ak _ _ _)::r,x,_::as,st,K=>cA r x as st K
 |(false,_)::r,x,_::as,st,K=>cA r x as st K
 |_,_,_,_,_=>False
def nO (H:List (Nat×OB)) (ls:List Nat) (n:Nat):List AV->Prop->Prop
 | [],K=>K
 | .at (.sub l i _)::r,K=>match ls.contains l with
  |true=>(i<n/\i<lq H l)/\nO H ls n r K
  |false=>nO H ls n r K
 |_::r,K=>nO H ls n r K
def xx (st:St) (dst:Option Nat) (s:MSpec) (args:List AV) (K:AV->St->Prop):Prop:=
 Dy (AR st s args) λq=>Dy (ungroup s.Gy q.2.2) λiz=>tv st 0 s.ins (q.2.1++iz) λx tks=>
  match Sn (tks.map λt=>t.2.Pq)&&s6 (Lo s tks (dst.getD 0)) (s.outs.length+(fF s (dst.getD 0)).length)&&Nat.blt s.outs.length 1000&&Nat.blt s.ins.length 1000&&(Ou s.ins q.2.1&&q.1.all λl=>!((tks.map λt=>t.2.Pq)++Lo s tks (dst.getD 0)).contains l) with
  |true=> ∃p,s.fn x=some p/\cA s.ins p.2 (q.2.1++iz) st λst1=>Dy (OU s (dst.getD 0) ((Uz (Bp (Lo s tks (dst.getD 0))) 0 s.outs p.1).drop s.Sv)) λv=>
    nO (eR st st1 (dst.getD 0) s q.1 tks p.1).heap (Uv st.heap (Lo s tks (dst.getD 0)) tks s.keeps) (s.Cs x) st.tmps
     (K v (fq st (eR st st1 (dst.getD 0) s q.1 tks p.1) (Uv st.heap (Lo s tks (dst.getD 0)) tks s.keeps) (s.Cs x)))
  |false=>False
def RX (w:WS) (o:Oper) (K:AV->WS->Prop):Prop:=
 match o.op with
 | .store t p x=>td T w.st t (w.st.ev p) (w.st.ev x) λs=>K .undef (w.to s)
 | .makeSlice t l c=>Dy o.dst λd=>yl T w.st d t (w.st.ev l) (w.st.ev c) λv s=>K v (w.to s)
 | .call {callee:= .builtin .append,args,argTypes} =>match o.dst,args.toList,argTypes.toList with
  |some d,[x,y],[t,t']=>if t=t' then lQ T w.st d t x y λv s=>K v (w.to s) else False
  |_,_,_=>False
 | .assign _=>Dy (evalOp T Γ w.st o) λr=>K r.1 (w.to r.2)
 | .alloc _=>Dy (evalOp T Γ w.st o) λr=>K r.1 (w.to r.2)
 | .box _ _=>Dy (evalOp T Γ w.st o) λr=>K r.1 (w.to r.2)
 | .buildSlice t len parts=>Dy o.dst λd=>Zi T w.st d t len parts λv s=>K v (w.to s)
 | .build _ _=>Dy (evalOp T Γ w.st o) λr=>K r.1 (w.to r.2)
 | .makeMap _ _=>Dy (evalOp T Γ w.st o) λr=>K r.1 (w.to r.2)
 | .mapUpdate _ _ _ _=>Dy (evalOp T Γ w.st o) λr=>K r.1 (w.to r.2)
 | .insert _ _ _ _=>Dy (evalOp T Γ w.st o) λr=>K r.1 (w.to r.2)
 | .call {callee:= .builtin .copy, .. } =>Dy (evalOp T Γ w.st o) λr=>K r.1 (w.to r.2)
 | .call {callee:= .builtin .clear, .. } =>Dy (evalOp T Γ w.st o) λr=>K r.1 (w.to r.2)
 | .call {callee:= .value (.func f),args, .. } =>match Γ f with
  |some (.m s)=>xx w.st o.dst s (args.toList.map w.st.ev) λv s'=>K v (w.to s')
  |some (.q s)=>match a6 s (args.toList.map w.st.ev) with
   |true=>Dy (Jk args.toList w.st) λst1=>qW T Γ (w.to st1) o K
   |false=>qW T Γ w o K
  |_=>qW T Γ w o K
 |_=>qW T Γ w o K
def AV.IN:AV->Bool
 | .at .skip=>true
 |_=>false
def bW (w:WS) (o:Oper) (K:AV->WS->Prop):Prop:=
 match o.op with
 | .buildSlice t len parts=>Dy (Uk T w.st t len parts) λv=>K v w
 | .build t parts=>Dy (Qa T w.st t parts) λv=>K v w
 |_=>qW T Γ w o K
def ez (ops:Array Oper) (w:WS) (o:Oper) (run:(AV->WS->Prop)->WS->Prop) (K:WS->Prop):Prop:=
 match o.guard with
 |none=>run (λv w'=>K (w'.oR o v)) w
 |some (j,want)=>Dy ((ops[j]?).bind (·.dst)) λt=>match (w.st.get t).IN with
  |true=>K (w.put o.dst (.at .skip))
  |false=>brT w t λb w'=>match b,want with
   |true,true=>run (λv nY=>K (nY.oR o v)) w'
   |false,false=>run (λv nY=>K (nY.oR o v)) w'
   |_,_=>K (w'.put o.dst (.at .skip))
def UR (ops:Array Oper):List Oper->WS->(WS->Prop)->Prop
 | [],w,K=>K w
 |o::r,w,K=>ez ops w o (λk w'=>RX T Γ w' o k) λw'=>UR ops r w' K
def IF (ops:Array Oper):List Nat->WS->(WS->Prop)->Prop
 | [],w,K=>K w
 |i::r,w,K=>Dy ops[i]? λo=>ez ops w o (λk w'=>RX T Γ w' o k) λw'=>IF ops r w' K
def pN (ops:Array Oper):List Nat->WS->(WS->Prop)->Prop
 | [],w,K=>K w
 |i::r,w,K=>Dy ops[i]? λo=>ez ops w o (λk w'=>bW T Γ w' o k) λw'=>pN ops r w' K
def MI:List Nat->(Nat->Prop)->Prop
 | [],_=>True
 | [i],P=>P i
 |i::j::r,P=>P i/\MI (j::r) P
def BJ (ops:Array Oper):Nat->Array Bool->WS->(WS->Prop)->Prop
 |0,Ac,w,K=>match Region.ready .any ops Ac with
  | []=>K w
  |_::_=>False
 |f+1,Ac,w,K=>match Region.ready .any ops Ac with
  | []=>False
  |i::r=>MI (i::r) λk=>Dy ops[k]? λo=>ez ops w o (λkk w'=>RX T Γ w' o kk) λw'=>BJ ops f (Ac.setIfInBounds k true) w' K
def WD:AC->Type->Type
 | .data _ τ _,R=>τ.den×R
 | .sub _ _ _,R=>Nat×R
 | .Fq _ _,R=>Nat×R
 | .Fo _ _ _,R=>Nat×Nat×R
 |_,R=>R
def xm:List AC->Type->Type
 | [],R=>R
 |c::r,R=>WD c (xm r R)
def WE:AV->Type->Type
 | .at a,R=>WD a R
 | .agg cs,R=>xm cs R
 | .Uc _ τ _,R=>τ.den×R
 | .It _,R=>R
def obV:OB->Type->Type
 | .arr _ _ e _ _,R=>List e.den×R
 | .Df e _ _,R=>List e.den×R
 | .var _ vs,R=>xm vs R
 | .Ak e _ _ _ none,R=>List (List e.den)×R
 | .Ak e _ _ _ (some _),R=>List (List e.den)×(Nat×R)
 | .Oh v _,R=>(ByteArray->Option v.den)×R
def kJ:List AV->Type->Type
 | [],R=>R
 |v::r,R=>WE v (kJ r R)
def pO:List (Nat×OB)->Type->Type
 | [],R=>R
 |p::r,R=>obV p.2 (pO r R)
def stV (s:St):Type:=kJ s.tmps (pO s.heap Unit)
def zB:(c:AC)-> {R:Type} ->R->WD c R
 | .data _ _ x,_,r=>(x,r)
 | .undef,_,r=>r
 | .skip,_,r=>r
 | .Hm,_,r=>r
 | .Qn,_,r=>r
 | .own _ _ _,_,r=>r
 | .Dw _ _,_,r=>r
 | .Fq _ i,_,r=>(i,r)
 | .clo _ _,_,r=>r
 | .Gf _,_,r=>r
 | .sub _ i _,_,r=>(i,r)
 | .Fo _ i j,_,r=>(i,j,r)
def lL:(l:List AC)-> {R:Type} ->R->xm l R
 | [],_,r=>r
 |c::l,_,r=>zB c (lL l r)
def QA:(c:AV)-> {R:Type} ->R->WE c R
 | .at a,_,r=>zB a r
 | .agg cs,_,r=>lL cs r
 | .Uc _ _ x,_,r=>(x,r)
 | .It _,_,r=>r
def RW:(b:OB)-> {R:Type} ->R->obV b R
 | .arr _ _ _ _ xs,_,r=>(xs,r)
 | .Df _ _ xs,_,r=>(xs,r)
 | .var _ vs,_,r=>lL vs r
 | .Ak _ _ rows _ none,_,r=>(rows,r)
 | .Ak _ _ rows _ (some p),_,r=>(rows,p.2,r)
 | .Oh _ m,_,r=>(m,r)
def lC:(l:List AV)-> {R:Type} ->R->kJ l R
 | [],_,r=>r
 |c::l,_,r=>QA c (lC l r)
def lr:(l:List (Nat×OB))-> {R:Type} ->R->pO l R
 | [],_,r=>r
 |p::l,_,r=>RW p.2 (lr l r)
def AW (s:St):stV s:=lC s.tmps (lr s.heap ())
def iF:(c d:AC)-> {R:Type} ->R->Option (WD c R)
 | .data fr τ _, .data On Iv x,_,r=>if h:Iv=τ/\On=fr then some (h.1▸x,r) else none
 | .undef, .undef,_,r=>some r
 | .skip, .skip,_,r=>some r
 | .Hm, .Hm,_,r=>some r
 | .Qn, .Qn,_,r=>some r
 | .own l _ _, .own l' _ _,_,r=>if l=l' then some r else none
 | .Dw l i, .Dw l' i',_,r=>if l=l'/\i=i' then some r else none
 | .Fq l _, .Fq l' i',_,r=>if l=l' then some (i',r) else none
 | .clo f c, .clo f' c',_,r=>if f=f'/\c=c' then some r else none
 | .Gf l, .Gf l',_,r=>if l=l' then some r else none
 | .sub l _ c, .sub l' i' c',_,r=>if l=l'/\c=c' then some (i',r) else none
 | .Fo l _ _, .Fo l' i' j',_,r=>if l=l' then some (i',j',r) else none
 |_,_,_,_=>none
def Ln:(l m:List AC)-> {R:Type} ->R->Option (xm l R)
 | [],[],_,r=>some r
 |c::l,d::m,_,r=>(Ln l m r).bind λr'=>iF c d r'
 |_,_,_,_=>none
def eU:(c d:AV)-> {R:Type} ->R->Option (WE c R)
 | .at a, .at b,_,r=>iF a b r
 | .agg cs, .agg ds,_,r=>Ln cs ds r
 | .Uc fr τ _, .Uc On Iv x,_,r=>if h:Iv=τ/\On=fr then some (h.1▸x,r) else none
 |_,_,_,_=>none
def Mj:(b d:OB)-> {R:Type} ->R->Option (obV b R)
 | .arr fr tr e tid _, .arr On KZ e' No xs,_,r=>if h:e'=e/\On=fr/\KZ=tr/\No=tid then some (h.1▸xs,r) else none
 | .Df e tid _, .Df e' No xs,_,r=>if h:e'=e/\No=tid then some (h.1▸xs,r) else none
 | .Oh v _, .Oh v' m,_,r=>if h:v'=v then some (h▸m,r) else none
 | .var t vs, .var t' us,_,r=>if t'=t then Ln vs us r else none
 | .Ak e te _ out none, .Ak e' Kz rows bn none,_,r=>if h:e'=e/\Kz=te/\bn=out then some (h.1▸rows,r) else none
 | .Ak e te _ out (some p), .Ak e' Kz rows bn (some p'),_,r=>if h:e'=e/\Kz=te/\bn=out/\p'.1=p.1 then some (h.1▸rows,p'.2,r) else none
 |_,_,_,_=>none
def Jl:(l m:List AV)-> {R:Type} ->R->Option (kJ l R)
 | [],[],_,r=>some r
 |c::l,d::m,_,r=>(Jl l m r).bind λr'=>eU c d r'
 |_,_,_,_=>none
def Kd:(l m:List (Nat×OB))-> {R:Type} ->R->Option (pO l R)
 | [],[],_,r=>some r
 |p::l,q::m,_,r=>if q.1=p.1 then (Kd l m r).bind λr'=>Mj p.2 q.2 r' else none
 |_,_,_,_=>none
def cP (s t:St):Option (stV s):=(Kd s.heap t.heap ()).bind λr=>Jl s.tmps t.tmps r
def eQ:(c:AC)-> {R:Type} ->WD c R->AC×R
 | .data fr τ _,_,v=>(.data fr τ v.1,v.2)
 | .undef,_,r=>(.undef,r)
 | .skip,_,r=>(.skip,r)
 | .Hm,_,r=>(.Hm,r)
 | .Qn,_,r=>(.Qn,r)
 | .own l off len,_,r=>(.own l off len,r)
 | .Dw l i,_,r=>(.Dw l i,r)
 | .Fq l _,_,v=>(.Fq l v.1,v.2)
 | .clo f c,_,r=>(.clo f c,r)
 | .Gf l,_,r=>(.Gf l,r)
 | .sub l _ c,_,v=>(.sub l v.1 c,v.2)
 | .Fo l _ _,_,v=>(.Fo l v.1 v.2.1,v.2.2)
def Sz:(l:List AC)-> {R:Type} ->xm l R->List AC×R
 | [],_,r=>([],r)
 |c::l,_,v=>((eQ c v).1::(Sz l (eQ c v).2).1,(Sz l (eQ c v).2).2)
def lT:(c:AV)-> {R:Type} ->WE c R->AV×R
 | .at a,_,v=>(.at (eQ a v).1,(eQ a v).2)
 | .agg cs,_,v=>(.agg (Sz cs v).1,(Sz cs v).2)
 | .Uc fr τ _,_,v=>(.Uc fr τ v.1,v.2)
 | .It l,_,r=>(.It l,r)
def mS:(b:OB)-> {R:Type} ->obV b R->OB×R
 | .arr fr tr e tid _,_,v=>(.arr fr tr e tid v.1,v.2)
 | .Df e tid _,_,v=>(.Df e tid v.1,v.2)
 | .Oh w _,_,v=>(.Oh w v.1,v.2)
 | .var t vs,_,v=>(.var t (Sz vs v).1,(Sz vs v).2)
 | .Ak e te _ out none,_,v=>(.Ak e te v.1 out none,v.2)
 | .Ak e te _ out (some p),_,v=>(.Ak e te v.1 out (some (p.1,v.2.1)),v.2.2)
def Pl:(l:List AV)-> {R:Type} ->kJ l R->List AV×R
 | [],_,r=>([],r)
 |c::l,_,v=>((lT c v).1::(Pl l (lT c v).2).1,(Pl l (lT c v).2).2)
def Yb:(l:List (Nat×OB))-> {R:Type} ->pO l R->List (Nat×OB)×R
 | [],_,r=>([],r)
 |p::l,_,v=>((p.1,(mS p.2 v).1)::(Yb l (mS p.2 v).2).1,(Yb l (mS p.2 v).2).2)
def cO (s:St) (v:stV s):St:= {tmps:=(Pl s.tmps v).1,heap:=(Yb s.heap (Pl s.tmps v).2).1}
def lenOf (H:List (Nat×OB)) (l:Nat):Nat:=match Ae H l with|some (.arr _ _ _ _ xs)=>xs.length|some (.Df _ _ xs)=>xs.length|some (.Ak _ _ rows _ _)=>rows.length|_=>0
def Sk (ps:List Nat):List AV->List (Nat×Nat×Nat)
 | []=> []
 | .at (.own l off len)::r=>if ps.contains l then (l,off,len)::Sk ps r else Sk ps r
 |_::r=>Sk ps r
def UP:List (Nat×Nat×Nat)->Nat->Nat
 | [],_=>0
 |(k,o,_)::r,l=>if k=l then o else UP r l
def CM:List (Nat×Nat×Nat)->List (Nat×OB)->Nat->Nat
 | [],H,l=>lenOf H l
 |(k,_,n)::r,H,l=>if k=l then n else CM r H l
def aG (B:List (Nat×Nat×Nat)) (H:List (Nat×OB)):AC->AC
 | .own l _ _=> .own l (UP B l) (CM B H l)
 |c=>c
def St.whole (B:List (Nat×Nat×Nat)) (s:St):St:=s.Ge (aG B s.heap)
def qX (B:List (Nat×Nat×Nat)) (H:List (Nat×OB)) (c:AC) (K:Prop):Prop:=match c with
 | .own l off len=>off=UP B l/\len=CM B H l/\K
 |_=>K
def Xk (B:List (Nat×Nat×Nat)) (H:List (Nat×OB)):List AC->Prop->Prop
 | [],K=>K
 |c::r,K=>qX B H c (Xk B H r K)
def zD (B:List (Nat×Nat×Nat)) (H:List (Nat×OB)) (c:AV) (K:Prop):Prop:=match c with
 | .at a=>qX B H a K
 | .agg cs=>Xk B H cs K
 | .Uc _ _ _=>K
 | .It _=>False
def Ub (B:List (Nat×Nat×Nat)) (H:List (Nat×OB)):List AV->Prop->Prop
 | [],K=>K
 |c::r,K=>zD B H c (Ub B H r K)
def dp (B:List (Nat×Nat×Nat)) (H:List (Nat×OB)):List (Nat×OB)->Prop->Prop
 | [],K=>K
 |p::r,K=>match p.2 with
  | .var _ vs=>Xk B H vs (dp B H r K)
  |_=>dp B H r K
def ta (B:List (Nat×Nat×Nat)) (s:St) (K:Prop):Prop:=Ub B s.heap s.tmps (dp B s.heap s.heap K)
def AV.Ql:AV->Bool
 | .at (.data _ _ _)=>true
 |_=>false
def Hj (p:Nat->Bool):Nat->List AV->List Bool
 |_,[]=> []
 |i,v::r=>(v.Ql&&p i)::Hj p (i+1) r
def stays (live:Nat->List Nat) (c:Code) (t:Nat):Bool:=!(writes c).contains t&&Uu live c t
def Nv:List Bool->List AV->List AV
 |true::f,_::r=> .undef::Nv f r
 |false::f,v::r=>v::Nv f r
 |_,l=>l
def Oz:List Bool->List AV->List AV->List AV
 |true::f,a::s,_::r=>a::Oz f s r
 |false::f,_::s,v::r=>v::Oz f s r
 |_,_,l=>l
def St.mask (fx:List Bool) (s:St):St:= {tmps:=Nv fx s.tmps,heap:=s.heap}
def St.oJ (fx:List Bool) (s0 s:St):St:= {tmps:=Oz fx s0.tmps s.tmps,heap:=s.heap}
def lk (c:AC) (k:AC->Prop):Prop:=match c with
 | .undef=>k .undef
 | .skip=>k .skip
 | .Hm=>k .Hm
 | .Qn=>k .Qn
 | .data fr τ x=>match fr with
  |true=>k (.data true τ x)
  |false=>k (.data false τ x)
 | .own l off len=>k (.own l off len)
 | .Dw l i=>k (.Dw l i)
 | .Fq l i=>k (.Fq l i)
 | .clo f c=>k (.clo f c)
 | .Gf l=>k (.Gf l)
 | .sub l i c=>k (.sub l i c)
 | .Fo l i c=>k (.Fo l i c)
def bU:List AC->(List AC->Prop)->Prop
 | [],k=>k []
 |c::r,k=>lk c λc'=>bU r λr'=>k (c'::r')
def rC (c:AV) (k:AV->Prop):Prop:=match c with
 | .at a=>lk a λa'=>k (.at a')
 | .agg cs=>bU cs λbL=>k (.agg bL)
 | .Uc fr τ x=>k (.Uc fr τ x)
 | .It l=>k (.It l)
def bV:List AV->(List AV->Prop)->Prop
 | [],k=>k []
 |c::r,k=>rC c λc'=>bV r λr'=>k (c'::r')
def rD (b:OB) (k:OB->Prop):Prop:=match b with
 | .arr fr tr e tid xs=>match fr,tr with
  |true,true=>k (.arr true true e tid xs)
  |true,false=>k (.arr true false e tid xs)
  |false,true=>k (.arr false true e tid xs)
  |false,false=>k (.arr false false e tid xs)
 | .Df e tid xs=>k (.Df e tid xs)
 | .var t vs=>bU vs λtV=>k (.var t tV)
 | .Ak e te rows out kp=>match out,kp with
  |none,none=>k (.Ak e te rows none none)
  |none,some (l,n)=>k (.Ak e te rows none (some (l,n)))
  |some i,none=>k (.Ak e te rows (some i) none)
  |some i,some (l,n)=>k (.Ak e te rows (some i) (some (l,n)))
 | .Oh v m=>k (.Oh v m)
def mc:List (Nat×OB)->(List (Nat×OB)->Prop)->Prop
 | [],k=>k []
 |(l,b)::r,k=>rD b λb'=>mc r λr'=>k ((l,b')::r')
def iT (w:WS) (k:WS->Prop):Prop:=bV w.st.tmps λt=>mc w.st.heap λh=>k {kn:=w.kn,st:= {tmps:=t,heap:=h} }
def iS (s:St) (k:St->Prop):Prop:=bV s.tmps λt=>mc s.heap λh=>k {tmps:=t,heap:=h}
def di:List Bool->(List Bool->Prop)->Prop
 | [],k=>k []
 |true::r,k=>di r λr'=>k (true::r')
 |false::r,k=>di r λr'=>k (false::r')
theorem jV {c:AC} {k:AC->Prop} :lk c k↔k c:=by
 cases c<;>simp only [lk]
 split<;>rfl
theorem Zp: ∀ {l:List AC} {k:List AC->Prop},bU l k↔k l
 | [],k=>Iff.rfl
 |c::r,k=>by simp only [bU];rw [jV,Zp]
theorem uK {c:AV} {k:AV->Prop} :rC c k↔k c:=by
 cases c<;>simp only [rC]
 ·exact jV
 ·exact Zp
theorem Zq: ∀ {l:List AV} {k:List AV->Prop},bV l k↔k l
 | [],k=>Iff.rfl
 |c::r,k=>by simp only [bV];rw [uK,Zq]
theorem uL {b:OB} {k:OB->Prop} :rD b k↔k b:=by
 cases b<;>simp only [rD]
 ·split<;>rfl
 ·exact Zp
 ·split<;>rfl
theorem ff: ∀ {l:List (Nat×OB)} {k:List (Nat×OB)->Prop},mc l k↔k l
 | [],k=>Iff.rfl
 |(l,b)::r,k=>by simp only [mc];rw [uL,ff]
theorem BU {s:St} {k:St->Prop} :iS s k=k s:=by
 unfold iS
 exact propext (by rw [Zq,ff])
theorem fe: ∀ {l:List Bool} {k:List Bool->Prop},di l k=k l
 | [],k=>rfl
 |true::r,k=>by simp only [di];rw [fe]
 |false::r,k=>by simp only [di];rw [fe]
theorem Zr {w:WS} {k:WS->Prop} :iT w k↔k w:=by
 unfold iT
 rw [Zq,ff]
def Uf:AC->List (Nat×Nat)
 | .own _ off len=> [(off,len)]
 |_=> []
def Uh:AV->List (Nat×Nat)
 | .at a=>Uf a
 | .agg cs=>cs.flatMap Uf
 |_=> []
def fz:OB->List (Nat×Nat)
 | .var _ vs=>vs.flatMap Uf
 |_=> []
def ze (s:St):List (Nat×Nat):=s.tmps.flatMap Uh++s.heap.flatMap λp=>fz p.2
def eqW (s0 s:St):Prop:=ze s=ze s0/\Dy (cP s0 s) λv=>v=AW s0
def iR (ops:Array Oper):Nat->Array Bool->WS->(WS->Prop)->Prop
 |0,Ac,w,K=>match Region.ready .any ops Ac with
  | []=>K w
  |_::_=>False
 |f+1,Ac,w,K=>match Region.ready .any ops Ac with
  | []=>False
  |k::_=>Dy ops[k]? λo=>ez ops w o (λkk w'=>RX T Γ w' o kk) λw'=>iR ops f (Ac.setIfInBounds k true) w' K
def u9 (P:List (Nat×Nat×AV×OB)) (ops:Array Oper):Nat->Array Bool->WS->(WS->Prop)->Prop
 |0,Ac,w,K=>match Region.ready .any ops Ac with
  | []=>K w
  |_::_=>False
 |f+1,Ac,w,K=>match Region.ready .any ops Ac with
  | []=>False
  |i::r=>MI (i::r) λk=>Dy ops[k]? λo=>match yu P Γ ops w.st o k with
   |true=>ez ops w o (λkk w'=>RX T Γ w' o kk) λw'=>u9 P ops f (Ac.setIfInBounds k true) w' K
   |false=>False
def re (P:List (Nat×Nat×AV×OB)) (n:Nat) (L0:Array Bool) (ops:Array Oper) (w:WS) (K:WS->Prop):Prop:=
 match (Sn (P.map (·.1))&&Sn (P.map (·.2.1)))&&((P.all λa=>jh a.2.1 w.st)&&(Nat.ble P.length n&&Nat.ble (n-P.length) 10)) with
 |true=>IF T Γ ops (P.map (·.1)) w λw1=>iT w1 λw1=>iR T Γ ops (n-P.length) (Ee (P.map (·.1)) L0) w1 λw0=>iT w0 λw0=>K w0/\u9 T Γ P ops (n-P.length) (Ee (P.map (·.1)) L0) w1 λw2=>eqW w0.st w2.st
 |false=>False
def sI (ops:Array Oper) (draw:Bool) (w:WS) (K:WS->Prop):Prop:=
 match draw with
 |true=>match dw false Γ ops with
  |true=>pN T Γ ops (dm false Γ ops) w λw'=>IF T Γ ops (Ez false Γ ops) w' K
  |false=>match dw true Γ ops with
   |true=>pN T Γ ops (dm true Γ ops) w λw'=>IF T Γ ops (Ez true Γ ops) w' K
   |false=>match Region.noSelect ops&&Nat.ble (ops.size-(Jx ops).length) 8 with
    |true=>pN T Γ ops (Jx ops) w λw'=>match dh false ops with
     |true=>BJ T Γ ops (ops.size-(Jx ops).length) (Ee (Jx ops) (Array.replicate ops.size false)) w' K
     |false=>iR T Γ ops (ops.size-(Jx ops).length) (Ee (Jx ops) (Array.replicate ops.size false)) w' λw0=>iT w0 λw0=>K w0/\BJ T Γ ops (ops.size-(Jx ops).length) (Ee (Jx ops) (Array.replicate ops.size false)) w' λw1=>eqW w0.st w1.st
    |false=>match Region.noSelect ops with
     |true=>pN T Γ ops (Jx ops) w λw'=>re T Γ (Rp T ops (Ee (Jx ops) (Array.replicate ops.size false))) (ops.size-(Jx ops).length) (Ee (Jx ops) (Array.replicate ops.size false)) ops w' K
     |false=>False
 |false=>UR T Γ ops ops.toList w K
def Xo (live:Nat->List Nat):Code->WS->(Gr->WS->Prop)->Prop
 | .skip,w,Q=>Q .normal w
 | .label _,w,Q=>Q .normal w
 | .region _ ops draw,w,Q=>sI T (sH Γ draw) ops draw w λw'=>iT w' (Q .normal)
 | .seq a b,w,Q=>Xo live a w λe w'=>match e with
  | .normal=>Xo live b w' Q
  | .exit id=>Q (.exit id) w'
  | .ret=>Q .ret w'
 | .cond c a b,w,Q=>brO w c λt w'=>match t with
  |true=>Xo live a w' Q
  |false=>Xo live b w' Q
 | .block id c,w,Q=>Xo live c w λe w'=>match e with
  | .normal=>Q .normal w'
  | .exit CG=>if CG=id then Q .normal w' else Q (.exit CG) w'
  | .ret=>Q .ret w'
 | .loop c,w,Q=>
  iS (w.st.clean (live (Ce c))) λs0=>di (Hj (stays live c) 0 s0.tmps) λfx=>iS (s0.mask fx) λm=>
  ta (Sk T.parts s0.tmps) s0 (Bt (V:=stV m) (λv k=>iS ((St.oJ fx s0 (cO m v)).whole (Sk T.parts s0.tmps)) λsb=>Xo live c ⟨[],sb⟩ λe w'=>match e with
   | .normal=>iS (w'.st.clean (live (Ce c))) λs1=>ta (Sk T.parts s0.tmps) s1 (Dy (cP m (s1.mask fx)) k)
   | .exit id=>Q (.exit id) w'
   | .ret=>Q .ret w') (AW m))
 | .exit id,w,Q=>Q (.exit id) w
 | .ret,w,Q=>Q .ret w
 |_,_,_=>False
def SH (s:Spec) (fn:Func) (P:s.res.den->Prop) (st:St):Prop:=
 Dy (gp T s fn st) λp=>match p.1||!s.fresh with|true=>P p.2|false=>False
def cb (st:St) (K:Prop):List AC->List (Bool×CK)->Prop
 | .own l off len::as,(true,_)::r=>match st.at l with
  |some (.arr _ _ _ _ xs)=>(off=0/\len=xs.length)/\cb st K as r
  |some (.Df _ _ xs)=>(off=0/\len=xs.length)/\cb st K as r
  |_=>False
 |_::as,(false,_)::r=>cb st K as r
 |_,_=>K
def ji (st:St):(cs:List CK)->List AC->(CKs.den cs->List Nat->Prop)->Prop
 | [],[],K=>K () []
 | .Ak e te _::r, .own l off len::as,K=>match st.at l with
  |some (.Ak e' Kz rows none _)=>if h:e'=e/\Kz=te then (off=0/\len=rows.length)/\ji st r as λy t=>K ((h.1▸rows:List (List e.den)),y) (l::t) else False
  |_=>False
 |c::r,a::as,K=>Dy (dK st c a) λp=>ji st r as λy t=>K (p.1,y) (p.2++t)
 |_,_,_=>False
def s5 (st:St) (n:Nat) (as:List AC):List (Nat×Nat)->Prop->Prop
 | [],K=>K
 |(k,j)::r,K=>match as[j]? with
  |some (.own l _ _)=>match st.at l with
   |some (.Ak _ _ _ _ (some p))=>match Nat.beq p.1 (Bo false k)&&Nat.blt k 1000 with
    |true=>n<=p.2/\s5 st n as r K
    |false=>False
   |_=>False
  |_=>False
def nk (s:MSpec) (fn:Func) (x:Ins.den s.ins) (st:St) (cs:List AC) (P:CKs.den s.outs×IOs.den s.ins->Prop):Prop:=
 Dy (Xc T st fn.results.toList) λl=>Dy (yP s st l) λp=>ji st s.outs (cs++p.1) λr ls=>Dy (Jd st 0 s.ins) λo=>
  match Sn (p.2++ls++Jw 0 s.ins)&&Nat.blt s.ins.length 1000&&Nat.blt s.outs.length 1000&&s.IZ with
  |true=>s5 st (s.Cs x) (cs++p.1) s.keeps (P (r,o))
  |false=>False
def AS (s:MSpec) (fn:Func) (x:Ins.den s.ins) (st:St) (P:CKs.den s.outs×IOs.den s.ins->Prop):Prop:=
 match s.ptr with
 |none=>nk T s fn x st [] P
 |some p=>match st.at Lm with
  |some (.var tid vs)=>match Nat.beq tid p.1&&Nat.beq vs.length p.2 with
   |true=>Dy (Ev 0 s.ins vs) λcs=>cb st (nk T s fn x st cs P) vs s.ins
   |false=>False
  |_=>False
@[irreducible] def fnMW (s:MSpec) (fn:Func) (x:Ins.den s.ins) (P:CKs.den s.outs×IOs.den s.ins->Prop):Prop:=
 match Nat.blt s.ins.length 1000&&sD s with
 |false=>False
 |true=>Dy fn.body λc=>Xo T Γ (sa T.marks fn c) c {kn:= [],st:= {tmps:=Su s (Us 0 s.ins x)++List.replicate (fn.ntmps-(Su s (Us 0 s.ins x)).length) .undef,heap:=kc s x} } λe w=>match e with
  | .normal=>AS T s fn x w.st P
  | .ret=>AS T s fn x w.st P
  | .exit _=>False
@[irreducible] def fnW (s:Spec) (fn:Func) (x:s.arg.den) (P:s.res.den->Prop):Prop:=
 Dy fn.body λc=>Xo T Γ (sa T.marks fn c) c {kn:= [],st:= {tmps:=Me s.arg x++List.replicate (fn.ntmps-(Me s.arg x).length) .undef,heap:= []} } λe w=>match e with
  | .normal=>SH T s fn P w.st
  | .ret=>SH T s fn P w.st
  | .exit _=>False
end Go.Proofs.Ytjbdmibbbpdnnaa
