/-
  Part 31 of the proof that the statement FnExactLowerBounds holds.
-/
import Derived.Test.YtfolipnappekaaaGreatCLowerBounds29
namespace Go.Proofs.YtfolipnappekaaaGreat
open Go.RowKit
inductive Br (b:Bool) (A B:Prop):Prop
 |mk (t:b=true->A) (f:b=false->B)
inductive Bk {V:Type} (step:V->(V->Prop)->Prop) (v0:V):Prop
 |mk (I:V->Prop) (μ:V->Nat) (h0:I v0) (h: ∀v,I v->step v (λv'=>I v'/\μ v'<μ v))
structure WS where
 kn:List (Nat×Bool)
 st:St
def qE:List (Nat×Bool)->Nat->Option Bool
 | [],_=>none
 |(k,b)::r,t=>if k=t then some b else qE r t
def sF:List (Nat×Bool)->Nat->List (Nat×Bool)
 | [],_=> []
 |(k,b)::r,t=>if k=t then sF r t else (k,b)::sF r t
def WS.put (w:WS) (dst:Option Tmp) (v:AV):WS:=
 match dst with
 |some d=> {kn:=sF w.kn d,st:=w.st.put (some d) v}
 |none=>w
def Pr (kn:List (Nat×Bool)):Operand->Option Bool
 | .const (.bool b)=>some b
 | .tmp t=>qE kn t
 |_=>none
def Dp (kn:List (Nat×Bool)) (o:Oper):Option Bool:=
 match o.op with
 | .assign x=>Pr kn x
 | .move x=>Pr kn x
 | .unOp .not _ x=>(Pr kn x).map (!·)
 | .pick c a b=>match Pr kn c with
  |some true=>Pr kn a
  |some false=>Pr kn b
  |none=>none
 |_=>none
def WS.qZ (w:WS) (o:Oper) (v:AV):WS:=
 match o.dst,Dp w.kn o with
 |some d,some b=>match (w.st.put (some d) v).get d with
  | .at (.data _ .bool _)=> {kn:=(d,b)::sF w.kn d,st:=w.st.put (some d) v}
  |_=>w.put (some d) v
 |dst,_=>w.put dst v
def WS.to (w:WS) (st:St):WS:= {kn:=w.kn,st:=st}
def brT (w:WS) (t:Nat) (K:Bool->WS->Prop):Prop:=
 match qE w.kn t with
 |some b=>K b w
 |none=>match w.st.get t with
  | .at (.data _ .bool b)=>Br b (K true {kn:=(t,true)::w.kn,st:=w.st}) (K false {kn:=(t,false)::w.kn,st:=w.st})
  |_=>False
def brO (w:WS) (c:Operand) (K:Bool->WS->Prop):Prop:=
 match c with
 | .tmp t=>brT w t K
 | .const (.bool b)=>K b w
 |_=>False
def Ec {α:Type} (o:Option α) (K:α->Prop):Prop:=match o with|some x=>K x|none=>False
def Aah (T:Tab) (st:St) (t:TypeId) (x:AV) (l h:Int):Option AV:=
 match x with
 | .at (.data fr (.slice e) xs)=>if (T.elem t).bind T.ty=some e then some (.at (.data fr (.slice e) ((xs.take h.toNat).drop l.toNat))) else none
 | .at (.own k off _)=>match st.at k with
  |some (.arr _ _ e tid _)=>if T.elem t=some tid/\T.ty tid=some e then some (.at (.own k (off+l.toNat) (h.toNat-l.toNat))) else none
  |_=>none
 | .at (.data _ .str s)=>if T.ty t=some .str then some (.at (.data true .str (s.extract l.toNat h.toNat))) else none
 |_=>none
variable (T:Tab) (Γ:Env)
def XE (op:BinOp) (t:TypeId) (x y:AV) (K:AV->Prop):Prop:=
 match op,x,y with
 | .quo, .at (.data _ (.int k) a), .at (.data _ (.int k') b)=>if k=k' then b≠0/\K (.at (.data true (.int k) (k.wrap (a.tdiv b)))) else False
 | .rem, .at (.data _ (.int k) a), .at (.data _ (.int k') b)=>if k=k' then b≠0/\K (.at (.data true (.int k) (a.tmod b))) else False
 | .shl, .at (.data _ (.int k) a), .at (.data _ (.int _) b)=> ¬b<0/\K (.at (.data true (.int k) (k.wrap (a*2^(min b.toNat k.bits)))))
 | .shr, .at (.data _ (.int k) a), .at (.data _ (.int _) b)=> ¬b<0/\K (.at (.data true (.int k) (a.fdiv (2^(min b.toNat k.bits)))))
 | .add, .at (.data _ .str a), .at (.data _ .str b)=>a.size+b.size<=4294967296/\K (.at (.data true .str (a++b)))
 |op,x,y=>Ec (Nj T op t x y) K
def NU (st:St) (t:TypeId) (p:AV) (K:AV->Prop):Prop:=
 match p with
 | .at (.Fu l i)=>Ec (T.ty t) λτ=>match st.at l with
  |some (.arr fr _ e _ xs)=>if e=τ then ∃x,xs[i]?=some x/\K (.at (.data (fr||e.flat) e x)) else False
  |some (.Dc e _ xs)=>if e=τ then ∃x,xs[i]?=some x/\K (if e.Ab then .agg (bp l i 0 e x) else .at ((bp l i 0 e x).headD .undef)) else False
  |some (.Aj _ _ _ none _)=>if τ.Ab then False else K (.at (.sub l i 0))
  |_=>False
 | .at (.data fr (.optr Jc) x)=>Ec (T.ty t) λτ=>if Jc=τ then ∃y,x=some y/\K (.at (.data (fr||Jc.flat) Jc y)) else False
 |p=>Ec (Kp T st t p) K
def gm (s:TypeId) (x:AV) (f:Nat) (K:AV->Prop):Prop:=
 match x with
 | .at (.data fr (.optr τ) x)=> ∃y,x=some y/\Ec (Iw T s (.at (.data fr (.ptr τ) y)) f) K
 |x=>Ec (Iw T s x f) K
def sN (st:St) (x:Operand) (K:AV->Prop) (d:Option AV):Prop:=
 match st.ev x with
 | .at (.data fr (.optr τ) x)=> ∃y,x=some y/\K (.at (.data fr (.ptr τ) y))
 |_=>Ec d K
def DD (st:St) (t:TypeId) (x:AV) (lo hi:Option AV) (K:AV->Prop):Prop:=
 Ec (xN x) λn=>Ec (LC lo 0) λl=>Ec (LC hi n) λh=>(0<=l/\l<=h/\h<=n)/\Ec (Aah T st t x l h) K
def gB (st:St) (t:TypeId) (x i:AV) (K:AV->Prop):Prop:=
 match x,i with
 | .at (.data fr (.slice e) xs), .at (.data _ (.int _) n)=>if (T.elem t).bind T.ty=some e then ∃x,idx xs n=some x/\K (.at (.data fr (.ptr e) x)) else False
 | .at (.own l off len), .at (.data _ (.int _) n)=>match st.at l with
  |some (.arr _ _ e tid _)=>if T.elem t=some tid/\T.ty tid=some e then (0<=n/\n<len)/\K (.at (.Fu l (off+n.toNat))) else False
  |some (.Dc e tid _)=>if T.elem t=some tid/\T.ty tid=some e then (0<=n/\n<len)/\K (.at (.Fu l (off+n.toNat))) else False
  |some (.Aj _ te _ _ _)=>if T.elem t=some te/\(T.ty te).map Ty.size=some 1 then (0<=n/\n<len)/\K (.at (.Fu l (off+n.toNat))) else False
  |_=>False
 | .at (.sub l i _), .at (.data _ (.int _) n)=>match st.at l with
  |some (.Aj e _ rows none _)=>if ((T.elem t).bind T.ty).map Ty.size=some e.size then (0<=n/\n<(rows.getD i []).length)/\K (.at (.Fp l i n.toNat)) else False
  |_=>False
 |_,_=>False
def BC (t:TypeId) (x i:AV) (K:AV->Prop):Prop:=
 match x,i with
 | .at (.data _ .str s), .at (.data _ (.int _) n)=>if T.ty t=some .str then 0<=n/\ ∃b,s[n.toNat]?=some b/\K (.at (.data true (.int .u8) b.toNat)) else False
 |_,_=>False
def sd (st:St) (f:FuncId) (args:List AV) (K:AV->Prop):Prop:=
 Ec (match Γ f with|some (.q s)=>some s|_=>none) λs=>match s.fresh||s.res.flat||args.all (·.settled) with
  |true=>Ec (Bq st s.arg args) λp=> ∃y,s.fn p.2=some y/\K (if s.Dn then .Vl (s.fresh||s.res.flat) s.res y else .at (.data (s.fresh||s.res.flat) s.res y))
  |false=>False
def zV (st:St) (v:AV) (args:List AV) (K:AV->Prop):Prop:=
 match v with
 | .at (.data fr (.clo f τ) x)=>match τ.chain with|true=>(match Nat.blt f 1000000000 with|true=>sd Γ st f (args++Vr fr τ x) K|false=>sd Γ st (f-1000000000) (Vr fr τ x++args) K)|false=>False
 | .at (.clo f Bv)=>sd Γ st f (args++Bv.map λp=> .at (.Dv p.1 p.2)) K
 |_=>False
def qW (w:WS) (o:Oper) (K:AV->WS->Prop):Prop:=
 match o.op with
 | .pick c a b=>brO w c λt w'=>match t with|true=>K (w'.st.ev a) w'|false=>K (w'.st.ev b) w'
 | .load t a=>NU T w.st t (w.st.ev a) λv=>K v w
 | .binOp op t x y _=>XE T op t (w.st.ev x) (w.st.ev y) λv=>K v w
 | .slice t x lo hi mx=>match mx with
  |none=>DD T w.st t (w.st.ev x) (lo.map w.st.ev) (hi.map w.st.ev) λv=>K v w
  |some _=>False
 | .indexAddr t x i=>gB T w.st t (kC (w.st.ev x)) (w.st.ev i) λv=>K v w
 | .index t x i=>BC T t (w.st.ev x) (w.st.ev i) λv=>K v w
 | .call {callee:= .value (.func f),args, .. } =>sd Γ w.st f (args.toList.map w.st.ev) λv=>K v w
 | .call {callee:= .value (.tmp t),args, .. } =>zV Γ w.st (w.st.get t) (args.toList.map w.st.ev) λv=>K v w
 | .fieldAddr s x f=>gm T s (w.st.ev x) f λv=>K v w
 | .nilCheck x=>sN w.st x (λv=>K v w) (Ci T Γ w.st o)
 |_=>Ec (Ci T Γ w.st o) λv=>K v w
def DS (st:St) (t:TypeId) (p v:AV) (K:St->Prop):Prop:=
 match p with
 | .at (.Fu l j)=>Ec (T.ty t) λτ=>Ec (settle st v) λq=>match q.2.at l with
  |some (.arr fr tr e tid xs)=>Ec (Ct q.2 τ q.1) λu=>if h:τ=e then j<xs.length/\K (q.2.Fo l (.arr (fr&&u.1) (tr&&(Nd st v&&e.tree)) e tid (xs.set j (h▸u.2)))) else False
  |_=>False
 |p=>Ec (Oi T st t p v) K
def GK (st:St) (t:TypeId) (p v:AV) (K:St->Prop):Prop:=
 match p with
 | .at (.Fp l i j)=>Ec (T.ty t) λτ=>Ec (settle st v) λq=>match q.2.at l with
  |some (.Aj e te rows none kp)=>Ec (Ct q.2 τ q.1) λu=>if h:τ=e then K (q.2.Fo l (.Aj e te (rows.set i ((rows.getD i []).set j (h▸u.2))) none kp)) else False
  |_=>False
 | .at (.Fu l j)=>Ec (T.ty t) λτ=>match st.at l,v with
  |some (.Aj e te rows out kp), .at (.own m off len)=>match st.at m with
   |some (.arr _ _ e' _ xs)=>if h:e'=e/\(Nat.blt l Ak&&(!Nat.beq m l&&!τ.Ab))=true then
     off=0/\len=xs.length/\(match out with|none=>True|some i=>i=j)/\K (Ni st l j m e te rows (h.1▸xs) (We j kp))
    else False
   |_=>False
  |_,_=>False
 |_=>False
def vM (st:St) (t:TypeId) (p v:AV) (K:St->Prop):Prop:=match FJ st p with
 |true=>GK T st t p v K
 |false=>DS T st t p v K
def ie (st:St) (dst:Nat) (t:TypeId) (x y:Operand) (K:AV->St->Prop):Prop:=
 Ec (T.elem t) λte=>Ec (T.ty te) λe=>Ec (settle st (st.ev y)) λq=>Ec (Ct q.2 (.slice e) q.1) λu=>match q.2.ev x with
  | .at .Hp=>match Nat.blt dst Ak with
   |true=>List.length u.2<=Bh/\K (.at (.own dst 0 (List.length u.2))) ((q.2.new dst (.arr (T.nX||e.flat) T.vY e te [])).new dst (.arr ((T.nX||e.flat)&&(u.1||e.flat)) (T.vY&&(e.flat||(Nd st (st.ev y)&&e.tree))) e te u.2))
   |false=>False
  | .at (.own l off len)=>match q.2.at l with
   |some (.arr fr tr e' tid xs)=>if h:e'=e/\tid=te/\Nat.blt l Ak=true then
     off=0/\len=xs.length/\len+List.length u.2<=Bh/\K (.at (.own l 0 (List.length ((h.1▸xs:List e.den)++u.2)))) (q.2.new l (.arr (fr&&(u.1||e.flat)) (tr&&(e.flat||(Nd st (st.ev y)&&e.tree))) e te ((h.1▸xs:List e.den)++u.2)))
    else False
   |_=>False
  |_=>False
def nw (st:St) (dst:Nat) (t:TypeId) (x y:Operand) (K:AV->St->Prop):Prop:=
 match x with
 | .tmp tx=>match st.get tx with
  | .at (.sub l i _)=>Ec (T.elem t) λtid=>match st.at l with
   |some (.Aj e te rows none kp)=>match Nat.blt l Ak&&(Nat.blt dst Ak&&!Nat.beq dst l) with
    |true=>ie T ((Ko st l i dst e te tid rows kp).put (some tx) (.at (.own dst 0 (rows.getD i []).length))) dst t x y K
    |false=>False
   |_=>False
  |_=>ie T st dst t x y K
 |_=>ie T st dst t x y K
def NZ (st:St) (dst:Nat) (t:TypeId) (l c:AV) (K:AV->St->Prop):Prop:=
 match l,c with
 | .at (.data _ (.int _) n), .at (.data _ (.int _) m)=>Ec (T.elem t) λte=>Ec (T.ty te) λe=>match bz e&&Nat.blt dst Ak with
  |true=>(0<=n/\n<Bh+1)/\n=m/\K (.at (.own dst 0 (List.replicate n.toNat e.zero).length)) (st.new dst (.arr (T.nX||e.flat) (T.vY&&e.tree) e te (List.replicate n.toNat e.zero)))
  |false=>False
 |_,_=>False
def BO (st:St) (dst:Nat) (t:TypeId) (l c:AV) (K:AV->St->Prop):Prop:=
 match Zl T t with
 |none=>NZ T st dst t l c K
 |some p=>match l,c with
  | .at (.data _ (.int _) n), .at (.data _ (.int _) m)=>match Nat.blt dst Ak with
   |true=>(0<=n/\n<Bh+1)/\n=m/\K (.at (.own dst 0 (List.replicate n.toNat ([]:List p.2.den)).length)) (Le st dst dst (.Aj p.2 p.1 (List.replicate n.toNat []) none none))
   |false=>False
  |_,_=>False
def aC (st:St) (dst:Nat) (t:TypeId) (len:Nat) (parts:Array (Nat×Operand)) (K:AV->St->Prop):Prop:=
 match Zl T t with
 |none=>Ec (Hs T st dst t len parts) λr=>K r.1 r.2
 |some p=>match parts.toList with
  | [(0,x)]=>match st.ev x with
   | .at (.own m off ln)=>match st.at m with
    |some (.arr _ _ e' _ xs)=>if h:e'=p.2/\(Nat.beq len 1&&(Nat.blt dst Ak&&Nat.blt m Ak))=true then off=0/\ln=xs.length/\K (.at (.own dst 0 1)) (Le st dst m (.Aj p.2 p.1 [h.1▸xs] none none)) else False
    |_=>False
   |_=>False
  |_=>False
def nz (st:St) (dst:Nat) (t:TypeId) (x y:Operand) (K:AV->St->Prop):Prop:=
 match Zl T t with
 |none=>nw T st dst t x y K
 |some p=>match st.ev x,st.ev y with
  | .at (.own l off len), .at (.own m OH oA)=>match st.at l,st.at m with
   |some (.Aj e1 te1 A none _),some (.Aj e2 rE B none _)=>
    if h:(e1=p.2/\e2=p.2)/\(decide (te1=p.1)&&decide (rE=p.1)&&(Nat.blt l Ak&&(Nat.blt m Ak&&!Nat.beq m l)))=true then
     (off=0/\len=A.length)/\(OH=0/\oA=B.length)/\0<B.length/\A.length+B.length<=Bh/\
      K (.at (.own l 0 (List.length ((h.1.1▸A:List (List p.2.den))++(h.1.2▸B:List (List p.2.den)))))) (Le st l m (.Aj p.2 p.1 ((h.1.1▸A:List (List p.2.den))++(h.1.2▸B:List (List p.2.den))) none none))
    else False
   |_,_=>False
  |_,_=>False
def br (st:St) (io:Bool) (k:Nat):(c:CK)->AC->(c.den->List (Nat×Loc)->Prop)->Prop
 | .Dh τ, .own l off len,K=>Ec (Bn st τ (.own l off len)) λp=>K p.2 [(Bl false k, .view l)]
 | .Dh τ, .clo g Bv,K=>match Wt st (Bv.map (·.1))&&!τ.Ab with
  |true=>Ec (Fl st τ (.clo g Bv)) λp=>K p.2 (views k (Bv.map (·.1)))
  |false=>False
 | .Dh τ, .Dv l i,K=>match Wt st [l]&&!τ.Ab with
  |true=>Ec (Fl st τ (.Dv l i)) λp=>K p.2 (views k [l])
  |false=>False
 | .Dh τ, .sub l i c,K=>Ec (Bn st τ (.sub l i c)) λp=>K p.2 [(Bl false k, .view l)]
 | .Dh τ,a,K=>match τ.flat||a.settled with
  |true=>Ec (Bn st τ a) λp=>K p.2 []
  |false=>False
 | .row e te, .own l off len,K=>match st.at l with
  |some (.arr _ _ e' Li xs)=>if h:e'=e/\Li=te then off=0/\len=xs.length/\K (h.1▸xs:List e.den) [(Bl io k, .row l)] else False
  |_=>False
 | .row e _, .sub l i c,K=>match st.at l with
  |some (.Dc e' _ xs)=>if h:e'= .slice e/\e.flat=true/\io=true/\c=0 then ∃y,xs[i]?=some y/\K (h.1▸y:(Ty.slice e).den) [(Bl io k, .sub l i c)] else False
  |_=>False
 | .row _ _, .Hp,K=>K [] []
 | .Ds e te, .own l off len,K=>match st.at l with
  |some (.Dc e' Li xs)=>if h:e'=e/\Li=te then off=0/\len=xs.length/\K (h.1▸xs:List e.den) [(Bl io k, .row l)] else False
  |_=>False
 | .Ds e _, .sub l i c,K=>match st.at l with
  |some (.Dc e' _ xs)=>if h:e'= .slice e/\io=true/\c=0 then ∃y,xs[i]?=some y/\K (h.1▸y:(Ty.slice e).den) [(Bl io k, .sub l i c)] else False
  |_=>False
 | .Ds _ _, .Hp,K=>K [] []
 | .part e te, .own l off len,K=>match st.at l with
  |some (.arr _ _ e' Li xs)=>if h:e'=e/\Li=te/\e.flat=true/\io=true then K ((h.1▸xs:List e.den),off,len) [(Bl io k, .row l)] else False
  |_=>False
 | .Aj e te _, .own l off len,K=>match st.at l with
  |some (.Aj e' Li rows none _)=>if h:e'=e/\Li=te/\io=false then off=0/\len=rows.length/\K (h.1▸rows:List (List e.den)) [(Bl io k, .row l)] else False
  |_=>False
 |_,_,_=>False
def vX (st:St):(k:Nat)->(cs:List (Bool×CK))->List AC->(Ins.den cs->List (Nat×Loc)->Prop)->Prop
 |_,[],[],K=>K () []
 |k,p::r,a::as,K=>br st p.1 k p.2 a λx t1=>vX st (k+1) r as λy t2=>K (x,y) (t1++t2)
 |_,_,_,_=>False
def lL (st:St):(c:CK)->c.den->AC->(St->Prop)->Prop
 | .row e _,ys, .own l _ len,K=>match st.at l with
  |some (.arr fr tr e' te xs)=>if h:e=e' then (List.length ys=len/\xs.length=len)/\K (st.Fo l (.arr (fr&&e'.flat) (tr&&e'.flat) e' te (h▸ys))) else False
  |_=>False
 | .Ds e _,ys, .own l _ len,K=>match st.at l with
  |some (.Dc e' te xs)=>if h:e=e' then (List.length ys=len/\xs.length=len)/\K (st.Fo l (.Dc e' te (h▸ys))) else False
  |_=>False
 | .row e _,ys, .sub l i _,K=>match st.at l with
  |some (.Dc e' te xs)=>if h: .slice e=e' then ∃y,xs[i]?=some y/\List.length ys=List.length (h▸y:(Ty.slice e).den)/\K (st.Fo l (.Dc e' te (xs.set i (h▸(ys:(Ty.slice e).den))))) else False
  |_=>False
 | .Ds e _,ys, .sub l i _,K=>match st.at l with
  |some (.Dc e' te xs)=>if h: .slice e=e' then ∃y,xs[i]?=some y/\List.length ys=List.length (h▸y:(Ty.slice e).den)/\K (st.Fo l (.Dc e' te (xs.set i (h▸(ys:(Ty.slice e).den))))) else False
  |_=>False
 |_,_, .Hp,K=>K st
 |_,_,_,_=>False
def OX (st:St) (e:Ty) (ys:List e.den):AC->(St->Prop)->Prop
 | .own l _ _,K=>match st.at l with
  |some (.arr fr tr e' te xs)=>if h:e=e' then List.length ys=xs.length/\K (st.Fo l (.arr fr tr e' te (h▸ys))) else False
  |_=>False
 |_,_=>False
def dt:(cs:List (Bool×CK))->IOs.den cs->List AC->St->(St->Prop)->Prop
 | [],_,_,st,K=>K st
 |(true, .Dh _)::r,x,_::as,st,K=>dt r x as st K
 |(true, .row e te)::r,x,a::as,st,K=>lL st (.row e te) x.1 a λst'=>dt r x.2 as st' K
 |(true, .Ds e te)::r,x,a::as,st,K=>lL st (.Ds e te) x.1 a λst'=>dt r x.2 as st' K
 |(true, .part e _)::r,x,a::as,st,K=>OX st e x.1 a λst'=>dt r x.2 as st' K
 |(true, .Aj _ _ _)::r,x,_::as,st,K=>dt r x as st K
 |(false,_)::r,x,_::as,st,K=>dt r x as st K
 |_,_,_,_,_=>False
def pN (H:List (Nat×OB)) (ls:List Nat) (n:Nat):List AV->Prop->Prop
 | [],K=>K
 | .at (.sub l i _)::r,K=>match ls.contains l with
  |true=>(i<n/\i<mT H l)/\pN H ls n r K
  |false=>pN H ls n r K
 |_::r,K=>pN H ls n r K
def zU (st:St) (dst:Option Nat) (s:MSpec) (args:List AV) (K:AV->St->Prop):Prop:=
 Ec (GF st s args) λq=>Ec (ungroup s.Fk q.2.2) λjE=>vX st 0 s.ins (q.2.1++jE) λx tks=>
  match To (tks.map λt=>t.2.Qc)&&uy (Md s tks (dst.getD 0)) (s.outs.length+(gM s (dst.getD 0)).length)&&Nat.blt s.outs.length 1000&&Nat.blt s.ins.length 1000&&(Po s.ins q.2.1&&q.1.all λl=>!((tks.map λt=>t.2.Qc)++Md s tks (dst.getD 0)).contains l) with
  |true=> ∃p,s.fn x=some p/\dt s.ins p.2 (q.2.1++jE) st λst1=>Ec (TO s (dst.getD 0) ((Wi (Bt (Md s tks (dst.getD 0))) 0 s.outs p.1).drop s.Sy)) λv=>
    pN (ga st st1 (dst.getD 0) s q.1 tks p.1).heap (Wd st.heap (Md s tks (dst.getD 0)) tks s.keeps) (s.Ch x) st.tmps
     (K v (gC st (ga st st1 (dst.getD 0) s q.1 tks p.1) (Wd st.heap (Md s tks (dst.getD 0)) tks s.keeps) (s.Ch x)))
  |false=>False
def WL (w:WS) (o:Oper) (K:AV->WS->Prop):Prop:=
 match o.op with
 | .store t p x=>vM T w.st t (w.st.ev p) (w.st.ev x) λs=>K .undef (w.to s)
 | .makeSlice t l c=>Ec o.dst λd=>BO T w.st d t (w.st.ev l) (w.st.ev c) λv s=>K v (w.to s)
 | .call {callee:= .builtin .append,args,argTypes} =>match o.dst,args.toList,argTypes.toList with
  |some d,[x,y],[t,t']=>if t=t' then nz T w.st d t x y λv s=>K v (w.to s) else False
  |_,_,_=>False
 | .assign _=>Ec (evalOp T Γ w.st o) λr=>K r.1 (w.to r.2)
 | .alloc _=>Ec (evalOp T Γ w.st o) λr=>K r.1 (w.to r.2)
 | .box _ _=>Ec (evalOp T Γ w.st o) λr=>K r.1 (w.to r.2)
 | .buildSlice t len parts=>Ec o.dst λd=>aC T w.st d t len parts λv s=>K v (w.to s)
 | .build _ _=>Ec (evalOp T Γ w.st o) λr=>K r.1 (w.to r.2)
 | .makeMap _ _=>Ec (evalOp T Γ w.st o) λr=>K r.1 (w.to r.2)
 | .mapUpdate _ _ _ _=>Ec (evalOp T Γ w.st o) λr=>K r.1 (w.to r.2)
 | .insert _ _ _ _=>Ec (evalOp T Γ w.st o) λr=>K r.1 (w.to r.2)
 | .call {callee:= .builtin .copy, .. } =>Ec (evalOp T Γ w.st o) λr=>K r.1 (w.to r.2)
 | .call {callee:= .builtin .clear, .. } =>Ec (evalOp T Γ w.st o) λr=>K r.1 (w.to r.2)
 | .call {callee:= .value (.func f),args, .. } =>match Γ f with
  |some (.m s)=>zU w.st o.dst s (args.toList.map w.st.ev) λv s'=>K v (w.to s')
  |some (.q s)=>match aT s (args.toList.map w.st.ev) with
   |true=>Ec (Jq args.toList w.st) λst1=>qW T Γ (w.to st1) o K
   |false=>qW T Γ w o K
  |_=>qW T Γ w o K
 |_=>qW T Γ w o K
def AV.NP:AV->Bool
 | .at .skip=>true
 |_=>false
def bW (w:WS) (o:Oper) (K:AV->WS->Prop):Prop:=
 match o.op with
 | .buildSlice t len parts=>Ec (Vs T w.st t len parts) λv=>K v w
 | .build t parts=>Ec (Qo T w.st t parts) λv=>K v w
 |_=>qW T Γ w o K
def fJ (ops:Array Oper) (w:WS) (o:Oper) (run:(AV->WS->Prop)->WS->Prop) (K:WS->Prop):Prop:=
 match o.guard with
 |none=>run (λv w'=>K (w'.qZ o v)) w
 |some (j,want)=>Ec ((ops[j]?).bind (·.dst)) λt=>match (w.st.get t).NP with
  |true=>K (w.put o.dst (.at .skip))
  |false=>brT w t λb w'=>match b,want with
   |true,true=>run (λv pZ=>K (pZ.qZ o v)) w'
   |false,false=>run (λv pZ=>K (pZ.qZ o v)) w'
   |_,_=>K (w'.put o.dst (.at .skip))
def ZZ (ops:Array Oper):List Oper->WS->(WS->Prop)->Prop
 | [],w,K=>K w
 |o::r,w,K=>fJ ops w o (λk w'=>WL T Γ w' o k) λw'=>ZZ ops r w' K
def NH (ops:Array Oper):List Nat->WS->(WS->Prop)->Prop
 | [],w,K=>K w
 |i::r,w,K=>Ec ops[i]? λo=>fJ ops w o (λk w'=>WL T Γ w' o k) λw'=>NH ops r w' K
def sq (ops:Array Oper):List Nat->WS->(WS->Prop)->Prop
 | [],w,K=>K w
 |i::r,w,K=>Ec ops[i]? λo=>fJ ops w o (λk w'=>bW T Γ w' o k) λw'=>sq ops r w' K
def RS:List Nat->(Nat->Prop)->Prop
 | [],_=>True
 | [i],P=>P i
 |i::j::r,P=>P i/\RS (j::r) P
def GU (ops:Array Oper):Nat->Array Bool->WS->(WS->Prop)->Prop
 |0,Ac,w,K=>match Region.ready .any ops Ac with
  | []=>K w
  |_::_=>False
 |f+1,Ac,w,K=>match Region.ready .any ops Ac with
  | []=>False
  |i::r=>RS (i::r) λk=>Ec ops[k]? λo=>fJ ops w o (λkk w'=>WL T Γ w' o kk) λw'=>GU ops f (Ac.setIfInBounds k true) w' K
def acV:AC->Type->Type
 | .data _ τ _,R=>τ.den×R
 | .sub _ _ _,R=>Nat×R
 | .Fu _ _,R=>Nat×R
 | .Fp _ _ _,R=>Nat×Nat×R
 |_,R=>R
def zK:List AC->Type->Type
 | [],R=>R
 |c::r,R=>acV c (zK r R)
def avV:AV->Type->Type
 | .at a,R=>acV a R
 | .agg cs,R=>zK cs R
 | .Vl _ τ _,R=>τ.den×R
 | .Ib _,R=>R
def obV:OB->Type->Type
 | .arr _ _ e _ _,R=>List e.den×R
 | .Dc e _ _,R=>List e.den×R
 | .var _ vs,R=>zK vs R
 | .Aj e _ _ _ none,R=>List (List e.den)×R
 | .Aj e _ _ _ (some _),R=>List (List e.den)×(Nat×R)
 | .Pb v _,R=>(ByteArray->Option v.den)×R
def lY:List AV->Type->Type
 | [],R=>R
 |v::r,R=>avV v (lY r R)
def sr:List (Nat×OB)->Type->Type
 | [],R=>R
 |p::r,R=>obV p.2 (sr r R)
def stV (s:St):Type:=lY s.tmps (sr s.heap Unit)
def ES:(c:AC)-> {R:Type} ->R->acV c R
 | .data _ _ x,_,r=>(x,r)
 | .undef,_,r=>r
 | .skip,_,r=>r
 | .Hp,_,r=>r
 | .Qd,_,r=>r
 | .own _ _ _,_,r=>r
 | .Dv _ _,_,r=>r
 | .Fu _ i,_,r=>(i,r)
 | .clo _ _,_,r=>r
 | .Ga _,_,r=>r
 | .sub _ i _,_,r=>(i,r)
 | .Fp _ i j,_,r=>(i,j,r)
def nq:(l:List AC)-> {R:Type} ->R->zK l R
 | [],_,r=>r
 |c::l,_,r=>ES c (nq l r)
def UO:(c:AV)-> {R:Type} ->R->avV c R
 | .at a,_,r=>ES a r
 | .agg cs,_,r=>nq cs r
 | .Vl _ _ x,_,r=>(x,r)
 | .Ib _,_,r=>r
def WJ:(b:OB)-> {R:Type} ->R->obV b R
 | .arr _ _ _ _ xs,_,r=>(xs,r)
 | .Dc _ _ xs,_,r=>(xs,r)
 | .var _ vs,_,r=>nq vs r
 | .Aj _ _ rows _ none,_,r=>(rows,r)
 | .Aj _ _ rows _ (some p),_,r=>(rows,p.2,r)
 | .Pb _ m,_,r=>(m,r)
def ng:(l:List AV)-> {R:Type} ->R->lY l R
 | [],_,r=>r
 |c::l,_,r=>UO c (ng l r)
def mU:(l:List (Nat×OB))-> {R:Type} ->R->sr l R
 | [],_,r=>r
 |p::l,_,r=>WJ p.2 (mU l r)
def GJ (s:St):stV s:=ng s.tmps (mU s.heap ())
def jM:(c d:AC)-> {R:Type} ->R->Option (acV c R)
 | .data fr τ _, .data Pk Jc x,_,r=>if h:Jc=τ/\Pk=fr then some (h.1▸x,r) else none
 | .undef, .undef,_,r=>some r
 | .skip, .skip,_,r=>some r
 | .Hp, .Hp,_,r=>some r
 | .Qd, .Qd,_,r=>some r
 | .own l _ _, .own l' _ _,_,r=>if l=l' then some r else none
 | .Dv l i, .Dv l' i',_,r=>if l=l'/\i=i' then some r else none
 | .Fu l _, .Fu l' i',_,r=>if l=l' then some (i',r) else none
 | .clo f c, .clo f' c',_,r=>if f=f'/\c=c' then some r else none
 | .Ga l, .Ga l',_,r=>if l=l' then some r else none
 | .sub l _ c, .sub l' i' c',_,r=>if l=l'/\c=c' then some (i',r) else none
 | .Fp l _ _, .Fp l' i' j',_,r=>if l=l' then some (i',j',r) else none
 |_,_,_,_=>none
def Mc:(l m:List AC)-> {R:Type} ->R->Option (zK l R)
 | [],[],_,r=>some r
 |c::l,d::m,_,r=>(Mc l m r).bind λr'=>jM c d r'
 |_,_,_,_=>none
def gh:(c d:AV)-> {R:Type} ->R->Option (avV c R)
 | .at a, .at b,_,r=>jM a b r
 | .agg cs, .agg ds,_,r=>Mc cs ds r
 | .Vl fr τ _, .Vl Pk Jc x,_,r=>if h:Jc=τ/\Pk=fr then some (h.1▸x,r) else none
 |_,_,_,_=>none
def Mw:(b d:OB)-> {R:Type} ->R->Option (obV b R)
 | .arr fr tr e tid _, .arr Pk QI e' Of xs,_,r=>if h:e'=e/\Pk=fr/\QI=tr/\Of=tid then some (h.1▸xs,r) else none
 | .Dc e tid _, .Dc e' Of xs,_,r=>if h:e'=e/\Of=tid then some (h.1▸xs,r) else none
 | .Pb v _, .Pb v' m,_,r=>if h:v'=v then some (h▸m,r) else none
 | .var t vs, .var t' us,_,r=>if t'=t then Mc vs us r else none
 | .Aj e te _ out none, .Aj e' Li rows cc none,_,r=>if h:e'=e/\Li=te/\cc=out then some (h.1▸rows,r) else none
 | .Aj e te _ out (some p), .Aj e' Li rows cc (some p'),_,r=>if h:e'=e/\Li=te/\cc=out/\p'.1=p.1 then some (h.1▸rows,p'.2,r) else none
 |_,_,_,_=>none
def Jr:(l m:List AV)-> {R:Type} ->R->Option (lY l R)
 | [],[],_,r=>some r
 |c::l,d::m,_,r=>(Jr l m r).bind λr'=>gh c d r'
 |_,_,_,_=>none
def Kq:(l m:List (Nat×OB))-> {R:Type} ->R->Option (sr l R)
 | [],[],_,r=>some r
 |p::l,q::m,_,r=>if q.1=p.1 then (Kq l m r).bind λr'=>Mw p.2 q.2 r' else none
 |_,_,_,_=>none
def dJ (s t:St):Option (stV s):=(Kq s.heap t.heap ()).bind λr=>Jr s.tmps t.tmps r
def fY:(c:AC)-> {R:Type} ->acV c R->AC×R
 | .data fr τ _,_,v=>(.data fr τ v.1,v.2)
 | .undef,_,r=>(.undef,r)
 | .skip,_,r=>(.skip,r)
 | .Hp,_,r=>(.Hp,r)
 | .Qd,_,r=>(.Qd,r)
 | .own l off len,_,r=>(.own l off len,r)
 | .Dv l i,_,r=>(.Dv l i,r)
 | .Fu l _,_,v=>(.Fu l v.1,v.2)
 | .clo f c,_,r=>(.clo f c,r)
 | .Ga l,_,r=>(.Ga l,r)
 | .sub l _ c,_,v=>(.sub l v.1 c,v.2)
 | .Fp l _ _,_,v=>(.Fp l v.1 v.2.1,v.2.2)
def Ud:(l:List AC)-> {R:Type} ->zK l R->List AC×R
 | [],_,r=>([],r)
 |c::l,_,v=>((fY c v).1::(Ud l (fY c v).2).1,(Ud l (fY c v).2).2)
def nC:(c:AV)-> {R:Type} ->avV c R->AV×R
 | .at a,_,v=>(.at (fY a v).1,(fY a v).2)
 | .agg cs,_,v=>(.agg (Ud cs v).1,(Ud cs v).2)
 | .Vl fr τ _,_,v=>(.Vl fr τ v.1,v.2)
 | .Ib l,_,r=>(.Ib l,r)
def oH:(b:OB)-> {R:Type} ->obV b R->OB×R
 | .arr fr tr e tid _,_,v=>(.arr fr tr e tid v.1,v.2)
 | .Dc e tid _,_,v=>(.Dc e tid v.1,v.2)
 | .Pb w _,_,v=>(.Pb w v.1,v.2)
 | .var t vs,_,v=>(.var t (Ud vs v).1,(Ud vs v).2)
 | .Aj e te _ out none,_,v=>(.Aj e te v.1 out none,v.2)
 | .Aj e te _ out (some p),_,v=>(.Aj e te v.1 out (some (p.1,v.2.1)),v.2.2)
def Qa:(l:List AV)-> {R:Type} ->lY l R->List AV×R
 | [],_,r=>([],r)
 |c::l,_,v=>((nC c v).1::(Qa l (nC c v).2).1,(Qa l (nC c v).2).2)
def Zo:(l:List (Nat×OB))-> {R:Type} ->sr l R->List (Nat×OB)×R
 | [],_,r=>([],r)
 |p::l,_,v=>((p.1,(oH p.2 v).1)::(Zo l (oH p.2 v).2).1,(Zo l (oH p.2 v).2).2)
def dI (s:St) (v:stV s):St:= {tmps:=(Qa s.tmps v).1,heap:=(Zo s.heap (Qa s.tmps v).2).1}
def lenOf (H:List (Nat×OB)) (l:Nat):Nat:=match Ad H l with|some (.arr _ _ _ _ xs)=>xs.length|some (.Dc _ _ xs)=>xs.length|some (.Aj _ _ rows _ _)=>rows.length|_=>0
def Ti (ps:List Nat):List AV->List (Nat×Nat×Nat)
 | []=> []
 | .at (.own l off len)::r=>if ps.contains l then (l,off,len)::Ti ps r else Ti ps r
 |_::r=>Ti ps r
def ZX:List (Nat×Nat×Nat)->Nat->Nat
 | [],_=>0
 |(k,o,_)::r,l=>if k=l then o else ZX r l
def HX:List (Nat×Nat×Nat)->List (Nat×OB)->Nat->Nat
 | [],H,l=>lenOf H l
 |(k,_,n)::r,H,l=>if k=l then n else HX r H l
def bw (B:List (Nat×Nat×Nat)) (H:List (Nat×OB)):AC->AC
 | .own l _ _=> .own l (ZX B l) (HX B H l)
 |c=>c
def St.whole (B:List (Nat×Nat×Nat)) (s:St):St:=s.Gj (bw B s.heap)
def tE (B:List (Nat×Nat×Nat)) (H:List (Nat×OB)) (c:AC) (K:Prop):Prop:=match c with
 | .own l off len=>off=ZX B l/\len=HX B H l/\K
 |_=>K
def Yy (B:List (Nat×Nat×Nat)) (H:List (Nat×OB)):List AC->Prop->Prop
 | [],K=>K
 |c::r,K=>tE B H c (Yy B H r K)
def EY (B:List (Nat×Nat×Nat)) (H:List (Nat×OB)) (c:AV) (K:Prop):Prop:=match c with
 | .at a=>tE B H a K
 | .agg cs=>Yy B H cs K
 | .Vl _ _ _=>K
 | .Ib _=>False
def Vk (B:List (Nat×Nat×Nat)) (H:List (Nat×OB)):List AV->Prop->Prop
 | [],K=>K
 |c::r,K=>EY B H c (Vk B H r K)
def eh (B:List (Nat×Nat×Nat)) (H:List (Nat×OB)):List (Nat×OB)->Prop->Prop
 | [],K=>K
 |p::r,K=>match p.2 with
  | .var _ vs=>Yy B H vs (eh B H r K)
  |_=>eh B H r K
def vL (B:List (Nat×Nat×Nat)) (s:St) (K:Prop):Prop:=Vk B s.heap s.tmps (eh B s.heap s.heap K)
def AV.Qw:AV->Bool
 | .at (.data _ _ _)=>true
 |_=>false
def Ht (p:Nat->Bool):Nat->List AV->List Bool
 |_,[]=> []
 |i,v::r=>(v.Qw&&p i)::Ht p (i+1) r
def stays (live:Nat->List Nat) (c:Code) (t:Nat):Bool:=!(writes c).contains t&&Wc live c t
def On:List Bool->List AV->List AV
 |true::f,_::r=> .undef::On f r
 |false::f,v::r=>v::On f r
 |_,l=>l
def Ps:List Bool->List AV->List AV->List AV
 |true::f,a::s,_::r=>a::Ps f s r
 |false::f,_::s,v::r=>v::Ps f s r
 |_,_,l=>l
def St.mask (fx:List Bool) (s:St):St:= {tmps:=On fx s.tmps,heap:=s.heap}
def St.qL (fx:List Bool) (s0 s:St):St:= {tmps:=Ps fx s0.tmps s.tmps,heap:=s.heap}
def mR (c:AC) (k:AC->Prop):Prop:=match c with
 | .undef=>k .undef
 | .skip=>k .skip
 | .Hp=>k .Hp
 | .Qd=>k .Qd
 | .data fr τ x=>match fr with
  |true=>k (.data true τ x)
  |false=>k (.data false τ x)
 | .own l off len=>k (.own l off len)
 | .Dv l i=>k (.Dv l i)
 | .Fu l i=>k (.Fu l i)
 | .clo f c=>k (.clo f c)
 | .Ga l=>k (.Ga l)
 | .sub l i c=>k (.sub l i c)
 | .Fp l i c=>k (.Fp l i c)
def cO:List AC->(List AC->Prop)->Prop
 | [],k=>k []
 |c::r,k=>mR c λc'=>cO r λr'=>k (c'::r')
def u7 (c:AV) (k:AV->Prop):Prop:=match c with
 | .at a=>mR a λa'=>k (.at a')
 | .agg cs=>cO cs λcF=>k (.agg cF)
 | .Vl fr τ x=>k (.Vl fr τ x)
 | .Ib l=>k (.Ib l)
def cP:List AV->(List AV->Prop)->Prop
 | [],k=>k []
 |c::r,k=>u7 c λc'=>cP r λr'=>k (c'::r')
def u9 (b:OB) (k:OB->Prop):Prop:=match b with
 | .arr fr tr e tid xs=>match fr,tr with
  |true,true=>k (.arr true true e tid xs)
  |true,false=>k (.arr true false e tid xs)
  |false,true=>k (.arr false true e tid xs)
  |false,false=>k (.arr false false e tid xs)
 | .Dc e tid xs=>k (.Dc e tid xs)
 | .var t vs=>cO vs λvs'=>k (.var t vs')
 | .Aj e te rows out kp=>match out,kp with
  |none,none=>k (.Aj e te rows none none)
  |none,some (l,n)=>k (.Aj e te rows none (some (l,n)))
  |some i,none=>k (.Aj e te rows (some i) none)
  |some i,some (l,n)=>k (.Aj e te rows (some i) (some (l,n)))
 | .Pb v m=>k (.Pb v m)
def nW:List (Nat×OB)->(List (Nat×OB)->Prop)->Prop
 | [],k=>k []
 |(l,b)::r,k=>u9 b λb'=>nW r λr'=>k ((l,b')::r')
def kb (w:WS) (k:WS->Prop):Prop:=cP w.st.tmps λt=>nW w.st.heap λh=>k {kn:=w.kn,st:= {tmps:=t,heap:=h} }
def ka (s:St) (k:St->Prop):Prop:=cP s.tmps λt=>nW s.heap λh=>k {tmps:=t,heap:=h}
def ee:List Bool->(List Bool->Prop)->Prop
 | [],k=>k []
 |true::r,k=>ee r λr'=>k (true::r')
 |false::r,k=>ee r λr'=>k (false::r')
theorem lp {c:AC} {k:AC->Prop} :mR c k↔k c:=by
 cases c<;>simp only [mR]
 split<;>rfl
theorem aJ: ∀ {l:List AC} {k:List AC->Prop},cO l k↔k l
 | [],k=>Iff.rfl
 |c::r,k=>by simp only [cO];rw [lp,aJ]
theorem xc {c:AV} {k:AV->Prop} :u7 c k↔k c:=by
 cases c<;>simp only [u7]
 ·exact lp
 ·exact aJ
theorem aK: ∀ {l:List AV} {k:List AV->Prop},cP l k↔k l
 | [],k=>Iff.rfl
 |c::r,k=>by simp only [cP];rw [xc,aK]
theorem xd {b:OB} {k:OB->Prop} :u9 b k↔k b:=by
 cases b<;>simp only [u9]
 ·split<;>rfl
 ·exact aJ
 ·split<;>rfl
theorem gr: ∀ {l:List (Nat×OB)} {k:List (Nat×OB)->Prop},nW l k↔k l
 | [],k=>Iff.rfl
 |(l,b)::r,k=>by simp only [nW];rw [xd,gr]
theorem HF {s:St} {k:St->Prop} :ka s k=k s:=by
 unfold ka
 exact propext (by rw [aK,gr])
theorem gq: ∀ {l:List Bool} {k:List Bool->Prop},ee l k=k l
 | [],k=>rfl
 |true::r,k=>by simp only [ee];rw [gq]
 |false::r,k=>by simp only [ee];rw [gq]
theorem aL {w:WS} {k:WS->Prop} :kb w k↔k w:=by
 unfold kb
 rw [aK,gr]
def Vn:AC->List (Nat×Nat)
 | .own _ off len=> [(off,len)]
 |_=> []
def Vp:AV->List (Nat×Nat)
 | .at a=>Vn a
 | .agg cs=>cs.flatMap Vn
 |_=> []
def gJ:OB->List (Nat×Nat)
 | .var _ vs=>vs.flatMap Vn
 |_=> []
def DR (s:St):List (Nat×Nat):=s.tmps.flatMap Vp++s.heap.flatMap λp=>gJ p.2
def eqW (s0 s:St):Prop:=DR s=DR s0/\Ec (dJ s0 s) λv=>v=GJ s0
def k8 (ops:Array Oper):Nat->Array Bool->WS->(WS->Prop)->Prop
 |0,Ac,w,K=>match Region.ready .any ops Ac with
  | []=>K w
  |_::_=>False
 |f+1,Ac,w,K=>match Region.ready .any ops Ac with
  | []=>False
  |k::_=>Ec ops[k]? λo=>fJ ops w o (λkk w'=>WL T Γ w' o kk) λw'=>k8 ops f (Ac.setIfInBounds k true) w' K
def wK (P:List (Nat×Nat×AV×OB)) (ops:Array Oper):Nat->Array Bool->WS->(WS->Prop)->Prop
 |0,Ac,w,K=>match Region.ready .any ops Ac with
  | []=>K w
  |_::_=>False
 |f+1,Ac,w,K=>match Region.ready .any ops Ac with
  | []=>False
  |i::r=>RS (i::r) λk=>Ec ops[k]? λo=>match BW P Γ ops w.st o k with
   |true=>fJ ops w o (λkk w'=>WL T Γ w' o kk) λw'=>wK P ops f (Ac.setIfInBounds k true) w' K
   |false=>False
def tN (P:List (Nat×Nat×AV×OB)) (n:Nat) (L0:Array Bool) (ops:Array Oper) (w:WS) (K:WS->Prop):Prop:=
 match (To (P.map (·.1))&&To (P.map (·.2.1)))&&((P.all λa=>kv a.2.1 w.st)&&(Nat.ble P.length n&&Nat.ble (n-P.length) 10)) with
 |true=>NH T Γ ops (P.map (·.1)) w λw1=>kb w1 λw1=>k8 T Γ ops (n-P.length) (Ei (P.map (·.1)) L0) w1 λw0=>kb w0 λw0=>K w0/\wK T Γ P ops (n-P.length) (Ei (P.map (·.1)) L0) w1 λw2=>eqW w0.st w2.st
 |false=>False
def vg (ops:Array Oper) (draw:Bool) (w:WS) (K:WS->Prop):Prop:=
 match draw with
 |true=>match ez false Γ ops with
  |true=>sq T Γ ops (eg false Γ ops) w λw'=>NH T Γ ops (Fb false Γ ops) w' K
  |false=>match ez true Γ ops with
   |true=>sq T Γ ops (eg true Γ ops) w λw'=>NH T Γ ops (Fb true Γ ops) w' K
   |false=>match Region.noSelect ops&&Nat.ble (ops.size-(Kk ops).length) 8 with
    |true=>sq T Γ ops (Kk ops) w λw'=>match ec false ops with
     |true=>GU T Γ ops (ops.size-(Kk ops).length) (Ei (Kk ops) (Array.replicate ops.size false)) w' K
     |false=>k8 T Γ ops (ops.size-(Kk ops).length) (Ei (Kk ops) (Array.replicate ops.size false)) w' λw0=>kb w0 λw0=>K w0/\GU T Γ ops (ops.size-(Kk ops).length) (Ei (Kk ops) (Array.replicate ops.size false)) w' λw1=>eqW w0.st w1.st
    |false=>match Region.noSelect ops with
     |true=>sq T Γ ops (Kk ops) w λw'=>tN T Γ (Sl T ops (Ei (Kk ops) (Array.replicate ops.size false))) (ops.size-(Kk ops).length) (Ei (Kk ops) (Array.replicate ops.size false)) ops w' K
     |false=>False
 |false=>ZZ T Γ ops ops.toList w K
def Zc (live:Nat->List Nat):Code->WS->(Gw->WS->Prop)->Prop
 | .skip,w,Q=>Q .normal w
 | .label _,w,Q=>Q .normal w
 | .region _ ops draw,w,Q=>vg T (vf Γ draw) ops draw {w with st:=w.st.ir ops} λw'=>kb w' (Q .normal)
 | .seq a b,w,Q=>Zc live a w λe w'=>match e with
  | .normal=>Zc live b w' Q
  | .exit id=>Q (.exit id) w'
  | .ret=>Q .ret w'
 | .cond c a b,w,Q=>brO w c λt w'=>match t with
  |true=>Zc live a w' Q
  |false=>Zc live b w' Q
 | .block id c,w,Q=>Zc live c w λe w'=>match e with
  | .normal=>Q .normal w'
  | .exit HT=>if HT=id then Q .normal w' else Q (.exit HT) w'
  | .ret=>Q .ret w'
 | .loop c,w,Q=>
  ka (w.st.clean (live (Ce c))) λs0=>ee (Ht (stays live c) 0 s0.tmps) λfx=>ka (s0.mask fx) λm=>
  vL (Ti T.parts s0.tmps) s0 (Bk (V:=stV m) (λv k=>ka ((St.qL fx s0 (dI m v)).whole (Ti T.parts s0.tmps)) λsb=>Zc live c ⟨[],sb⟩ λe w'=>match e with
   | .normal=>ka (w'.st.clean (live (Ce c))) λs1=>vL (Ti T.parts s0.tmps) s1 (Ec (dJ m (s1.mask fx)) k)
   | .exit id=>Q (.exit id) w'
   | .ret=>Q .ret w') (GJ m))
 | .exit id,w,Q=>Q (.exit id) w
 | .ret,w,Q=>Q .ret w
 |_,_,_=>False
def XF (s:Spec) (fn:Func) (P:s.res.den->Prop) (st:St):Prop:=
 Ec (iC T s fn st) λp=>match p.1||!s.fresh with|true=>P p.2|false=>False
def da (st:St) (K:Prop):List AC->List (Bool×CK)->Prop
 | .own l off len::as,(true,_)::r=>match st.at l with
  |some (.arr _ _ _ _ xs)=>(off=0/\len=xs.length)/\da st K as r
  |some (.Dc _ _ xs)=>(off=0/\len=xs.length)/\da st K as r
  |_=>False
 |_::as,(false,_)::r=>da st K as r
 |_,_=>K
def ky (st:St):(cs:List CK)->List AC->(CKs.den cs->List Nat->Prop)->Prop
 | [],[],K=>K () []
 | .Aj e te _::r, .own l off len::as,K=>match st.at l with
  |some (.Aj e' Li rows none _)=>if h:e'=e/\Li=te then (off=0/\len=rows.length)/\ky st r as λy t=>K ((h.1▸rows:List (List e.den)),y) (l::t) else False
  |_=>False
 |c::r,a::as,K=>Ec (eT st c a) λp=>ky st r as λy t=>K (p.1,y) (p.2++t)
 |_,_,_=>False
def ux (st:St) (n:Nat) (as:List AC):List (Nat×Nat)->Prop->Prop
 | [],K=>K
 |(k,j)::r,K=>match as[j]? with
  |some (.own l _ _)=>match st.at l with
   |some (.Aj _ _ _ _ (some p))=>match Nat.beq p.1 (Bl false k)&&Nat.blt k 1000 with
    |true=>n<=p.2/\ux st n as r K
    |false=>False
   |_=>False
  |_=>False
def p6 (s:MSpec) (fn:Func) (x:Ins.den s.ins) (st:St) (cs:List AC) (P:CKs.den s.outs×IOs.den s.ins->Prop):Prop:=
 Ec (Yt T st fn.results.toList) λl=>Ec (CW s st l) λp=>ky st s.outs (cs++p.1) λr ls=>Ec (Jj st 0 s.ins) λo=>
  match To (p.2++ls++Ki 0 s.ins)&&Nat.blt s.ins.length 1000&&Nat.blt s.outs.length 1000&&s.OA with
  |true=>ux st (s.Ch x) (cs++p.1) s.keeps (P (r,o))
  |false=>False
def GG (s:MSpec) (fn:Func) (x:Ins.den s.ins) (st:St) (P:CKs.den s.outs×IOs.den s.ins->Prop):Prop:=
 match s.ptr with
 |none=>p6 T s fn x st [] P
 |some p=>match st.at Js with
  |some (.var tid vs)=>match Nat.beq tid p.1&&Nat.beq vs.length p.2 with
   |true=>Ec (Ew 0 s.ins vs) λcs=>da st (p6 T s fn x st cs P) vs s.ins
   |false=>False
  |_=>False
@[irreducible] def fnMW (s:MSpec) (fn:Func) (x:Ins.den s.ins) (P:CKs.den s.outs×IOs.den s.ins->Prop):Prop:=
 match Nat.blt s.ins.length 1000&&uZ s with
 |false=>False
 |true=>Ec fn.body λc=>Zc T Γ (uE T.marks fn c) c {kn:= [],st:= {tmps:=Tz s (Wb 0 s.ins x)++List.replicate (fn.ntmps-(Tz s (Wb 0 s.ins x)).length) .undef,heap:=lz s x} } λe w=>match e with
  | .normal=>GG T s fn x w.st P
  | .ret=>GG T s fn x w.st P
  | .exit _=>False
@[irreducible] def fnW (s:Spec) (fn:Func) (x:s.arg.den) (P:s.res.den->Prop):Prop:=
 Ec fn.body λc=>Zc T Γ (uE T.marks fn c) c {kn:= [],st:= {tmps:=Ms s.arg x++List.replicate (fn.ntmps-(Ms s.arg x).length) .undef,heap:= []} } λe w=>match e with
  | .normal=>XF T s fn P w.st
  | .ret=>XF T s fn P w.st
  | .exit _=>False
end Go.Proofs.YtfolipnappekaaaGreat
