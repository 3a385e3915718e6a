/-
  Part 31 of the proof that the statement FnBoundStatistics holds.
-/
import Derived.Test.YtkkdpknjohcekaaCFBoundStatistics29
namespace Go.Proofs.Ytkkdpknjohcekaa
open Go.RowKit
inductive Br (b:Bool) (A B:Prop):Prop
 |mk (t:b=true->A) (f:b=false->B)
inductive Dh {V:Type} (step:V->(V->Prop)->Prop) (v0:V):Prop
 |mk (I:V->Prop) (μ:V->Nat) (h0:I v0) (h: ∀v,I v->step v (λv'=>I v'/\μ v'<μ v))
structure WS where
 kn:List (Nat×Bool)
 st:St
def nI:List (Nat×Bool)->Nat->Option Bool
 | [],_=>none
 |(k,b)::r,t=>if k=t then some b else nI r t
def xq:List (Nat×Bool)->Nat->List (Nat×Bool)
 | [],_=> []
 |(k,b)::r,t=>if k=t then xq r t else (k,b)::xq r t
def WS.put (w:WS) (dst:Option Tmp) (v:AV):WS:=
 match dst with
 |some d=> {kn:=xq w.kn d,st:=w.st.put (some d) v}
 |none=>w
def Wr (kn:List (Nat×Bool)):Operand->Option Bool
 | .const (.bool b)=>some b
 | .tmp t=>nI kn t
 |_=>none
def Hk (kn:List (Nat×Bool)) (o:Oper):Option Bool:=
 match o.op with
 | .assign x=>Wr kn x
 | .move x=>Wr kn x
 | .unOp .not _ x=>(Wr kn x).map (!·)
 | .pick c a b=>match Wr kn c with
  |some true=>Wr kn a
  |some false=>Wr kn b
  |none=>none
 |_=>none
def WS.wg (w:WS) (o:Oper) (v:AV):WS:=
 match o.dst,Hk w.kn o with
 |some d,some b=>match (w.st.put (some d) v).get d with
  | .at (.data _ .bool _)=> {kn:=(d,b)::xq w.kn d,st:=w.st.put (some d) v}
  |_=>w.put (some d) v
 |dst,_=>w.put dst v
def WS.to (w:WS) (st:St):WS:= {kn:=w.kn,st:=st}
def brT (w:WS) (t:Nat) (K:Bool->WS->Prop):Prop:=
 match nI w.kn t with
 |some b=>K b w
 |none=>match w.st.get t with
  | .at (.data _ .bool b)=>Br b (K true {kn:=(t,true)::w.kn,st:=w.st}) (K false {kn:=(t,false)::w.kn,st:=w.st})
  |_=>False
def brO (w:WS) (c:Operand) (K:Bool->WS->Prop):Prop:=
 match c with
 | .tmp t=>brT w t K
 | .const (.bool b)=>K b w
 |_=>False
def Hz {α:Type} (o:Option α) (K:α->Prop):Prop:=match o with|some x=>K x|none=>False
def Ajg (T:Tab) (st:St) (t:TypeId) (x:AV) (l h:Int):Option AV:=
 match x with
 | .at (.data fr (.slice e) xs)=>if (T.elem t).bind T.ty=some e then some (.at (.data fr (.slice e) ((xs.take h.toNat).drop l.toNat))) else none
 | .at (.own k off _)=>match st.at k with
  |some (.arr _ _ e tid _)=>if T.elem t=some tid/\T.ty tid=some e then some (.at (.own k (off+l.toNat) (h.toNat-l.toNat))) else none
  |_=>none
 | .at (.data _ .str s)=>if T.ty t=some .str then some (.at (.data true .str (s.extract l.toNat h.toNat))) else none
 |_=>none
variable (T:Tab) (Γ:Env)
def Ah0 (op:BinOp) (t:TypeId) (x y:AV) (K:AV->Prop):Prop:=
 match op,x,y with
 | .quo, .at (.data _ (.int k) a), .at (.data _ (.int k') b)=>if k=k' then b≠0/\K (.at (.data true (.int k) (k.wrap (a.tdiv b)))) else False
 | .rem, .at (.data _ (.int k) a), .at (.data _ (.int k') b)=>if k=k' then b≠0/\K (.at (.data true (.int k) (a.tmod b))) else False
 | .shl, .at (.data _ (.int k) a), .at (.data _ (.int _) b)=> ¬b<0/\K (.at (.data true (.int k) (k.wrap (a*2^(min b.toNat k.bits)))))
 | .shr, .at (.data _ (.int k) a), .at (.data _ (.int _) b)=> ¬b<0/\K (.at (.data true (.int k) (a.fdiv (2^(min b.toNat k.bits)))))
 | .add, .at (.data _ .str a), .at (.data _ .str b)=>a.size+b.size<=4294967296/\K (.at (.data true .str (a++b)))
 |op,x,y=>Hz (Tx T op t x y) K
def ZO (st:St) (t:TypeId) (p:AV) (K:AV->Prop):Prop:=
 match p with
 | .at (.Kk l i)=>Hz (T.ty t) λτ=>match st.at l with
  |some (.arr fr _ e _ xs)=>if e=τ then ∃x,xs[i]?=some x/\K (.at (.data (fr||e.flat) e x)) else False
  |some (.Gu e _ xs)=>if e=τ then ∃x,xs[i]?=some x/\K (if e.Ao then .agg (fO l i 0 e x) else .at ((fO l i 0 e x).headD .undef)) else False
  |some (.Bl _ _ _ none _)=>if τ.Ao then False else K (.at (.sub l i 0))
  |_=>False
 | .at (.data fr (.optr Ok) x)=>Hz (T.ty t) λτ=>if Ok=τ then ∃y,x=some y/\K (.at (.data (fr||Ok.flat) Ok y)) else False
 |p=>Hz (Qm T st t p) K
def lW (s:TypeId) (x:AV) (f:Nat) (K:AV->Prop):Prop:=
 match x with
 | .at (.data fr (.optr τ) x)=> ∃y,x=some y/\Hz (Og T s (.at (.data fr (.ptr τ) y)) f) K
 |x=>Hz (Og T s x f) K
def xC (st:St) (x:Operand) (K:AV->Prop) (d:Option AV):Prop:=
 match st.ev x with
 | .at (.data fr (.optr τ) x)=> ∃y,x=some y/\K (.at (.data fr (.ptr τ) y))
 |_=>Hz d K
def NM (st:St) (t:TypeId) (x:AV) (lo hi:Option AV) (K:AV->Prop):Prop:=
 Hz (EW x) λn=>Hz (WE lo 0) λl=>Hz (WE hi n) λh=>(0<=l/\l<=h/\h<=n)/\Hz (Ajg T st t x l h) K
def m8 (st:St) (t:TypeId) (x i:AV) (K:AV->Prop):Prop:=
 match x,i with
 | .at (.data fr (.slice e) xs), .at (.data _ (.int _) n)=>if (T.elem t).bind T.ty=some e then ∃x,idx xs n=some x/\K (.at (.data fr (.ptr e) x)) else False
 | .at (.own l off len), .at (.data _ (.int _) n)=>match st.at l with
  |some (.arr _ _ e tid _)=>if T.elem t=some tid/\T.ty tid=some e then (0<=n/\n<len)/\K (.at (.Kk l (off+n.toNat))) else False
  |some (.Gu e tid _)=>if T.elem t=some tid/\T.ty tid=some e then (0<=n/\n<len)/\K (.at (.Kk l (off+n.toNat))) else False
  |some (.Bl _ te _ _ _)=>if T.elem t=some te/\(T.ty te).map Ty.size=some 1 then (0<=n/\n<len)/\K (.at (.Kk l (off+n.toNat))) else False
  |_=>False
 | .at (.sub l i _), .at (.data _ (.int _) n)=>match st.at l with
  |some (.Bl e _ rows none _)=>if ((T.elem t).bind T.ty).map Ty.size=some e.size then (0<=n/\n<(rows.getD i []).length)/\K (.at (.Kh l i n.toNat)) else False
  |_=>False
 |_,_=>False
def LF (t:TypeId) (x i:AV) (K:AV->Prop):Prop:=
 match x,i with
 | .at (.data _ .str s), .at (.data _ (.int _) n)=>if T.ty t=some .str then 0<=n/\ ∃b,s[n.toNat]?=some b/\K (.at (.data true (.int .u8) b.toNat)) else False
 |_,_=>False
def wZ (st:St) (f:FuncId) (args:List AV) (K:AV->Prop):Prop:=
 Hz (match Γ f with|some (.q s)=>some s|_=>none) λs=>match s.fresh||s.res.flat||args.all (·.settled) with
  |true=>Hz (Dv st s.arg args) λp=> ∃y,s.fn p.2=some y/\K (if s.Hi then .bu (s.fresh||s.res.flat) s.res y else .at (.data (s.fresh||s.res.flat) s.res y))
  |false=>False
def JU (st:St) (v:AV) (args:List AV) (K:AV->Prop):Prop:=
 match v with
 | .at (.data fr (.clo f τ) x)=>match τ.chain with|true=>(match Nat.blt f 1000000000 with|true=>wZ Γ st f (args++bD fr τ x) K|false=>wZ Γ st (f-1000000000) (bD fr τ x++args) K)|false=>False
 | .at (.clo f Ee)=>wZ Γ st f (args++Ee.map λp=> .at (.Hj p.1 p.2)) K
 |_=>False
def qW (w:WS) (o:Oper) (K:AV->WS->Prop):Prop:=
 match o.op with
 | .pick c a b=>brO w c λt w'=>match t with|true=>K (w'.st.ev a) w'|false=>K (w'.st.ev b) w'
 | .load t a=>ZO T w.st t (w.st.ev a) λv=>K v w
 | .binOp op t x y _=>Ah0 T op t (w.st.ev x) (w.st.ev y) λv=>K v w
 | .slice t x lo hi mx=>match mx with
  |none=>NM T w.st t (w.st.ev x) (lo.map w.st.ev) (hi.map w.st.ev) λv=>K v w
  |some _=>False
 | .indexAddr t x i=>m8 T w.st t (py (w.st.ev x)) (w.st.ev i) λv=>K v w
 | .index t x i=>LF T t (w.st.ev x) (w.st.ev i) λv=>K v w
 | .call {callee:= .value (.func f),args, .. } =>wZ Γ w.st f (args.toList.map w.st.ev) λv=>K v w
 | .call {callee:= .value (.tmp t),args, .. } =>JU Γ w.st (w.st.get t) (args.toList.map w.st.ev) λv=>K v w
 | .fieldAddr s x f=>lW T s (w.st.ev x) f λv=>K v w
 | .nilCheck x=>xC w.st x (λv=>K v w) (Fa T Γ w.st o)
 |_=>Hz (Fa T Γ w.st o) λv=>K v w
def NY (st:St) (t:TypeId) (p v:AV) (K:St->Prop):Prop:=
 match p with
 | .at (.Kk l j)=>Hz (T.ty t) λτ=>Hz (settle st v) λq=>match q.2.at l with
  |some (.arr fr tr e tid xs)=>Hz (Fp q.2 τ q.1) λu=>if h:τ=e then j<xs.length/\K (q.2.Kg l (.arr (fr&&u.1) (tr&&(Tp st v&&e.tree)) e tid (xs.set j (h▸u.2)))) else False
  |_=>False
 |p=>Hz (Vc T st t p v) K
def RG (st:St) (t:TypeId) (p v:AV) (K:St->Prop):Prop:=
 match p with
 | .at (.Kh l i j)=>Hz (T.ty t) λτ=>Hz (settle st v) λq=>match q.2.at l with
  |some (.Bl e te rows none kp)=>Hz (Fp q.2 τ q.1) λu=>if h:τ=e then K (q.2.Kg l (.Bl e te (rows.set i ((rows.getD i []).set j (h▸u.2))) none kp)) else False
  |_=>False
 | .at (.Kk l j)=>Hz (T.ty t) λτ=>match st.at l,v with
  |some (.Bl e te rows out kp), .at (.own m off len)=>match st.at m with
   |some (.arr _ _ e' _ xs)=>if h:e'=e/\(Nat.blt l Bn&&(!Nat.beq m l&&!τ.Ao))=true then
     off=0/\len=xs.length/\(match out with|none=>True|some i=>i=j)/\K (Tw st l j m e te rows (h.1▸xs) (bU j kp))
    else False
   |_=>False
  |_,_=>False
 |_=>False
def AQ (st:St) (t:TypeId) (p v:AV) (K:St->Prop):Prop:=match PX st p with
 |true=>RG T st t p v K
 |false=>NY T st t p v K
def mK (st:St) (dst:Nat) (t:TypeId) (x y:Operand) (K:AV->St->Prop):Prop:=
 Hz (T.elem t) λte=>Hz (T.ty te) λe=>Hz (settle st (st.ev y)) λq=>Hz (Fp q.2 (.slice e) q.1) λu=>match q.2.ev x with
  | .at .Ly=>match Nat.blt dst Bn with
   |true=>List.length u.2<=Ct/\K (.at (.own dst 0 (List.length u.2))) ((q.2.new dst (.arr (T.sX||e.flat) T.BH e te [])).new dst (.arr ((T.sX||e.flat)&&(u.1||e.flat)) (T.BH&&(e.flat||(Tp st (st.ev y)&&e.tree))) e te u.2))
   |false=>False
  | .at (.own l off len)=>match q.2.at l with
   |some (.arr fr tr e' tid xs)=>if h:e'=e/\tid=te/\Nat.blt l Bn=true then
     off=0/\len=xs.length/\len+List.length u.2<=Ct/\K (.at (.own l 0 (List.length ((h.1▸xs:List e.den)++u.2)))) (q.2.new l (.arr (fr&&(u.1||e.flat)) (tr&&(e.flat||(Tp st (st.ev y)&&e.tree))) e te ((h.1▸xs:List e.den)++u.2)))
    else False
   |_=>False
  |_=>False
def sw (st:St) (dst:Nat) (t:TypeId) (x y:Operand) (K:AV->St->Prop):Prop:=
 match x with
 | .tmp tx=>match st.get tx with
  | .at (.sub l i _)=>Hz (T.elem t) λtid=>match st.at l with
   |some (.Bl e te rows none kp)=>match Nat.blt l Bn&&(Nat.blt dst Bn&&!Nat.beq dst l) with
    |true=>mK T ((Ql st l i dst e te tid rows kp).put (some tx) (.at (.own dst 0 (rows.getD i []).length))) dst t x y K
    |false=>False
   |_=>False
  |_=>mK T st dst t x y K
 |_=>mK T st dst t x y K
def ZT (st:St) (dst:Nat) (t:TypeId) (l c:AV) (K:AV->St->Prop):Prop:=
 match l,c with
 | .at (.data _ (.int _) n), .at (.data _ (.int _) m)=>Hz (T.elem t) λte=>Hz (T.ty te) λe=>match fW e&&Nat.blt dst Bn with
  |true=>(0<=n/\n<Ct+1)/\n=m/\K (.at (.own dst 0 (List.replicate n.toNat e.zero).length)) (st.new dst (.arr (T.sX||e.flat) (T.BH&&e.tree) e te (List.replicate n.toNat e.zero)))
  |false=>False
 |_,_=>False
def LW (st:St) (dst:Nat) (t:TypeId) (l c:AV) (K:AV->St->Prop):Prop:=
 match e8 T t with
 |none=>ZT T st dst t l c K
 |some p=>match l,c with
  | .at (.data _ (.int _) n), .at (.data _ (.int _) m)=>match Nat.blt dst Bn with
   |true=>(0<=n/\n<Ct+1)/\n=m/\K (.at (.own dst 0 (List.replicate n.toNat ([]:List p.2.den)).length)) (Rf st dst dst (.Bl p.2 p.1 (List.replicate n.toNat []) none none))
   |false=>False
  |_,_=>False
def eV (st:St) (dst:Nat) (t:TypeId) (len:Nat) (parts:Array (Nat×Operand)) (K:AV->St->Prop):Prop:=
 match e8 T t with
 |none=>Hz (Mp T st dst t len parts) λr=>K r.1 r.2
 |some p=>match parts.toList with
  | [(0,x)]=>match st.ev x with
   | .at (.own m off ln)=>match st.at m with
    |some (.arr _ _ e' _ xs)=>if h:e'=p.2/\(Nat.beq len 1&&(Nat.blt dst Bn&&Nat.blt m Bn))=true then off=0/\ln=xs.length/\K (.at (.own dst 0 1)) (Rf st dst m (.Bl p.2 p.1 [h.1▸xs] none none)) else False
    |_=>False
   |_=>False
  |_=>False
def sy (st:St) (dst:Nat) (t:TypeId) (x y:Operand) (K:AV->St->Prop):Prop:=
 match e8 T t with
 |none=>sw T st dst t x y K
 |some p=>match st.ev x,st.ev y with
  | .at (.own l off len), .at (.own m Aa1 tN)=>match st.at l,st.at m with
   |some (.Bl e1 te1 A none _),some (.Bl e2 wB B none _)=>
    if h:(e1=p.2/\e2=p.2)/\(decide (te1=p.1)&&decide (wB=p.1)&&(Nat.blt l Bn&&(Nat.blt m Bn&&!Nat.beq m l)))=true then
     (off=0/\len=A.length)/\(Aa1=0/\tN=B.length)/\0<B.length/\A.length+B.length<=Ct/\
      K (.at (.own l 0 (List.length ((h.1.1▸A:List (List p.2.den))++(h.1.2▸B:List (List p.2.den)))))) (Rf st l m (.Bl p.2 p.1 ((h.1.1▸A:List (List p.2.den))++(h.1.2▸B:List (List p.2.den))) none none))
    else False
   |_,_=>False
  |_,_=>False
def fR (st:St) (io:Bool) (k:Nat):(c:CK)->AC->(c.den->List (Nat×Loc)->Prop)->Prop
 | .Fy τ, .own l off len,K=>Hz (Dm st τ (.own l off len)) λp=>K p.2 [(Dx false k, .view l)]
 | .Fy τ, .clo g Ee,K=>match cf st (Ee.map (·.1))&&!τ.Ao with
  |true=>Hz (Kc st τ (.clo g Ee)) λp=>K p.2 (views k (Ee.map (·.1)))
  |false=>False
 | .Fy τ, .Hj l i,K=>match cf st [l]&&!τ.Ao with
  |true=>Hz (Kc st τ (.Hj l i)) λp=>K p.2 (views k [l])
  |false=>False
 | .Fy τ, .sub l i c,K=>Hz (Dm st τ (.sub l i c)) λp=>K p.2 [(Dx false k, .view l)]
 | .Fy τ,a,K=>match τ.flat||a.settled with
  |true=>Hz (Dm st τ a) λp=>K p.2 []
  |false=>False
 | .row e te, .own l off len,K=>match st.at l with
  |some (.arr _ _ e' Rj xs)=>if h:e'=e/\Rj=te then off=0/\len=xs.length/\K (h.1▸xs:List e.den) [(Dx io k, .row l)] else False
  |_=>False
 | .row e _, .sub l i c,K=>match st.at l with
  |some (.Gu e' _ xs)=>if h:e'= .slice e/\e.flat=true/\io=true/\c=0 then ∃y,xs[i]?=some y/\K (h.1▸y:(Ty.slice e).den) [(Dx io k, .sub l i c)] else False
  |_=>False
 | .row _ _, .Ly,K=>K [] []
 | .Hw e te, .own l off len,K=>match st.at l with
  |some (.Gu e' Rj xs)=>if h:e'=e/\Rj=te then off=0/\len=xs.length/\K (h.1▸xs:List e.den) [(Dx io k, .row l)] else False
  |_=>False
 | .Hw e _, .sub l i c,K=>match st.at l with
  |some (.Gu e' _ xs)=>if h:e'= .slice e/\io=true/\c=0 then ∃y,xs[i]?=some y/\K (h.1▸y:(Ty.slice e).den) [(Dx io k, .sub l i c)] else False
  |_=>False
 | .Hw _ _, .Ly,K=>K [] []
 | .part e te, .own l off len,K=>match st.at l with
  |some (.arr _ _ e' Rj xs)=>if h:e'=e/\Rj=te/\e.flat=true/\io=true then K ((h.1▸xs:List e.den),off,len) [(Dx io k, .row l)] else False
  |_=>False
 | .Bl e te _, .own l off len,K=>match st.at l with
  |some (.Bl e' Rj rows none _)=>if h:e'=e/\Rj=te/\io=false then off=0/\len=rows.length/\K (h.1▸rows:List (List e.den)) [(Dx io k, .row l)] else False
  |_=>False
 |_,_,_=>False
def BG (st:St):(k:Nat)->(cs:List (Bool×CK))->List AC->(Ins.den cs->List (Nat×Loc)->Prop)->Prop
 |_,[],[],K=>K () []
 |k,p::r,a::as,K=>fR st p.1 k p.2 a λx t1=>BG st (k+1) r as λy t2=>K (x,y) (t1++t2)
 |_,_,_,_=>False
def qI (st:St):(c:CK)->c.den->AC->(St->Prop)->Prop
 | .row e _,ys, .own l _ len,K=>match st.at l with
  |some (.arr fr tr e' te xs)=>if h:e=e' then (List.length ys=len/\xs.length=len)/\K (st.Kg l (.arr (fr&&e'.flat) (tr&&e'.flat) e' te (h▸ys))) else False
  |_=>False
 | .Hw e _,ys, .own l _ len,K=>match st.at l with
  |some (.Gu e' te xs)=>if h:e=e' then (List.length ys=len/\xs.length=len)/\K (st.Kg l (.Gu e' te (h▸ys))) else False
  |_=>False
 | .row e _,ys, .sub l i _,K=>match st.at l with
  |some (.Gu e' te xs)=>if h: .slice e=e' then ∃y,xs[i]?=some y/\List.length ys=List.length (h▸y:(Ty.slice e).den)/\K (st.Kg l (.Gu e' te (xs.set i (h▸(ys:(Ty.slice e).den))))) else False
  |_=>False
 | .Hw e _,ys, .sub l i _,K=>match st.at l with
  |some (.Gu e' te xs)=>if h: .slice e=e' then ∃y,xs[i]?=some y/\List.length ys=List.length (h▸y:(Ty.slice e).den)/\K (st.Kg l (.Gu e' te (xs.set i (h▸(ys:(Ty.slice e).den))))) else False
  |_=>False
 |_,_, .Ly,K=>K st
 |_,_,_,_=>False
def Aam (st:St) (e:Ty) (ys:List e.den):AC->(St->Prop)->Prop
 | .own l _ _,K=>match st.at l with
  |some (.arr fr tr e' te xs)=>if h:e=e' then List.length ys=xs.length/\K (st.Kg l (.arr fr tr e' te (h▸ys))) else False
  |_=>False
 |_,_=>False
def jd:(cs:List (Bool×CK))->IOs.den cs->List AC->St->(St->Prop)->Prop
 | [],_,_,st,K=>K st
 |(true, .Fy _)::r,x,_::as,st,K=>jd r x as st K
 |(true, .row e te)::r,x,a::as,st,K=>qI st (.row e te) x.1 a λst'=>jd r x.2 as st' K
 |(true, .Hw e te)::r,x,a::as,st,K=>qI st (.Hw e te) x.1 a λst'=>jd r x.2 as st' K
 |(true, .part e _)::r,x,a::as,st,K=>Aam st e x.1 a λst'=>jd r x.2 as st' K
 |(true, .Bl _ _ _)::r,x,_::as,st,K=>jd r x as st K
 |(false,_)::r,x,_::as,st,K=>jd r x as st K
 |_,_,_,_,_=>False
def uS (H:List (Nat×OB)) (ls:List Nat) (n:Nat):List AV->Prop->Prop
 | [],K=>K
 | .at (.sub l i _)::r,K=>match ls.contains l with
  |true=>(i<n/\i<rX H l)/\uS H ls n r K
  |false=>uS H ls n r K
 |_::r,K=>uS H ls n r K
def JT (st:St) (dst:Option Nat) (s:MSpec) (args:List AV) (K:AV->St->Prop):Prop:=
 Hz (QZ st s args) λq=>Hz (ungroup s.Ip q.2.2) λoB=>BG st 0 s.ins (q.2.1++oB) λx tks=>
  match aq (tks.map λt=>t.2.Xn)&&zl (Sq s tks (dst.getD 0)) (s.outs.length+(mq s (dst.getD 0)).length)&&Nat.blt s.outs.length 1000&&Nat.blt s.ins.length 1000&&(Wl s.ins q.2.1&&q.1.all λl=>!((tks.map λt=>t.2.Xn)++Sq s tks (dst.getD 0)).contains l) with
  |true=> ∃p,s.fn x=some p/\jd s.ins p.2 (q.2.1++oB) st λst1=>Hz (Aef s (dst.getD 0) ((bX (Ed (Sq s tks (dst.getD 0))) 0 s.outs p.1).drop s.aG)) λv=>
    uS (lM st st1 (dst.getD 0) s q.1 tks p.1).heap (bT st.heap (Sq s tks (dst.getD 0)) tks s.keeps) (s.Fb x) st.tmps
     (K v (m9 st (lM st st1 (dst.getD 0) s q.1 tks p.1) (bT st.heap (Sq s tks (dst.getD 0)) tks s.keeps) (s.Fb x)))
  |false=>False
def opW (w:WS) (o:Oper) (K:AV->WS->Prop):Prop:=
 match o.op with
 | .store t p x=>AQ T (Ou T w.st p x) t ((Ou T w.st p x).ev p) ((Ou T w.st p x).ev x) λs=>K .undef (w.to s)
 | .makeSlice t l c=>Hz o.dst λd=>LW T w.st d t (w.st.ev l) (w.st.ev c) λv s=>K v (w.to s)
 | .call {callee:= .builtin .append,args,argTypes} =>match o.dst,args.toList,argTypes.toList with
  |some d,[x,y],[t,t']=>if t=t' then sy T w.st d t x y λv s=>K v (w.to s) else False
  |_,_,_=>False
 | .assign _=>Hz (evalOp T Γ w.st o) λr=>K r.1 (w.to r.2)
 | .alloc _=>Hz (evalOp T Γ w.st o) λr=>K r.1 (w.to r.2)
 | .box _ _=>Hz (evalOp T Γ w.st o) λr=>K r.1 (w.to r.2)
 | .buildSlice t len parts=>Hz o.dst λd=>eV T w.st d t len parts λv s=>K v (w.to s)
 | .build _ _=>Hz (evalOp T Γ w.st o) λr=>K r.1 (w.to r.2)
 | .makeMap _ _=>Hz (evalOp T Γ w.st o) λr=>K r.1 (w.to r.2)
 | .mapUpdate _ _ _ _=>Hz (evalOp T Γ w.st o) λr=>K r.1 (w.to r.2)
 | .insert _ _ _ _=>Hz (evalOp T Γ w.st o) λr=>K r.1 (w.to r.2)
 | .call {callee:= .builtin .copy, .. } =>Hz (evalOp T Γ w.st o) λr=>K r.1 (w.to r.2)
 | .call {callee:= .builtin .clear, .. } =>Hz (evalOp T Γ w.st o) λr=>K r.1 (w.to r.2)
 | .call {callee:= .value (.func f),args, .. } =>match Γ f with
  |some (.m s)=>JT w.st o.dst s (args.toList.map w.st.ev) λv s'=>K v (w.to s')
  |some (.q s)=>match fu s (args.toList.map w.st.ev) with
   |true=>Hz (Nq args.toList w.st) λst1=>qW T Γ (w.to st1) o K
   |false=>qW T Γ w o K
  |_=>qW T Γ w o K
 |_=>qW T Γ w o K
def AV.ZJ:AV->Bool
 | .at .skip=>true
 |_=>false
def bW (w:WS) (o:Oper) (K:AV->WS->Prop):Prop:=
 match o.op with
 | .buildSlice t len parts=>Hz (bG T w.st t len parts) λv=>K v w
 | .build t parts=>Hz (Yf T w.st t parts) λv=>K v w
 |_=>qW T Γ w o K
def jy (ops:Array Oper) (w:WS) (o:Oper) (run:(AV->WS->Prop)->WS->Prop) (K:WS->Prop):Prop:=
 match o.guard with
 |none=>run (λv w'=>K (w'.wg o v)) w
 |some (j,want)=>Hz ((ops[j]?).bind (·.dst)) λt=>match (w.st.get t).ZJ with
  |true=>K (w.put o.dst (.at .skip))
  |false=>brT w t λb w'=>match b,want with
   |true,true=>run (λv qY=>K (qY.wg o v)) w'
   |false,false=>run (λv qY=>K (qY.wg o v)) w'
   |_,_=>K (w'.put o.dst (.at .skip))
def Aj1 (ops:Array Oper):List Oper->WS->(WS->Prop)->Prop
 | [],w,K=>K w
 |o::r,w,K=>jy ops w o (λk w'=>opW T Γ w' o k) λw'=>Aj1 ops r w' K
def ZB (ops:Array Oper):List Nat->WS->(WS->Prop)->Prop
 | [],w,K=>K w
 |i::r,w,K=>Hz ops[i]? λo=>jy ops w o (λk w'=>opW T Γ w' o k) λw'=>ZB ops r w' K
def kX (ops:Array Oper):List Nat->WS->(WS->Prop)->Prop
 | [],w,K=>K w
 |i::r,w,K=>Hz ops[i]? λo=>jy ops w o (λk w'=>bW T Γ w' o k) λw'=>kX ops r w' K
def WZ:List Nat->(Nat->Prop)->Prop
 | [],_=>True
 | [i],P=>P i
 |i::j::r,P=>P i/\WZ (j::r) P
def RS (ops:Array Oper):Nat->Array Bool->WS->(WS->Prop)->Prop
 |0,Ag,w,K=>match Region.ready .any ops Ag with
  | []=>K w
  |_::_=>False
 |f+1,Ag,w,K=>match Region.ready .any ops Ag with
  | []=>False
  |i::r=>WZ (i::r) λk=>Hz ops[k]? λo=>jy ops w o (λkk w'=>opW T Γ w' o kk) λw'=>RS ops f (Ag.setIfInBounds k true) w' K
def acV:AC->Type->Type
 | .data _ τ _,R=>τ.den×R
 | .sub _ _ _,R=>Nat×R
 | .Kk _ _,R=>Nat×R
 | .Kh _ _ _,R=>Nat×Nat×R
 |_,R=>R
def JL:List AC->Type->Type
 | [],R=>R
 |c::r,R=>acV c (JL r R)
def avV:AV->Type->Type
 | .at a,R=>acV a R
 | .agg cs,R=>JL cs R
 | .bu _ τ _,R=>τ.den×R
 | .Mw _,R=>R
def obV:OB->Type->Type
 | .arr _ _ e _ _,R=>List e.den×R
 | .Gu e _ _,R=>List e.den×R
 | .var _ vs,R=>JL vs R
 | .Bl e _ _ _ none,R=>List (List e.den)×R
 | .Bl e _ _ _ (some _),R=>List (List e.den)×(Nat×R)
 | .Vu v _,R=>(ByteArray->Option v.den)×R
def qV:List AV->Type->Type
 | [],R=>R
 |v::r,R=>avV v (qV r R)
def xe:List (Nat×OB)->Type->Type
 | [],R=>R
 |p::r,R=>obV p.2 (xe r R)
def stV (s:St):Type:=qV s.tmps (xe s.heap Unit)
def OX:(c:AC)-> {R:Type} ->R->acV c R
 | .data _ _ x,_,r=>(x,r)
 | .undef,_,r=>r
 | .skip,_,r=>r
 | .Ly,_,r=>r
 | .Vt,_,r=>r
 | .own _ _ _,_,r=>r
 | .Hj _ _,_,r=>r
 | .Kk _ i,_,r=>(i,r)
 | .clo _ _,_,r=>r
 | .Ks _,_,r=>r
 | .sub _ i _,_,r=>(i,r)
 | .Kh _ i j,_,r=>(i,j,r)
def ss:(l:List AC)-> {R:Type} ->R->JL l R
 | [],_,r=>r
 |c::l,_,r=>OX c (ss l r)
def Af6:(c:AV)-> {R:Type} ->R->avV c R
 | .at a,_,r=>OX a r
 | .agg cs,_,r=>ss cs r
 | .bu _ _ x,_,r=>(x,r)
 | .Mw _,_,r=>r
def Agj:(b:OB)-> {R:Type} ->R->obV b R
 | .arr _ _ _ _ xs,_,r=>(xs,r)
 | .Gu _ _ xs,_,r=>(xs,r)
 | .var _ vs,_,r=>ss vs r
 | .Bl _ _ rows _ none,_,r=>(rows,r)
 | .Bl _ _ rows _ (some p),_,r=>(rows,p.2,r)
 | .Vu _ m,_,r=>(m,r)
def sj:(l:List AV)-> {R:Type} ->R->qV l R
 | [],_,r=>r
 |c::l,_,r=>Af6 c (sj l r)
def rY:(l:List (Nat×OB))-> {R:Type} ->R->xe l R
 | [],_,r=>r
 |p::l,_,r=>Agj p.2 (rY l r)
def RF (s:St):stV s:=sj s.tmps (rY s.heap ())
def oK:(c d:AC)-> {R:Type} ->R->Option (acV c R)
 | .data fr τ _, .data Wh Ok x,_,r=>if h:Ok=τ/\Wh=fr then some (h.1▸x,r) else none
 | .undef, .undef,_,r=>some r
 | .skip, .skip,_,r=>some r
 | .Ly, .Ly,_,r=>some r
 | .Vt, .Vt,_,r=>some r
 | .own l _ _, .own l' _ _,_,r=>if l=l' then some r else none
 | .Hj l i, .Hj l' i',_,r=>if l=l'/\i=i' then some r else none
 | .Kk l _, .Kk l' i',_,r=>if l=l' then some (i',r) else none
 | .clo f c, .clo f' c',_,r=>if f=f'/\c=c' then some r else none
 | .Ks l, .Ks l',_,r=>if l=l' then some r else none
 | .sub l _ c, .sub l' i' c',_,r=>if l=l'/\c=c' then some (i',r) else none
 | .Kh l _ _, .Kh l' i' j',_,r=>if l=l' then some (i',j',r) else none
 |_,_,_,_=>none
def Sp:(l m:List AC)-> {R:Type} ->R->Option (JL l R)
 | [],[],_,r=>some r
 |c::l,d::m,_,r=>(Sp l m r).bind λr'=>oK c d r'
 |_,_,_,_=>none
def lQ:(c d:AV)-> {R:Type} ->R->Option (avV c R)
 | .at a, .at b,_,r=>oK a b r
 | .agg cs, .agg ds,_,r=>Sp cs ds r
 | .bu fr τ _, .bu Wh Ok x,_,r=>if h:Ok=τ/\Wh=fr then some (h.1▸x,r) else none
 |_,_,_,_=>none
def Tj:(b d:OB)-> {R:Type} ->R->Option (obV b R)
 | .arr fr tr e tid _, .arr Wh tr' e' Uz xs,_,r=>if h:e'=e/\Wh=fr/\tr'=tr/\Uz=tid then some (h.1▸xs,r) else none
 | .Gu e tid _, .Gu e' Uz xs,_,r=>if h:e'=e/\Uz=tid then some (h.1▸xs,r) else none
 | .Vu v _, .Vu v' m,_,r=>if h:v'=v then some (h▸m,r) else none
 | .var t vs, .var t' us,_,r=>if t'=t then Sp vs us r else none
 | .Bl e te _ out none, .Bl e' Rj rows gT none,_,r=>if h:e'=e/\Rj=te/\gT=out then some (h.1▸rows,r) else none
 | .Bl e te _ out (some p), .Bl e' Rj rows gT (some p'),_,r=>if h:e'=e/\Rj=te/\gT=out/\p'.1=p.1 then some (h.1▸rows,p'.2,r) else none
 |_,_,_,_=>none
def Pd:(l m:List AV)-> {R:Type} ->R->Option (qV l R)
 | [],[],_,r=>some r
 |c::l,d::m,_,r=>(Pd l m r).bind λr'=>lQ c d r'
 |_,_,_,_=>none
def Qn:(l m:List (Nat×OB))-> {R:Type} ->R->Option (xe l R)
 | [],[],_,r=>some r
 |p::l,q::m,_,r=>if q.1=p.1 then (Qn l m r).bind λr'=>Tj p.2 q.2 r' else none
 |_,_,_,_=>none
def jw (s t:St):Option (stV s):=(Qn s.heap t.heap ()).bind λr=>Pd s.tmps t.tmps r
def lK:(c:AC)-> {R:Type} ->acV c R->AC×R
 | .data fr τ _,_,v=>(.data fr τ v.1,v.2)
 | .undef,_,r=>(.undef,r)
 | .skip,_,r=>(.skip,r)
 | .Ly,_,r=>(.Ly,r)
 | .Vt,_,r=>(.Vt,r)
 | .own l off len,_,r=>(.own l off len,r)
 | .Hj l i,_,r=>(.Hj l i,r)
 | .Kk l _,_,v=>(.Kk l v.1,v.2)
 | .clo f c,_,r=>(.clo f c,r)
 | .Ks l,_,r=>(.Ks l,r)
 | .sub l _ c,_,v=>(.sub l v.1 c,v.2)
 | .Kh l _ _,_,v=>(.Kh l v.1 v.2.1,v.2.2)
def aI:(l:List AC)-> {R:Type} ->JL l R->List AC×R
 | [],_,r=>([],r)
 |c::l,_,v=>((lK c v).1::(aI l (lK c v).2).1,(aI l (lK c v).2).2)
def sC:(c:AV)-> {R:Type} ->avV c R->AV×R
 | .at a,_,v=>(.at (lK a v).1,(lK a v).2)
 | .agg cs,_,v=>(.agg (aI cs v).1,(aI cs v).2)
 | .bu fr τ _,_,v=>(.bu fr τ v.1,v.2)
 | .Mw l,_,r=>(.Mw l,r)
def tY:(b:OB)-> {R:Type} ->obV b R->OB×R
 | .arr fr tr e tid _,_,v=>(.arr fr tr e tid v.1,v.2)
 | .Gu e tid _,_,v=>(.Gu e tid v.1,v.2)
 | .Vu w _,_,v=>(.Vu w v.1,v.2)
 | .var t vs,_,v=>(.var t (aI vs v).1,(aI vs v).2)
 | .Bl e te _ out none,_,v=>(.Bl e te v.1 out none,v.2)
 | .Bl e te _ out (some p),_,v=>(.Bl e te v.1 out (some (p.1,v.2.1)),v.2.2)
def Xf:(l:List AV)-> {R:Type} ->qV l R->List AV×R
 | [],_,r=>([],r)
 |c::l,_,v=>((sC c v).1::(Xf l (sC c v).2).1,(Xf l (sC c v).2).2)
def ed:(l:List (Nat×OB))-> {R:Type} ->xe l R->List (Nat×OB)×R
 | [],_,r=>([],r)
 |p::l,_,v=>((p.1,(tY p.2 v).1)::(ed l (tY p.2 v).2).1,(ed l (tY p.2 v).2).2)
def jv (s:St) (v:stV s):St:= {tmps:=(Xf s.tmps v).1,heap:=(ed s.heap (Xf s.tmps v).2).1}
def lenOf (H:List (Nat×OB)) (l:Nat):Nat:=match At H l with|some (.arr _ _ _ _ xs)=>xs.length|some (.Gu _ _ xs)=>xs.length|some (.Bl _ _ rows _ _)=>rows.length|_=>0
def ak (ps:List Nat):List AV->List (Nat×Nat×Nat)
 | []=> []
 | .at (.own l off len)::r=>if ps.contains l then (l,off,len)::ak ps r else ak ps r
 |_::r=>ak ps r
def Aiz:List (Nat×Nat×Nat)->Nat->Nat
 | [],_=>0
 |(k,o,_)::r,l=>if k=l then o else Aiz r l
def TB:List (Nat×Nat×Nat)->List (Nat×OB)->Nat->Nat
 | [],H,l=>lenOf H l
 |(k,_,n)::r,H,l=>if k=l then n else TB r H l
def fV (B:List (Nat×Nat×Nat)) (H:List (Nat×OB)):AC->AC
 | .own l _ _=> .own l (Aiz B l) (TB B H l)
 |c=>c
def St.whole (B:List (Nat×Nat×Nat)) (s:St):St:=s.Lc (fV B s.heap)
def yw (B:List (Nat×Nat×Nat)) (H:List (Nat×OB)) (c:AC) (K:Prop):Prop:=match c with
 | .own l off len=>off=Aiz B l/\len=TB B H l/\K
 |_=>K
def dJ (B:List (Nat×Nat×Nat)) (H:List (Nat×OB)):List AC->Prop->Prop
 | [],K=>K
 |c::r,K=>yw B H c (dJ B H r K)
def PD (B:List (Nat×Nat×Nat)) (H:List (Nat×OB)) (c:AV) (K:Prop):Prop:=match c with
 | .at a=>yw B H a K
 | .agg cs=>dJ B H cs K
 | .bu _ _ _=>K
 | .Mw _=>False
def bt (B:List (Nat×Nat×Nat)) (H:List (Nat×OB)):List AV->Prop->Prop
 | [],K=>K
 |c::r,K=>PD B H c (bt B H r K)
def jS (B:List (Nat×Nat×Nat)) (H:List (Nat×OB)):List (Nat×OB)->Prop->Prop
 | [],K=>K
 |p::r,K=>match p.2 with
  | .var _ vs=>dJ B H vs (jS B H r K)
  |_=>jS B H r K
def AN (B:List (Nat×Nat×Nat)) (s:St) (K:Prop):Prop:=bt B s.heap s.tmps (jS B s.heap s.heap K)
def AV.Yn:AV->Bool
 | .at (.data _ _ _)=>true
 |_=>false
def Kr (p:Nat->Bool):Nat->List AV->List Bool
 |_,[]=> []
 |i,v::r=>(v.Yn&&p i)::Kr p (i+1) r
def stays (live:Nat->List Nat) (c:Code) (t:Nat):Bool:=!(writes c).contains t&&bS live c t
def Ub:List Bool->List AV->List AV
 |true::f,_::r=> .undef::Ub f r
 |false::f,v::r=>v::Ub f r
 |_,l=>l
def Vi:List Bool->List AV->List AV->List AV
 |true::f,a::s,_::r=>a::Vi f s r
 |false::f,_::s,v::r=>v::Vi f s r
 |_,_,l=>l
def St.mask (fx:List Bool) (s:St):St:= {tmps:=Ub fx s.tmps,heap:=s.heap}
def St.vY (fx:List Bool) (s0 s:St):St:= {tmps:=Vi fx s0.tmps s.tmps,heap:=s.heap}
def rV (c:AC) (k:AC->Prop):Prop:=match c with
 | .undef=>k .undef
 | .skip=>k .skip
 | .Ly=>k .Ly
 | .Vt=>k .Vt
 | .data fr τ x=>match fr with
  |true=>k (.data true τ x)
  |false=>k (.data false τ x)
 | .own l off len=>k (.own l off len)
 | .Hj l i=>k (.Hj l i)
 | .Kk l i=>k (.Kk l i)
 | .clo f c=>k (.clo f c)
 | .Ks l=>k (.Ks l)
 | .sub l i c=>k (.sub l i c)
 | .Kh l i c=>k (.Kh l i c)
def iJ:List AC->(List AC->Prop)->Prop
 | [],k=>k []
 |c::r,k=>rV c λc'=>iJ r λr'=>k (c'::r')
def yS (c:AV) (k:AV->Prop):Prop:=match c with
 | .at a=>rV a λa'=>k (.at a')
 | .agg cs=>iJ cs λiz=>k (.agg iz)
 | .bu fr τ x=>k (.bu fr τ x)
 | .Mw l=>k (.Mw l)
def iK:List AV->(List AV->Prop)->Prop
 | [],k=>k []
 |c::r,k=>yS c λc'=>iK r λr'=>k (c'::r')
def yT (b:OB) (k:OB->Prop):Prop:=match b with
 | .arr fr tr e tid xs=>match fr,tr with
  |true,true=>k (.arr true true e tid xs)
  |true,false=>k (.arr true false e tid xs)
  |false,true=>k (.arr false true e tid xs)
  |false,false=>k (.arr false false e tid xs)
 | .Gu e tid xs=>k (.Gu e tid xs)
 | .var t vs=>iJ vs λvs'=>k (.var t vs')
 | .Bl e te rows out kp=>match out,kp with
  |none,none=>k (.Bl e te rows none none)
  |none,some (l,n)=>k (.Bl e te rows none (some (l,n)))
  |some i,none=>k (.Bl e te rows (some i) none)
  |some i,some (l,n)=>k (.Bl e te rows (some i) (some (l,n)))
 | .Vu v m=>k (.Vu v m)
def sW:List (Nat×OB)->(List (Nat×OB)->Prop)->Prop
 | [],k=>k []
 |(l,b)::r,k=>yT b λb'=>sW r λr'=>k ((l,b')::r')
def ao (w:WS) (k:WS->Prop):Prop:=iK w.st.tmps λt=>sW w.st.heap λh=>k {kn:=w.kn,st:= {tmps:=t,heap:=h} }
def oX (s:St) (k:St->Prop):Prop:=iK s.tmps λt=>sW s.heap λh=>k {tmps:=t,heap:=h}
def fb:List Bool->(List Bool->Prop)->Prop
 | [],k=>k []
 |true::r,k=>fb r λr'=>k (true::r')
 |false::r,k=>fb r λr'=>k (false::r')
theorem qe {c:AC} {k:AC->Prop} :rV c k↔k c:=by
 cases c<;>simp only [rV]
 split<;>rfl
theorem eZ: ∀ {l:List AC} {k:List AC->Prop},iJ l k↔k l
 | [],k=>Iff.rfl
 |c::r,k=>by simp only [iJ];rw [qe,eZ]
theorem DR {c:AV} {k:AV->Prop} :yS c k↔k c:=by
 cases c<;>simp only [yS]
 ·exact qe
 ·exact eZ
theorem fa: ∀ {l:List AV} {k:List AV->Prop},iK l k↔k l
 | [],k=>Iff.rfl
 |c::r,k=>by simp only [iK];rw [DR,fa]
theorem DS {b:OB} {k:OB->Prop} :yT b k↔k b:=by
 cases b<;>simp only [yT]
 ·split<;>rfl
 ·exact eZ
 ·split<;>rfl
theorem lY: ∀ {l:List (Nat×OB)} {k:List (Nat×OB)->Prop},sW l k↔k l
 | [],k=>Iff.rfl
 |(l,b)::r,k=>by simp only [sW];rw [DS,lY]
theorem SJ {s:St} {k:St->Prop} :oX s k=k s:=by
 unfold oX
 exact propext (by rw [fa,lY])
theorem fc: ∀ {l:List Bool} {k:List Bool->Prop},fb l k=k l
 | [],k=>rfl
 |true::r,k=>by simp only [fb];rw [fc]
 |false::r,k=>by simp only [fb];rw [fc]
theorem Oh {w:WS} {k:WS->Prop} :ao w k↔k w:=by
 unfold ao
 rw [fa,lY]
def bA:AC->List (Nat×Nat)
 | .own _ off len=> [(off,len)]
 |_=> []
def bC:AV->List (Nat×Nat)
 | .at a=>bA a
 | .agg cs=>cs.flatMap bA
 |_=> []
def mi:OB->List (Nat×Nat)
 | .var _ vs=>vs.flatMap bA
 |_=> []
def NX (s:St):List (Nat×Nat):=s.tmps.flatMap bC++s.heap.flatMap λp=>mi p.2
def eqW (s0 s:St):Prop:=NX s=NX s0/\Hz (jw s0 s) λv=>v=RF s0
def bK (ops:Array Oper):Nat->Array Bool->WS->(WS->Prop)->Prop
 |0,Ag,w,K=>match Region.ready .any ops Ag with
  | []=>K w
  |_::_=>False
 |f+1,Ag,w,K=>match Region.ready .any ops Ag with
  | []=>False
  |k::_=>Hz ops[k]? λo=>jy ops w o (λkk w'=>opW T Γ w' o kk) λw'=>bK ops f (Ag.setIfInBounds k true) w' K
def CM (P:List (Nat×Nat×AV×OB)) (ops:Array Oper):Nat->Array Bool->WS->(WS->Prop)->Prop
 |0,Ag,w,K=>match Region.ready .any ops Ag with
  | []=>K w
  |_::_=>False
 |f+1,Ag,w,K=>match Region.ready .any ops Ag with
  | []=>False
  |i::r=>WZ (i::r) λk=>Hz ops[k]? λo=>match ME P Γ ops w.st o k with
   |true=>jy ops w o (λkk w'=>opW T Γ w' o kk) λw'=>CM P ops f (Ag.setIfInBounds k true) w' K
   |false=>False
def yg (ops:Array Oper) (E:List Nat) (Ag:Array Bool) (w:WS):List Nat->Prop->Prop
 | [],K=>K
 |r::R,K=>match sk ops E Ag r with
  |true=>yg ops E Ag w R K
  |false=>(kX T Γ ops [r] w λw'=>Hz ((ops[r]?).bind (·.dst)) λd=>match Nat.blt d w.st.tmps.length with
    |true=>eqW ⟨[w.st.get d],[]⟩ ⟨[w'.st.get d],[]⟩
    |false=>False)/\yg ops E Ag w R K
def su (ops:Array Oper) (E:List Nat):Nat->Array Bool->WS->(WS->Prop)->Prop
 |0,Ag,w,K=>yg T Γ ops E Ag w E (match Region.ready .any ops Ag with
  | []=>K w
  |_::_=>False)
 |f+1,Ag,w,K=>yg T Γ ops E Ag w E (match Region.ready .any ops Ag with
  | []=>False
  |i::r=>WZ (i::r) λk=>Hz ops[k]? λo=>jy ops w o (λkk w'=>opW T Γ w' o kk) λw'=>su ops E f (Ag.setIfInBounds k true) w' K)
def MZ (E:List Nat) (n:Nat) (L0:Array Bool) (ops:Array Oper) (w:WS) (K:WS->Prop):Prop:=
 match cP ops E L0&&(Nat.ble E.length n&&Nat.ble (n-E.length) 10) with
 |true=>kX T Γ ops E w λw1=>ao w1 λw1=>bK T Γ ops (n-E.length) (Ei E L0) w1 λw0=>ao w0 λw0=>K w0/\su T Γ ops E (n-E.length) (Ei E L0) w1 λw2=>ao w2 λw2=>eqW w0.st w2.st
 |false=>False
def yE (P:List (Nat×Nat×AV×OB)) (n:Nat) (L0:Array Bool) (ops:Array Oper) (w:WS) (K:WS->Prop):Prop:=
 match (aq (P.map (·.1))&&aq (P.map (·.2.1)))&&((P.all λa=>ph a.2.1 w.st)&&(Nat.ble P.length n&&Nat.ble (n-P.length) 10)) with
 |true=>ZB T Γ ops (P.map (·.1)) w λw1=>ao w1 λw1=>bK T Γ ops (n-P.length) (Ei (P.map (·.1)) L0) w1 λw0=>ao w0 λw0=>K w0/\CM T Γ P ops (n-P.length) (Ei (P.map (·.1)) L0) w1 λw2=>eqW w0.st w2.st
 |false=>MZ T Γ (kd ops (List.range ops.size) L0) n L0 ops w K
def j7:Nat:=800000000
def GA (ops:Array Oper):Nat->Array Bool->Bool
 |0,Ag=>(Region.ready .any ops Ag).isEmpty
 |f+1,Ag=>match Region.ready .any ops Ag with
  | [i]=>GA ops f (Ag.setIfInBounds i true)
  |_=>false
def QY (ops:Array Oper) (L0:Array Bool):List Nat:=kd ops (List.range ops.size) L0
def xD (ops:Array Oper):Array Bool:=Ei (Kt ops) (Array.replicate ops.size false)
def Aa2 (ops:Array Oper):Bool:=Region.noSelect ops&&(cP ops (QY ops (xD ops)) (xD ops)&&(Nat.ble (QY ops (xD ops)).length (ops.size-(Kt ops).length)&&Nat.ble ((ops.size-(Kt ops).length)-(QY ops (xD ops)).length) 10))
def eqM (fx:List Bool) (s0 s:St):Prop:=eqW (s0.mask fx) (s.mask fx)
def Ta (ops:Array Oper) (t:Nat):Bool:=!Zg ops t
def ve (ops:Array Oper):List Nat:=(ops.toList.filterMap λo=>match o.op with
 | .alloc _=>none
 | .box _ _=>none
 | .assign _=>none
 |_=>o.dst).filter λd=>ops.toList.any λo=>(o.looksAt ops).contains d
def WS.Qq (dead:List Nat) (w:WS):WS:= {kn:=w.kn.filter λp=>!dead.contains p.1,st:=w.st.Qq dead}
def Aa3 (dead E:List Nat) (n:Nat) (L0:Array Bool) (ops:Array Oper) (w:WS) (K:WS->Prop):Prop:=
 match cP ops E L0&&Nat.ble E.length n with
 |true=>kX T Γ ops E w λw1=>ao w1 λw1=>match GA ops (n-E.length) (Ei E L0) with
  |true=>su T Γ ops E (n-E.length) (Ei E L0) w1 λw2=>K (w2.Qq dead)
  |false=>fb (Kr (Ta ops) 0 w1.st.tmps) λfx=>bK T Γ ops (n-E.length) (Ei E L0) w1 λw0=>ao (w0.Qq dead) λw0=>K w0/\su T Γ ops E (n-E.length) (Ei E L0) w1 λw2=>ao (w2.Qq dead) λw2=>eqM fx w0.st w2.st
 |false=>False
def sf (ops:Array Oper) (draw:Bool) (w:WS) (K:WS->Prop):Prop:=
 match draw with
 |true=>match cO false Γ ops with
  |true=>kX T Γ ops (jR false Γ ops) w λw'=>ZB T Γ ops (Jp false Γ ops) w' K
  |false=>match cO true Γ ops with
   |true=>kX T Γ ops (jR true Γ ops) w λw'=>ZB T Γ ops (Jp true Γ ops) w' K
   |false=>match Region.noSelect ops&&Nat.ble (ops.size-(Kt ops).length) 8 with
    |true=>kX T Γ ops (Kt ops) w λw'=>match jN false ops&&!T.marks.contains j7 with
     |true=>RS T Γ ops (ops.size-(Kt ops).length) (Ei (Kt ops) (Array.replicate ops.size false)) w' K
     |false=>bK T Γ ops (ops.size-(Kt ops).length) (Ei (Kt ops) (Array.replicate ops.size false)) w' λw0=>ao w0 λw0=>K w0/\RS T Γ ops (ops.size-(Kt ops).length) (Ei (Kt ops) (Array.replicate ops.size false)) w' λw1=>eqW w0.st w1.st
    |false=>match Region.noSelect ops with
     |true=>kX T Γ ops (Kt ops) w λw'=>yE T Γ (Zt T ops (Ei (Kt ops) (Array.replicate ops.size false))) (ops.size-(Kt ops).length) (Ei (Kt ops) (Array.replicate ops.size false)) ops w' K
     |false=>False
 |false=>Aj1 T Γ ops ops.toList w K
def zS (ops:Array Oper) (draw:Bool) (w:WS) (K:WS->Prop):Prop:=
 match T.marks.contains j7&&(ve ops).all (Zg ops) with
 |true=>match draw&&(!(cO false Γ ops||cO true Γ ops)&&Aa2 ops) with
  |true=>kX T Γ ops (Kt ops) w λw'=>Aa3 T Γ (ve ops) (QY ops (xD ops)) (ops.size-(Kt ops).length) (xD ops) ops w' K
  |false=>sf T Γ ops draw w λw'=>K (w'.Qq (ve ops))
 |false=>sf T Γ ops draw w K
def dN (live:Nat->List Nat):Code->WS->(Lo->WS->Prop)->Prop
 | .skip,w,Q=>Q .normal w
 | .label _,w,Q=>Q .normal w
 | .region _ ops draw,w,Q=>zS T (zR Γ draw) ops draw {w with st:=w.st.mR ops} λw'=>ao w' (Q .normal)
 | .seq a b,w,Q=>dN live a w λe w'=>match e with
  | .normal=>dN live b w' Q
  | .exit id=>Q (.exit id) w'
  | .ret=>Q .ret w'
 | .cond c a b,w,Q=>brO w c λt w'=>match t with
  |true=>dN live a w' Q
  |false=>dN live b w' Q
 | .block id c,w,Q=>dN live c w λe w'=>match e with
  | .normal=>Q .normal w'
  | .exit SW=>if SW=id then Q .normal w' else Q (.exit SW) w'
  | .ret=>Q .ret w'
 | .loop c,w,Q=>
  oX (w.st.clean (live (Ev c))) λs0=>fb (Kr (stays live c) 0 s0.tmps) λfx=>oX (s0.mask fx) λm=>
  AN (ak T.parts s0.tmps) s0 (Dh (V:=stV m) (λv k=>oX ((St.vY fx s0 (jv m v)).whole (ak T.parts s0.tmps)) λsb=>dN live c ⟨[],sb⟩ λe w'=>match e with
   | .normal=>oX (w'.st.clean (live (Ev c))) λs1=>AN (ak T.parts s0.tmps) s1 (Hz (jw m (s1.mask fx)) k)
   | .exit id=>Q (.exit id) w'
   | .ret=>Q .ret w') (RF m))
 | .exit id,w,Q=>Q (.exit id) w
 | .ret,w,Q=>Q .ret w
 |_,_,_=>False
def Ah2 (s:Spec) (fn:Func) (P:s.res.den->Prop) (st:St):Prop:=
 Hz (nf T s fn st) λp=>match p.1||!s.fresh with|true=>P p.2|false=>False
def iW (st:St) (K:Prop):List AC->List (Bool×CK)->Prop
 | .own l off len::as,(true,_)::r=>match st.at l with
  |some (.arr _ _ _ _ xs)=>(off=0/\len=xs.length)/\iW st K as r
  |some (.Gu _ _ xs)=>(off=0/\len=xs.length)/\iW st K as r
  |_=>False
 |_::as,(false,_)::r=>iW st K as r
 |_,_=>K
def po (st:St):(cs:List CK)->List AC->(CKs.den cs->List Nat->Prop)->Prop
 | [],[],K=>K () []
 | .Bl e te _::r, .own l off len::as,K=>match st.at l with
  |some (.Bl e' Rj rows none _)=>if h:e'=e/\Rj=te then (off=0/\len=rows.length)/\po st r as λy t=>K ((h.1▸rows:List (List e.den)),y) (l::t) else False
  |_=>False
 |c::r,a::as,K=>Hz (kH st c a) λp=>po st r as λy t=>K (p.1,y) (p.2++t)
 |_,_,_=>False
def zk (st:St) (n:Nat) (as:List AC):List (Nat×Nat)->Prop->Prop
 | [],K=>K
 |(k,j)::r,K=>match as[j]? with
  |some (.own l _ _)=>match st.at l with
   |some (.Bl _ _ _ _ (some p))=>match Nat.beq p.1 (Dx false k)&&Nat.blt k 1000 with
    |true=>n<=p.2/\zk st n as r K
    |false=>False
   |_=>False
  |_=>False
def uo (s:MSpec) (fn:Func) (x:Ins.den s.ins) (st:St) (cs:List AC) (P:CKs.den s.outs×IOs.den s.ins->Prop):Prop:=
 Hz (dv T st fn.results.toList) λl=>Hz (ND s st l) λp=>po st s.outs (cs++p.1) λr ls=>Hz (Ow st 0 s.ins) λo=>
  match aq (p.2++ls++Qb 0 s.ins)&&Nat.blt s.ins.length 1000&&Nat.blt s.outs.length 1000&&s.ZU with
  |true=>zk st (s.Fb x) (cs++p.1) s.keeps (P (r,o))
  |false=>False
def RC (s:MSpec) (fn:Func) (x:Ins.den s.ins) (st:St) (P:CKs.den s.outs×IOs.den s.ins->Prop):Prop:=
 match s.ptr with
 |none=>uo T s fn x st [] P
 |some p=>match st.at Pe with
  |some (.var tid vs)=>match Nat.beq tid p.1&&Nat.beq vs.length p.2 with
   |true=>Hz (Jm 0 s.ins vs) λcs=>iW st (uo T s fn x st cs P) vs s.ins
   |false=>False
  |_=>False
@[irreducible] def fnMW (s:MSpec) (fn:Func) (x:Ins.den s.ins) (P:CKs.den s.outs×IOs.den s.ins->Prop):Prop:=
 match Nat.blt s.ins.length 1000&&zM s with
 |false=>False
 |true=>Hz fn.body λc=>dN T Γ (zq T.marks fn c) c {kn:= [],st:= {tmps:=aC s (bQ 0 s.ins x)++List.replicate (fn.ntmps-(aC s (bQ 0 s.ins x)).length) .undef,heap:=qp s x} } λe w=>match e with
  | .normal=>RC T s fn x w.st P
  | .ret=>RC T s fn x w.st P
  | .exit _=>False
@[irreducible] def fnW (s:Spec) (fn:Func) (x:s.arg.den) (P:s.res.den->Prop):Prop:=
 Hz fn.body λc=>dN T Γ (zq T.marks fn c) c {kn:= [],st:= {tmps:=Te s.arg x++List.replicate (fn.ntmps-(Te s.arg x).length) .undef,heap:= []} } λe w=>match e with
  | .normal=>Ah2 T s fn P w.st
  | .ret=>Ah2 T s fn P w.st
  | .exit _=>False
end Go.Proofs.Ytkkdpknjohcekaa
