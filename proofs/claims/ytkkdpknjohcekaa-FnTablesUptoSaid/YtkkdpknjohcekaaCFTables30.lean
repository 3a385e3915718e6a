/-
  Part 31 of the proof that the statement FnTables holds.
-/
import Derived.Test.YtkkdpknjohcekaaCFTables29
namespace Go.Proofs.Ytkkdpknjohcekaa
open Go.RowKit
inductive Br (b:Bool) (A B:Prop):Prop
 |mk (t:b=true->A) (f:b=false->B)
inductive Em {V:Type} (step:V->(V->Prop)->Prop) (v0:V):Prop
 |mk (I:V->Prop) (μ:V->Nat) (h0:I v0) (h: ∀v,I v->step v (λv'=>I v'/\μ v'<μ v))
structure WS where
 kn:List (Nat×Bool)
 st:St
def lv:List (Nat×Bool)->Nat->Option Bool
 | [],_=>none
 |(k,b)::r,t=>if k=t then some b else lv r t
def uj:List (Nat×Bool)->Nat->List (Nat×Bool)
 | [],_=> []
 |(k,b)::r,t=>if k=t then uj r t else (k,b)::uj r t
def WS.put (w:WS) (dst:Option Tmp) (v:AV):WS:=
 match dst with
 |some d=> {kn:=uj w.kn d,st:=w.st.put (some d) v}
 |none=>w
def Uw (kn:List (Nat×Bool)):Operand->Option Bool
 | .const (.bool b)=>some b
 | .tmp t=>lv kn t
 |_=>none
def Gu (kn:List (Nat×Bool)) (o:Oper):Option Bool:=
 match o.op with
 | .assign x=>Uw kn x
 | .move x=>Uw kn x
 | .unOp .not _ x=>(Uw kn x).map (!·)
 | .pick c a b=>match Uw kn c with
  |some true=>Uw kn a
  |some false=>Uw kn b
  |none=>none
 |_=>none
def WS.sW (w:WS) (o:Oper) (v:AV):WS:=
 match o.dst,Gu w.kn o with
 |some d,some b=>match (w.st.put (some d) v).get d with
  | .at (.data _ .bool _)=> {kn:=(d,b)::uj w.kn d,st:=w.st.put (some d) v}
  |_=>w.put (some d) v
 |dst,_=>w.put dst v
def WS.to (w:WS) (st:St):WS:= {kn:=w.kn,st:=st}
def brT (w:WS) (t:Nat) (K:Bool->WS->Prop):Prop:=
 match lv w.kn t with
 |some b=>K b w
 |none=>match w.st.get t with
  | .at (.data _ .bool b)=>Br b (K true {kn:=(t,true)::w.kn,st:=w.st}) (K false {kn:=(t,false)::w.kn,st:=w.st})
  |_=>False
def brO (w:WS) (c:Operand) (K:Bool->WS->Prop):Prop:=
 match c with
 | .tmp t=>brT w t K
 | .const (.bool b)=>K b w
 |_=>False
def Hc {α:Type} (o:Option α) (K:α->Prop):Prop:=match o with|some x=>K x|none=>False
def Abe (T:Tab) (st:St) (t:TypeId) (x:AV) (l h:Int):Option AV:=
 match x with
 | .at (.data fr (.slice e) xs)=>if (T.elem t).bind T.ty=some e then some (.at (.data fr (.slice e) ((xs.take h.toNat).drop l.toNat))) else none
 | .at (.own k off _)=>match st.at k with
  |some (.arr _ _ e tid _)=>if T.elem t=some tid/\T.ty tid=some e then some (.at (.own k (off+l.toNat) (h.toNat-l.toNat))) else none
  |_=>none
 | .at (.data _ .str s)=>if T.ty t=some .str then some (.at (.data true .str (s.extract l.toNat h.toNat))) else none
 |_=>none
variable (T:Tab) (Γ:Env)
def ZE (op:BinOp) (t:TypeId) (x y:AV) (K:AV->Prop):Prop:=
 match op,x,y with
 | .quo, .at (.data _ (.int k) a), .at (.data _ (.int k') b)=>if k=k' then b≠0/\K (.at (.data true (.int k) (k.wrap (a.tdiv b)))) else False
 | .rem, .at (.data _ (.int k) a), .at (.data _ (.int k') b)=>if k=k' then b≠0/\K (.at (.data true (.int k) (a.tmod b))) else False
 | .shl, .at (.data _ (.int k) a), .at (.data _ (.int _) b)=> ¬b<0/\K (.at (.data true (.int k) (k.wrap (a*2^(min b.toNat k.bits)))))
 | .shr, .at (.data _ (.int k) a), .at (.data _ (.int _) b)=> ¬b<0/\K (.at (.data true (.int k) (a.fdiv (2^(min b.toNat k.bits)))))
 | .add, .at (.data _ .str a), .at (.data _ .str b)=>a.size+b.size<=4294967296/\K (.at (.data true .str (a++b)))
 |op,x,y=>Hc (Se T op t x y) K
def QO (st:St) (t:TypeId) (p:AV) (K:AV->Prop):Prop:=
 match p with
 | .at (.Jl l i)=>Hc (T.ty t) λτ=>match st.at l with
  |some (.arr fr _ e _ xs)=>if e=τ then ∃x,xs[i]?=some x/\K (.at (.data (fr||e.flat) e x)) else False
  |some (.Gl e _ xs)=>if e=τ then ∃x,xs[i]?=some x/\K (if e.Am then .agg (dO l i 0 e x) else .at ((dO l i 0 e x).headD .undef)) else False
  |some (.Bm _ _ _ none _)=>if τ.Am then False else K (.at (.sub l i 0))
  |_=>False
 | .at (.data fr (.optr Nh) x)=>Hc (T.ty t) λτ=>if Nh=τ then ∃y,x=some y/\K (.at (.data (fr||Nh.flat) Nh y)) else False
 |p=>Hc (Pe T st t p) K
def jS (s:TypeId) (x:AV) (f:Nat) (K:AV->Prop):Prop:=
 match x with
 | .at (.data fr (.optr τ) x)=> ∃y,x=some y/\Hc (Nc T s (.at (.data fr (.ptr τ) y)) f) K
 |x=>Hc (Nc T s x f) K
def uw (st:St) (x:Operand) (K:AV->Prop) (d:Option AV):Prop:=
 match st.ev x with
 | .at (.data fr (.optr τ) x)=> ∃y,x=some y/\K (.at (.data fr (.ptr τ) y))
 |_=>Hc d K
def FE (st:St) (t:TypeId) (x:AV) (lo hi:Option AV) (K:AV->Prop):Prop:=
 Hc (za x) λn=>Hc (NK lo 0) λl=>Hc (NK hi n) λh=>(0<=l/\l<=h/\h<=n)/\Hc (Abe T st t x l h) K
def jY (st:St) (t:TypeId) (x i:AV) (K:AV->Prop):Prop:=
 match x,i with
 | .at (.data fr (.slice e) xs), .at (.data _ (.int _) n)=>if (T.elem t).bind T.ty=some e then ∃x,idx xs n=some x/\K (.at (.data fr (.ptr e) x)) else False
 | .at (.own l off len), .at (.data _ (.int _) n)=>match st.at l with
  |some (.arr _ _ e tid _)=>if T.elem t=some tid/\T.ty tid=some e then (0<=n/\n<len)/\K (.at (.Jl l (off+n.toNat))) else False
  |some (.Gl e tid _)=>if T.elem t=some tid/\T.ty tid=some e then (0<=n/\n<len)/\K (.at (.Jl l (off+n.toNat))) else False
  |some (.Bm _ te _ _ _)=>if T.elem t=some te/\(T.ty te).map Ty.size=some 1 then (0<=n/\n<len)/\K (.at (.Jl l (off+n.toNat))) else False
  |_=>False
 | .at (.sub l i _), .at (.data _ (.int _) n)=>match st.at l with
  |some (.Bm e _ rows none _)=>if ((T.elem t).bind T.ty).map Ty.size=some e.size then (0<=n/\n<(rows.getD i []).length)/\K (.at (.Ji l i n.toNat)) else False
  |_=>False
 |_,_=>False
def DD (t:TypeId) (x i:AV) (K:AV->Prop):Prop:=
 match x,i with
 | .at (.data _ .str s), .at (.data _ (.int _) n)=>if T.ty t=some .str then 0<=n/\ ∃b,s[n.toNat]?=some b/\K (.at (.data true (.int .u8) b.toNat)) else False
 |_,_=>False
def tU (st:St) (f:FuncId) (args:List AV) (K:AV->Prop):Prop:=
 Hc (match Γ f with|some (.q s)=>some s|_=>none) λs=>match s.fresh||s.res.flat||args.all (·.settled) with
  |true=>Hc (Dr st s.arg args) λp=> ∃y,s.fn p.2=some y/\K (if s.Hx then .Zw (s.fresh||s.res.flat) s.res y else .at (.data (s.fresh||s.res.flat) s.res y))
  |false=>False
def BZ (st:St) (v:AV) (args:List AV) (K:AV->Prop):Prop:=
 match v with
 | .at (.data fr (.clo f τ) x)=>match τ.chain with|true=>(match Nat.blt f 1000000000 with|true=>tU Γ st f (args++a8 fr τ x) K|false=>tU Γ st (f-1000000000) (a8 fr τ x++args) K)|false=>False
 | .at (.clo f Dy)=>tU Γ st f (args++Dy.map λp=> .at (.Gs p.1 p.2)) K
 |_=>False
def qW (w:WS) (o:Oper) (K:AV->WS->Prop):Prop:=
 match o.op with
 | .pick c a b=>brO w c λt w'=>match t with|true=>K (w'.st.ev a) w'|false=>K (w'.st.ev b) w'
 | .load t a=>QO T w.st t (w.st.ev a) λv=>K v w
 | .binOp op t x y _=>ZE T op t (w.st.ev x) (w.st.ev y) λv=>K v w
 | .slice t x lo hi mx=>match mx with
  |none=>FE T w.st t (w.st.ev x) (lo.map w.st.ev) (hi.map w.st.ev) λv=>K v w
  |some _=>False
 | .indexAddr t x i=>jY T w.st t (mO (w.st.ev x)) (w.st.ev i) λv=>K v w
 | .index t x i=>DD T t (w.st.ev x) (w.st.ev i) λv=>K v w
 | .call {callee:= .value (.func f),args, .. } =>tU Γ w.st f (args.toList.map w.st.ev) λv=>K v w
 | .call {callee:= .value (.tmp t),args, .. } =>BZ Γ w.st (w.st.get t) (args.toList.map w.st.ev) λv=>K v w
 | .fieldAddr s x f=>jS T s (w.st.ev x) f λv=>K v w
 | .nilCheck x=>uw w.st x (λv=>K v w) (Es T Γ w.st o)
 |_=>Hc (Es T Γ w.st o) λv=>K v w
def FK (st:St) (t:TypeId) (p v:AV) (K:St->Prop):Prop:=
 match p with
 | .at (.Jl l j)=>Hc (T.ty t) λτ=>Hc (settle st v) λq=>match q.2.at l with
  |some (.arr fr tr e tid xs)=>Hc (Fe q.2 τ q.1) λu=>if h:τ=e then j<xs.length/\K (q.2.Jh l (.arr (fr&&u.1) (tr&&(Rw st v&&e.tree)) e tid (xs.set j (h▸u.2)))) else False
  |_=>False
 |p=>Hc (Ti T st t p v) K
def IN (st:St) (t:TypeId) (p v:AV) (K:St->Prop):Prop:=
 match p with
 | .at (.Ji l i j)=>Hc (T.ty t) λτ=>Hc (settle st v) λq=>match q.2.at l with
  |some (.Bm e te rows none kp)=>Hc (Fe q.2 τ q.1) λu=>if h:τ=e then K (q.2.Jh l (.Bm e te (rows.set i ((rows.getD i []).set j (h▸u.2))) none kp)) else False
  |_=>False
 | .at (.Jl l j)=>Hc (T.ty t) λτ=>match st.at l,v with
  |some (.Bm e te rows out kp), .at (.own m off len)=>match st.at m with
   |some (.arr _ _ e' _ xs)=>if h:e'=e/\(Nat.blt l Bf&&(!Nat.beq m l&&!τ.Am))=true then
     off=0/\len=xs.length/\(match out with|none=>True|some i=>i=j)/\K (Sd st l j m e te rows (h.1▸xs) (aq j kp))
    else False
   |_=>False
  |_,_=>False
 |_=>False
def xu (st:St) (t:TypeId) (p v:AV) (K:St->Prop):Prop:=match HH st p with
 |true=>IN T st t p v K
 |false=>FK T st t p v K
def kI (st:St) (dst:Nat) (t:TypeId) (x y:Operand) (K:AV->St->Prop):Prop:=
 Hc (T.elem t) λte=>Hc (T.ty te) λe=>Hc (settle st (st.ev y)) λq=>Hc (Fe q.2 (.slice e) q.1) λu=>match q.2.ev x with
  | .at .Le=>match Nat.blt dst Bf with
   |true=>List.length u.2<=Et/\K (.at (.own dst 0 (List.length u.2))) ((q.2.new dst (.arr (T.sv||e.flat) T.AQ e te [])).new dst (.arr ((T.sv||e.flat)&&(u.1||e.flat)) (T.AQ&&(e.flat||(Rw st (st.ev y)&&e.tree))) e te u.2))
   |false=>False
  | .at (.own l off len)=>match q.2.at l with
   |some (.arr fr tr e' tid xs)=>if h:e'=e/\tid=te/\Nat.blt l Bf=true then
     off=0/\len=xs.length/\len+List.length u.2<=Et/\K (.at (.own l 0 (List.length ((h.1▸xs:List e.den)++u.2)))) (q.2.new l (.arr (fr&&(u.1||e.flat)) (tr&&(e.flat||(Rw st (st.ev y)&&e.tree))) e te ((h.1▸xs:List e.den)++u.2)))
    else False
   |_=>False
  |_=>False
def pH (st:St) (dst:Nat) (t:TypeId) (x y:Operand) (K:AV->St->Prop):Prop:=
 match x with
 | .tmp tx=>match st.get tx with
  | .at (.sub l i _)=>Hc (T.elem t) λtid=>match st.at l with
   |some (.Bm e te rows none kp)=>match Nat.blt l Bf&&(Nat.blt dst Bf&&!Nat.beq dst l) with
    |true=>kI T ((Pd st l i dst e te tid rows kp).put (some tx) (.at (.own dst 0 (rows.getD i []).length))) dst t x y K
    |false=>False
   |_=>False
  |_=>kI T st dst t x y K
 |_=>kI T st dst t x y K
def QT (st:St) (dst:Nat) (t:TypeId) (l c:AV) (K:AV->St->Prop):Prop:=
 match l,c with
 | .at (.data _ (.int _) n), .at (.data _ (.int _) m)=>Hc (T.elem t) λte=>Hc (T.ty te) λe=>match dZ e&&Nat.blt dst Bf with
  |true=>(0<=n/\n<Et+1)/\n=m/\K (.at (.own dst 0 (List.replicate n.toNat e.zero).length)) (st.new dst (.arr (T.sv||e.flat) (T.AQ&&e.tree) e te (List.replicate n.toNat e.zero)))
  |false=>False
 |_,_=>False
def DP (st:St) (dst:Nat) (t:TypeId) (l c:AV) (K:AV->St->Prop):Prop:=
 match cq T t with
 |none=>QT T st dst t l c K
 |some p=>match l,c with
  | .at (.data _ (.int _) n), .at (.data _ (.int _) m)=>match Nat.blt dst Bf with
   |true=>(0<=n/\n<Et+1)/\n=m/\K (.at (.own dst 0 (List.replicate n.toNat ([]:List p.2.den)).length)) (Qc st dst dst (.Bm p.2 p.1 (List.replicate n.toNat []) none none))
   |false=>False
  |_,_=>False
def cX (st:St) (dst:Nat) (t:TypeId) (len:Nat) (parts:Array (Nat×Operand)) (K:AV->St->Prop):Prop:=
 match cq T t with
 |none=>Hc (Lr T st dst t len parts) λr=>K r.1 r.2
 |some p=>match parts.toList with
  | [(0,x)]=>match st.ev x with
   | .at (.own m off ln)=>match st.at m with
    |some (.arr _ _ e' _ xs)=>if h:e'=p.2/\(Nat.beq len 1&&(Nat.blt dst Bf&&Nat.blt m Bf))=true then off=0/\ln=xs.length/\K (.at (.own dst 0 1)) (Qc st dst m (.Bm p.2 p.1 [h.1▸xs] none none)) else False
    |_=>False
   |_=>False
  |_=>False
def pJ (st:St) (dst:Nat) (t:TypeId) (x y:Operand) (K:AV->St->Prop):Prop:=
 match cq T t with
 |none=>pH T st dst t x y K
 |some p=>match st.ev x,st.ev y with
  | .at (.own l off len), .at (.own m RC qE)=>match st.at l,st.at m with
   |some (.Bm e1 te1 A none _),some (.Bm e2 tq B none _)=>
    if h:(e1=p.2/\e2=p.2)/\(decide (te1=p.1)&&decide (tq=p.1)&&(Nat.blt l Bf&&(Nat.blt m Bf&&!Nat.beq m l)))=true then
     (off=0/\len=A.length)/\(RC=0/\qE=B.length)/\0<B.length/\A.length+B.length<=Et/\
      K (.at (.own l 0 (List.length ((h.1.1▸A:List (List p.2.den))++(h.1.2▸B:List (List p.2.den)))))) (Qc st l m (.Bm p.2 p.1 ((h.1.1▸A:List (List p.2.den))++(h.1.2▸B:List (List p.2.den))) none none))
    else False
   |_,_=>False
  |_,_=>False
def dT (st:St) (io:Bool) (k:Nat):(c:CK)->AC->(c.den->List (Nat×Loc)->Prop)->Prop
 | .Fp τ, .own l off len,K=>Hc (Dj st τ (.own l off len)) λp=>K p.2 [(Ds false k, .view l)]
 | .Fp τ, .clo g Dy,K=>match aI st (Dy.map (·.1))&&!τ.Am with
  |true=>Hc (Jf st τ (.clo g Dy)) λp=>K p.2 (views k (Dy.map (·.1)))
  |false=>False
 | .Fp τ, .Gs l i,K=>match aI st [l]&&!τ.Am with
  |true=>Hc (Jf st τ (.Gs l i)) λp=>K p.2 (views k [l])
  |false=>False
 | .Fp τ, .sub l i c,K=>Hc (Dj st τ (.sub l i c)) λp=>K p.2 [(Ds false k, .view l)]
 | .Fp τ,a,K=>match τ.flat||a.settled with
  |true=>Hc (Dj st τ a) λp=>K p.2 []
  |false=>False
 | .row e te, .own l off len,K=>match st.at l with
  |some (.arr _ _ e' Qg xs)=>if h:e'=e/\Qg=te then off=0/\len=xs.length/\K (h.1▸xs:List e.den) [(Ds io k, .row l)] else False
  |_=>False
 | .row e _, .sub l i c,K=>match st.at l with
  |some (.Gl e' _ xs)=>if h:e'= .slice e/\e.flat=true/\io=true/\c=0 then ∃y,xs[i]?=some y/\K (h.1▸y:(Ty.slice e).den) [(Ds io k, .sub l i c)] else False
  |_=>False
 | .row _ _, .Le,K=>K [] []
 | .Hb e te, .own l off len,K=>match st.at l with
  |some (.Gl e' Qg xs)=>if h:e'=e/\Qg=te then off=0/\len=xs.length/\K (h.1▸xs:List e.den) [(Ds io k, .row l)] else False
  |_=>False
 | .Hb e _, .sub l i c,K=>match st.at l with
  |some (.Gl e' _ xs)=>if h:e'= .slice e/\io=true/\c=0 then ∃y,xs[i]?=some y/\K (h.1▸y:(Ty.slice e).den) [(Ds io k, .sub l i c)] else False
  |_=>False
 | .Hb _ _, .Le,K=>K [] []
 | .part e te, .own l off len,K=>match st.at l with
  |some (.arr _ _ e' Qg xs)=>if h:e'=e/\Qg=te/\e.flat=true/\io=true then K ((h.1▸xs:List e.den),off,len) [(Ds io k, .row l)] else False
  |_=>False
 | .Bm e te _, .own l off len,K=>match st.at l with
  |some (.Bm e' Qg rows none _)=>if h:e'=e/\Qg=te/\io=false then off=0/\len=rows.length/\K (h.1▸rows:List (List e.den)) [(Ds io k, .row l)] else False
  |_=>False
 |_,_,_=>False
def xF (st:St):(k:Nat)->(cs:List (Bool×CK))->List AC->(Ins.den cs->List (Nat×Loc)->Prop)->Prop
 |_,[],[],K=>K () []
 |k,p::r,a::as,K=>dT st p.1 k p.2 a λx t1=>xF st (k+1) r as λy t2=>K (x,y) (t1++t2)
 |_,_,_,_=>False
def nV (st:St):(c:CK)->c.den->AC->(St->Prop)->Prop
 | .row e _,ys, .own l _ len,K=>match st.at l with
  |some (.arr fr tr e' te xs)=>if h:e=e' then (List.length ys=len/\xs.length=len)/\K (st.Jh l (.arr (fr&&e'.flat) (tr&&e'.flat) e' te (h▸ys))) else False
  |_=>False
 | .Hb e _,ys, .own l _ len,K=>match st.at l with
  |some (.Gl e' te xs)=>if h:e=e' then (List.length ys=len/\xs.length=len)/\K (st.Jh l (.Gl e' te (h▸ys))) else False
  |_=>False
 | .row e _,ys, .sub l i _,K=>match st.at l with
  |some (.Gl e' te xs)=>if h: .slice e=e' then ∃y,xs[i]?=some y/\List.length ys=List.length (h▸y:(Ty.slice e).den)/\K (st.Jh l (.Gl e' te (xs.set i (h▸(ys:(Ty.slice e).den))))) else False
  |_=>False
 | .Hb e _,ys, .sub l i _,K=>match st.at l with
  |some (.Gl e' te xs)=>if h: .slice e=e' then ∃y,xs[i]?=some y/\List.length ys=List.length (h▸y:(Ty.slice e).den)/\K (st.Jh l (.Gl e' te (xs.set i (h▸(ys:(Ty.slice e).den))))) else False
  |_=>False
 |_,_, .Le,K=>K st
 |_,_,_,_=>False
def RY (st:St) (e:Ty) (ys:List e.den):AC->(St->Prop)->Prop
 | .own l _ _,K=>match st.at l with
  |some (.arr fr tr e' te xs)=>if h:e=e' then List.length ys=xs.length/\K (st.Jh l (.arr fr tr e' te (h▸ys))) else False
  |_=>False
 |_,_=>False
def gC:(cs:List (Bool×CK))->IOs.den cs->List AC->St->(St->Prop)->Prop
 | [],_,_,st,K=>K st
 |(true, .Fp _)::r,x,_::as,st,K=>gC r x as st K
 |(true, .row e te)::r,x,a::as,st,K=>nV st (.row e te) x.1 a λst'=>gC r x.2 as st' K
 |(true, .Hb e te)::r,x,a::as,st,K=>nV st (.Hb e te) x.1 a λst'=>gC r x.2 as st' K
 |(true, .part e _)::r,x,a::as,st,K=>RY st e x.1 a λst'=>gC r x.2 as st' K
 |(true, .Bm _ _ _)::r,x,_::as,st,K=>gC r x as st K
 |(false,_)::r,x,_::as,st,K=>gC r x as st K
 |_,_,_,_,_=>False
def rY (H:List (Nat×OB)) (ls:List Nat) (n:Nat):List AV->Prop->Prop
 | [],K=>K
 | .at (.sub l i _)::r,K=>match ls.contains l with
  |true=>(i<n/\i<p8 H l)/\rY H ls n r K
  |false=>rY H ls n r K
 |_::r,K=>rY H ls n r K
def BY (st:St) (dst:Option Nat) (s:MSpec) (args:List AV) (K:AV->St->Prop):Prop:=
 Hc (II st s args) λq=>Hc (ungroup s.Jn q.2.2) λm4=>xF st 0 s.ins (q.2.1++m4) λx tks=>
  match Yh (tks.map λt=>t.2.Vm)&&wv (Qx s tks (dst.getD 0)) (s.outs.length+(kr s (dst.getD 0)).length)&&Nat.blt s.outs.length 1000&&Nat.blt s.ins.length 1000&&(Ur s.ins q.2.1&&q.1.all λl=>!((tks.map λt=>t.2.Vm)++Qx s tks (dst.getD 0)).contains l) with
  |true=> ∃p,s.fn x=some p/\gC s.ins p.2 (q.2.1++m4) st λst1=>Hc (WG s (dst.getD 0) ((aw (Dw (Qx s tks (dst.getD 0))) 0 s.outs p.1).drop s.Yt)) λv=>
    rY (jH st st1 (dst.getD 0) s q.1 tks p.1).heap (ao st.heap (Qx s tks (dst.getD 0)) tks s.keeps) (s.Gg x) st.tmps
     (K v (jZ st (jH st st1 (dst.getD 0) s q.1 tks p.1) (ao st.heap (Qx s tks (dst.getD 0)) tks s.keeps) (s.Gg x)))
  |false=>False
def VX (w:WS) (o:Oper) (K:AV->WS->Prop):Prop:=
 match o.op with
 | .store t p x=>xu T (Nm T w.st p x) t ((Nm T w.st p x).ev p) ((Nm T w.st p x).ev x) λs=>K .undef (w.to s)
 | .makeSlice t l c=>Hc o.dst λd=>DP T w.st d t (w.st.ev l) (w.st.ev c) λv s=>K v (w.to s)
 | .call {callee:= .builtin .append,args,argTypes} =>match o.dst,args.toList,argTypes.toList with
  |some d,[x,y],[t,t']=>if t=t' then pJ T w.st d t x y λv s=>K v (w.to s) else False
  |_,_,_=>False
 | .assign _=>Hc (evalOp T Γ w.st o) λr=>K r.1 (w.to r.2)
 | .alloc _=>Hc (evalOp T Γ w.st o) λr=>K r.1 (w.to r.2)
 | .box _ _=>Hc (evalOp T Γ w.st o) λr=>K r.1 (w.to r.2)
 | .buildSlice t len parts=>Hc o.dst λd=>cX T w.st d t len parts λv s=>K v (w.to s)
 | .build _ _=>Hc (evalOp T Γ w.st o) λr=>K r.1 (w.to r.2)
 | .makeMap _ _=>Hc (evalOp T Γ w.st o) λr=>K r.1 (w.to r.2)
 | .mapUpdate _ _ _ _=>Hc (evalOp T Γ w.st o) λr=>K r.1 (w.to r.2)
 | .insert _ _ _ _=>Hc (evalOp T Γ w.st o) λr=>K r.1 (w.to r.2)
 | .call {callee:= .builtin .copy, .. } =>Hc (evalOp T Γ w.st o) λr=>K r.1 (w.to r.2)
 | .call {callee:= .builtin .clear, .. } =>Hc (evalOp T Γ w.st o) λr=>K r.1 (w.to r.2)
 | .call {callee:= .value (.func f),args, .. } =>match Γ f with
  |some (.m s)=>BY w.st o.dst s (args.toList.map w.st.ev) λv s'=>K v (w.to s')
  |some (.q s)=>match du s (args.toList.map w.st.ev) with
   |true=>Hc (Mo args.toList w.st) λst1=>qW T Γ (w.to st1) o K
   |false=>qW T Γ w o K
  |_=>qW T Γ w o K
 |_=>qW T Γ w o K
def AV.QK:AV->Bool
 | .at .skip=>true
 |_=>false
def bW (w:WS) (o:Oper) (K:AV->WS->Prop):Prop:=
 match o.op with
 | .buildSlice t len parts=>Hc (aa T w.st t len parts) λv=>K v w
 | .build t parts=>Hc (Vz T w.st t parts) λv=>K v w
 |_=>qW T Γ w o K
def gU (ops:Array Oper) (w:WS) (o:Oper) (run:(AV->WS->Prop)->WS->Prop) (K:WS->Prop):Prop:=
 match o.guard with
 |none=>run (λv w'=>K (w'.sW o v)) w
 |some (j,want)=>Hc ((ops[j]?).bind (·.dst)) λt=>match (w.st.get t).QK with
  |true=>K (w.put o.dst (.at .skip))
  |false=>brT w t λb w'=>match b,want with
   |true,true=>run (λv oc=>K (oc.sW o v)) w'
   |false,false=>run (λv oc=>K (oc.sW o v)) w'
   |_,_=>K (w'.put o.dst (.at .skip))
def Ab4 (ops:Array Oper):List Oper->WS->(WS->Prop)->Prop
 | [],w,K=>K w
 |o::r,w,K=>gU ops w o (λk w'=>VX T Γ w' o k) λw'=>Ab4 ops r w' K
def QD (ops:Array Oper):List Nat->WS->(WS->Prop)->Prop
 | [],w,K=>K w
 |i::r,w,K=>Hc ops[i]? λo=>gU ops w o (λk w'=>VX T Γ w' o k) λw'=>QD ops r w' K
def j5 (ops:Array Oper):List Nat->WS->(WS->Prop)->Prop
 | [],w,K=>K w
 |i::r,w,K=>Hc ops[i]? λo=>gU ops w o (λk w'=>bW T Γ w' o k) λw'=>j5 ops r w' K
def OC:List Nat->(Nat->Prop)->Prop
 | [],_=>True
 | [i],P=>P i
 |i::j::r,P=>P i/\OC (j::r) P
def JB (ops:Array Oper):Nat->Array Bool->WS->(WS->Prop)->Prop
 |0,Af,w,K=>match Region.ready .any ops Af with
  | []=>K w
  |_::_=>False
 |f+1,Af,w,K=>match Region.ready .any ops Af with
  | []=>False
  |i::r=>OC (i::r) λk=>Hc ops[k]? λo=>gU ops w o (λkk w'=>VX T Γ w' o kk) λw'=>JB ops f (Af.setIfInBounds k true) w' K
def acV:AC->Type->Type
 | .data _ τ _,R=>τ.den×R
 | .sub _ _ _,R=>Nat×R
 | .Jl _ _,R=>Nat×R
 | .Ji _ _ _,R=>Nat×Nat×R
 |_,R=>R
def BT:List AC->Type->Type
 | [],R=>R
 |c::r,R=>acV c (BT r R)
def avV:AV->Type->Type
 | .at a,R=>acV a R
 | .agg cs,R=>BT cs R
 | .Zw _ τ _,R=>τ.den×R
 | .Mb _,R=>R
def obV:OB->Type->Type
 | .arr _ _ e _ _,R=>List e.den×R
 | .Gl e _ _,R=>List e.den×R
 | .var _ vs,R=>BT vs R
 | .Bm e _ _ _ none,R=>List (List e.den)×R
 | .Bm e _ _ _ (some _),R=>List (List e.den)×(Nat×R)
 | .Ub v _,R=>(ByteArray->Option v.den)×R
def o9:List AV->Type->Type
 | [],R=>R
 |v::r,R=>avV v (o9 r R)
def u5:List (Nat×OB)->Type->Type
 | [],R=>R
 |p::r,R=>obV p.2 (u5 r R)
def stV (s:St):Type:=o9 s.tmps (u5 s.heap Unit)
def GU:(c:AC)-> {R:Type} ->R->acV c R
 | .data _ _ x,_,r=>(x,r)
 | .undef,_,r=>r
 | .skip,_,r=>r
 | .Le,_,r=>r
 | .Ua,_,r=>r
 | .own _ _ _,_,r=>r
 | .Gs _ _,_,r=>r
 | .Jl _ i,_,r=>(i,r)
 | .clo _ _,_,r=>r
 | .Jw _,_,r=>r
 | .sub _ i _,_,r=>(i,r)
 | .Ji _ i j,_,r=>(i,j,r)
def pE:(l:List AC)-> {R:Type} ->R->BT l R
 | [],_,r=>r
 |c::l,_,r=>GU c (pE l r)
def XA:(c:AV)-> {R:Type} ->R->avV c R
 | .at a,_,r=>GU a r
 | .agg cs,_,r=>pE cs r
 | .Zw _ _ x,_,r=>(x,r)
 | .Mb _,_,r=>r
def YN:(b:OB)-> {R:Type} ->R->obV b R
 | .arr _ _ _ _ xs,_,r=>(xs,r)
 | .Gl _ _ xs,_,r=>(xs,r)
 | .var _ vs,_,r=>pE vs r
 | .Bm _ _ rows _ none,_,r=>(rows,r)
 | .Bm _ _ rows _ (some p),_,r=>(rows,p.2,r)
 | .Ub _ m,_,r=>(m,r)
def po:(l:List AV)-> {R:Type} ->R->o9 l R
 | [],_,r=>r
 |c::l,_,r=>XA c (po l r)
def pa:(l:List (Nat×OB))-> {R:Type} ->R->u5 l R
 | [],_,r=>r
 |p::l,_,r=>YN p.2 (pa l r)
def IM (s:St):stV s:=po s.tmps (pa s.heap ())
def ma:(c d:AC)-> {R:Type} ->R->Option (acV c R)
 | .data fr τ _, .data Um Nh x,_,r=>if h:Nh=τ/\Um=fr then some (h.1▸x,r) else none
 | .undef, .undef,_,r=>some r
 | .skip, .skip,_,r=>some r
 | .Le, .Le,_,r=>some r
 | .Ua, .Ua,_,r=>some r
 | .own l _ _, .own l' _ _,_,r=>if l=l' then some r else none
 | .Gs l i, .Gs l' i',_,r=>if l=l'/\i=i' then some r else none
 | .Jl l _, .Jl l' i',_,r=>if l=l' then some (i',r) else none
 | .clo f c, .clo f' c',_,r=>if f=f'/\c=c' then some r else none
 | .Jw l, .Jw l',_,r=>if l=l' then some r else none
 | .sub l _ c, .sub l' i' c',_,r=>if l=l'/\c=c' then some (i',r) else none
 | .Ji l _ _, .Ji l' i' j',_,r=>if l=l' then some (i',j',r) else none
 |_,_,_,_=>none
def Qw:(l m:List AC)-> {R:Type} ->R->Option (BT l R)
 | [],[],_,r=>some r
 |c::l,d::m,_,r=>(Qw l m r).bind λr'=>ma c d r'
 |_,_,_,_=>none
def jL:(c d:AV)-> {R:Type} ->R->Option (avV c R)
 | .at a, .at b,_,r=>ma a b r
 | .agg cs, .agg ds,_,r=>Qw cs ds r
 | .Zw fr τ _, .Zw Um Nh x,_,r=>if h:Nh=τ/\Um=fr then some (h.1▸x,r) else none
 |_,_,_,_=>none
def Rr:(b d:OB)-> {R:Type} ->R->Option (obV b R)
 | .arr fr tr e tid _, .arr Um SX e' Tf xs,_,r=>if h:e'=e/\Um=fr/\SX=tr/\Tf=tid then some (h.1▸xs,r) else none
 | .Gl e tid _, .Gl e' Tf xs,_,r=>if h:e'=e/\Tf=tid then some (h.1▸xs,r) else none
 | .Ub v _, .Ub v' m,_,r=>if h:v'=v then some (h▸m,r) else none
 | .var t vs, .var t' us,_,r=>if t'=t then Qw vs us r else none
 | .Bm e te _ out none, .Bm e' Qg rows eW none,_,r=>if h:e'=e/\Qg=te/\eW=out then some (h.1▸rows,r) else none
 | .Bm e te _ out (some p), .Bm e' Qg rows eW (some p'),_,r=>if h:e'=e/\Qg=te/\eW=out/\p'.1=p.1 then some (h.1▸rows,p'.2,r) else none
 |_,_,_,_=>none
def Oa:(l m:List AV)-> {R:Type} ->R->Option (o9 l R)
 | [],[],_,r=>some r
 |c::l,d::m,_,r=>(Oa l m r).bind λr'=>jL c d r'
 |_,_,_,_=>none
def Pf:(l m:List (Nat×OB))-> {R:Type} ->R->Option (u5 l R)
 | [],[],_,r=>some r
 |p::l,q::m,_,r=>if q.1=p.1 then (Pf l m r).bind λr'=>Rr p.2 q.2 r' else none
 |_,_,_,_=>none
def gS (s t:St):Option (stV s):=(Pf s.heap t.heap ()).bind λr=>Oa s.tmps t.tmps r
def jG:(c:AC)-> {R:Type} ->acV c R->AC×R
 | .data fr τ _,_,v=>(.data fr τ v.1,v.2)
 | .undef,_,r=>(.undef,r)
 | .skip,_,r=>(.skip,r)
 | .Le,_,r=>(.Le,r)
 | .Ua,_,r=>(.Ua,r)
 | .own l off len,_,r=>(.own l off len,r)
 | .Gs l i,_,r=>(.Gs l i,r)
 | .Jl l _,_,v=>(.Jl l v.1,v.2)
 | .clo f c,_,r=>(.clo f c,r)
 | .Jw l,_,r=>(.Jw l,r)
 | .sub l _ c,_,v=>(.sub l v.1 c,v.2)
 | .Ji l _ _,_,v=>(.Ji l v.1 v.2.1,v.2.2)
def Yw:(l:List AC)-> {R:Type} ->BT l R->List AC×R
 | [],_,r=>([],r)
 |c::l,_,v=>((jG c v).1::(Yw l (jG c v).2).1,(Yw l (jG c v).2).2)
def pN:(c:AV)-> {R:Type} ->avV c R->AV×R
 | .at a,_,v=>(.at (jG a v).1,(jG a v).2)
 | .agg cs,_,v=>(.agg (Yw cs v).1,(Yw cs v).2)
 | .Zw fr τ _,_,v=>(.Zw fr τ v.1,v.2)
 | .Mb l,_,r=>(.Mb l,r)
def qU:(b:OB)-> {R:Type} ->obV b R->OB×R
 | .arr fr tr e tid _,_,v=>(.arr fr tr e tid v.1,v.2)
 | .Gl e tid _,_,v=>(.Gl e tid v.1,v.2)
 | .Ub w _,_,v=>(.Ub w v.1,v.2)
 | .var t vs,_,v=>(.var t (Yw vs v).1,(Yw vs v).2)
 | .Bm e te _ out none,_,v=>(.Bm e te v.1 out none,v.2)
 | .Bm e te _ out (some p),_,v=>(.Bm e te v.1 out (some (p.1,v.2.1)),v.2.2)
def Vg:(l:List AV)-> {R:Type} ->o9 l R->List AV×R
 | [],_,r=>([],r)
 |c::l,_,v=>((pN c v).1::(Vg l (pN c v).2).1,(Vg l (pN c v).2).2)
def cv:(l:List (Nat×OB))-> {R:Type} ->u5 l R->List (Nat×OB)×R
 | [],_,r=>([],r)
 |p::l,_,v=>((p.1,(qU p.2 v).1)::(cv l (qU p.2 v).2).1,(cv l (qU p.2 v).2).2)
def gR (s:St) (v:stV s):St:= {tmps:=(Vg s.tmps v).1,heap:=(cv s.heap (Vg s.tmps v).2).1}
def lenOf (H:List (Nat×OB)) (l:Nat):Nat:=match Aq H l with|some (.arr _ _ _ _ xs)=>xs.length|some (.Gl _ _ xs)=>xs.length|some (.Bm _ _ rows _ _)=>rows.length|_=>0
def Yd (ps:List Nat):List AV->List (Nat×Nat×Nat)
 | []=> []
 | .at (.own l off len)::r=>if ps.contains l then (l,off,len)::Yd ps r else Yd ps r
 |_::r=>Yd ps r
def Ab2:List (Nat×Nat×Nat)->Nat->Nat
 | [],_=>0
 |(k,o,_)::r,l=>if k=l then o else Ab2 r l
def KG:List (Nat×Nat×Nat)->List (Nat×OB)->Nat->Nat
 | [],H,l=>lenOf H l
 |(k,_,n)::r,H,l=>if k=l then n else KG r H l
def dX (B:List (Nat×Nat×Nat)) (H:List (Nat×OB)):AC->AC
 | .own l _ _=> .own l (Ab2 B l) (KG B H l)
 |c=>c
def St.whole (B:List (Nat×Nat×Nat)) (s:St):St:=s.Kh (dX B s.heap)
def vz (B:List (Nat×Nat×Nat)) (H:List (Nat×OB)) (c:AC) (K:Prop):Prop:=match c with
 | .own l off len=>off=Ab2 B l/\len=KG B H l/\K
 |_=>K
def c6 (B:List (Nat×Nat×Nat)) (H:List (Nat×OB)):List AC->Prop->Prop
 | [],K=>K
 |c::r,K=>vz B H c (c6 B H r K)
def GW (B:List (Nat×Nat×Nat)) (H:List (Nat×OB)) (c:AV) (K:Prop):Prop:=match c with
 | .at a=>vz B H a K
 | .agg cs=>c6 B H cs K
 | .Zw _ _ _=>K
 | .Mb _=>False
def Zv (B:List (Nat×Nat×Nat)) (H:List (Nat×OB)):List AV->Prop->Prop
 | [],K=>K
 |c::r,K=>GW B H c (Zv B H r K)
def ij (B:List (Nat×Nat×Nat)) (H:List (Nat×OB)):List (Nat×OB)->Prop->Prop
 | [],K=>K
 |p::r,K=>match p.2 with
  | .var _ vs=>c6 B H vs (ij B H r K)
  |_=>ij B H r K
def xr (B:List (Nat×Nat×Nat)) (s:St) (K:Prop):Prop:=Zv B s.heap s.tmps (ij B s.heap s.heap K)
def AV.Wh:AV->Bool
 | .at (.data _ _ _)=>true
 |_=>false
def Ju (p:Nat->Bool):Nat->List AV->List Bool
 |_,[]=> []
 |i,v::r=>(v.Wh&&p i)::Ju p (i+1) r
def stays (live:Nat->List Nat) (c:Code) (t:Nat):Bool:=!(writes c).contains t&&an live c t
def Sh:List Bool->List AV->List AV
 |true::f,_::r=> .undef::Sh f r
 |false::f,v::r=>v::Sh f r
 |_,l=>l
def Tp:List Bool->List AV->List AV->List AV
 |true::f,a::s,_::r=>a::Tp f s r
 |false::f,_::s,v::r=>v::Tp f s r
 |_,_,l=>l
def St.mask (fx:List Bool) (s:St):St:= {tmps:=Sh fx s.tmps,heap:=s.heap}
def St.sM (fx:List Bool) (s0 s:St):St:= {tmps:=Tp fx s0.tmps s.tmps,heap:=s.heap}
def p6 (c:AC) (k:AC->Prop):Prop:=match c with
 | .undef=>k .undef
 | .skip=>k .skip
 | .Le=>k .Le
 | .Ua=>k .Ua
 | .data fr τ x=>match fr with
  |true=>k (.data true τ x)
  |false=>k (.data false τ x)
 | .own l off len=>k (.own l off len)
 | .Gs l i=>k (.Gs l i)
 | .Jl l i=>k (.Jl l i)
 | .clo f c=>k (.clo f c)
 | .Jw l=>k (.Jw l)
 | .sub l i c=>k (.sub l i c)
 | .Ji l i c=>k (.Ji l i c)
def fM:List AC->(List AC->Prop)->Prop
 | [],k=>k []
 |c::r,k=>p6 c λc'=>fM r λr'=>k (c'::r')
def vV (c:AV) (k:AV->Prop):Prop:=match c with
 | .at a=>p6 a λa'=>k (.at a')
 | .agg cs=>fM cs λfE=>k (.agg fE)
 | .Zw fr τ x=>k (.Zw fr τ x)
 | .Mb l=>k (.Mb l)
def fN:List AV->(List AV->Prop)->Prop
 | [],k=>k []
 |c::r,k=>vV c λc'=>fN r λr'=>k (c'::r')
def vW (b:OB) (k:OB->Prop):Prop:=match b with
 | .arr fr tr e tid xs=>match fr,tr with
  |true,true=>k (.arr true true e tid xs)
  |true,false=>k (.arr true false e tid xs)
  |false,true=>k (.arr false true e tid xs)
  |false,false=>k (.arr false false e tid xs)
 | .Gl e tid xs=>k (.Gl e tid xs)
 | .var t vs=>fM vs λvs'=>k (.var t vs')
 | .Bm e te rows out kp=>match out,kp with
  |none,none=>k (.Bm e te rows none none)
  |none,some (l,n)=>k (.Bm e te rows none (some (l,n)))
  |some i,none=>k (.Bm e te rows (some i) none)
  |some i,some (l,n)=>k (.Bm e te rows (some i) (some (l,n)))
 | .Ub v m=>k (.Ub v m)
def qg:List (Nat×OB)->(List (Nat×OB)->Prop)->Prop
 | [],k=>k []
 |(l,b)::r,k=>vW b λb'=>qg r λr'=>k ((l,b')::r')
def Yf (w:WS) (k:WS->Prop):Prop:=fN w.st.tmps λt=>qg w.st.heap λh=>k {kn:=w.kn,st:= {tmps:=t,heap:=h} }
def mn (s:St) (k:St->Prop):Prop:=fN s.tmps λt=>qg s.heap λh=>k {tmps:=t,heap:=h}
def dd:List Bool->(List Bool->Prop)->Prop
 | [],k=>k []
 |true::r,k=>dd r λr'=>k (true::r')
 |false::r,k=>dd r λr'=>k (false::r')
theorem nF {c:AC} {k:AC->Prop} :p6 c k↔k c:=by
 cases c<;>simp only [p6]
 split<;>rfl
theorem db: ∀ {l:List AC} {k:List AC->Prop},fM l k↔k l
 | [],k=>Iff.rfl
 |c::r,k=>by simp only [fM];rw [nF,db]
theorem yH {c:AV} {k:AV->Prop} :vV c k↔k c:=by
 cases c<;>simp only [vV]
 ·exact nF
 ·exact db
theorem dc: ∀ {l:List AV} {k:List AV->Prop},fN l k↔k l
 | [],k=>Iff.rfl
 |c::r,k=>by simp only [fN];rw [yH,dc]
theorem yI {b:OB} {k:OB->Prop} :vW b k↔k b:=by
 cases b<;>simp only [vW]
 ·split<;>rfl
 ·exact db
 ·split<;>rfl
theorem jU: ∀ {l:List (Nat×OB)} {k:List (Nat×OB)->Prop},qg l k↔k l
 | [],k=>Iff.rfl
 |(l,b)::r,k=>by simp only [qg];rw [yI,jU]
theorem JO {s:St} {k:St->Prop} :mn s k=k s:=by
 unfold mn
 exact propext (by rw [dc,jU])
theorem de: ∀ {l:List Bool} {k:List Bool->Prop},dd l k=k l
 | [],k=>rfl
 |true::r,k=>by simp only [dd];rw [de]
 |false::r,k=>by simp only [dd];rw [de]
theorem Nd {w:WS} {k:WS->Prop} :Yf w k↔k w:=by
 unfold Yf
 rw [dc,jU]
def a5:AC->List (Nat×Nat)
 | .own _ off len=> [(off,len)]
 |_=> []
def a7:AV->List (Nat×Nat)
 | .at a=>a5 a
 | .agg cs=>cs.flatMap a5
 |_=> []
def kh:OB->List (Nat×Nat)
 | .var _ vs=>vs.flatMap a5
 |_=> []
def FI (s:St):List (Nat×Nat):=s.tmps.flatMap a7++s.heap.flatMap λp=>kh p.2
def eqW (s0 s:St):Prop:=FI s=FI s0/\Hc (gS s0 s) λv=>v=IM s0
def ah (ops:Array Oper):Nat->Array Bool->WS->(WS->Prop)->Prop
 |0,Af,w,K=>match Region.ready .any ops Af with
  | []=>K w
  |_::_=>False
 |f+1,Af,w,K=>match Region.ready .any ops Af with
  | []=>False
  |k::_=>Hc ops[k]? λo=>gU ops w o (λkk w'=>VX T Γ w' o kk) λw'=>ah ops f (Af.setIfInBounds k true) w' K
def yd (P:List (Nat×Nat×AV×OB)) (ops:Array Oper):Nat->Array Bool->WS->(WS->Prop)->Prop
 |0,Af,w,K=>match Region.ready .any ops Af with
  | []=>K w
  |_::_=>False
 |f+1,Af,w,K=>match Region.ready .any ops Af with
  | []=>False
  |i::r=>OC (i::r) λk=>Hc ops[k]? λo=>match DW P Γ ops w.st o k with
   |true=>gU ops w o (λkk w'=>VX T Γ w' o kk) λw'=>yd P ops f (Af.setIfInBounds k true) w' K
   |false=>False
def uY (ops:Array Oper) (E:List Nat) (Af:Array Bool) (w:WS):List Nat->Prop->Prop
 | [],K=>K
 |r::R,K=>match pq ops E Af r with
  |true=>uY ops E Af w R K
  |false=>(j5 T Γ ops [r] w λw'=>Hc ((ops[r]?).bind (·.dst)) λd=>match Nat.blt d w.st.tmps.length with
    |true=>eqW ⟨[w.st.get d],[]⟩ ⟨[w'.st.get d],[]⟩
    |false=>False)/\uY ops E Af w R K
def pF (ops:Array Oper) (E:List Nat):Nat->Array Bool->WS->(WS->Prop)->Prop
 |0,Af,w,K=>uY T Γ ops E Af w E (match Region.ready .any ops Af with
  | []=>K w
  |_::_=>False)
 |f+1,Af,w,K=>uY T Γ ops E Af w E (match Region.ready .any ops Af with
  | []=>False
  |i::r=>OC (i::r) λk=>Hc ops[k]? λo=>gU ops w o (λkk w'=>VX T Γ w' o kk) λw'=>pF ops E f (Af.setIfInBounds k true) w' K)
def ER (E:List Nat) (n:Nat) (L0:Array Bool) (ops:Array Oper) (w:WS) (K:WS->Prop):Prop:=
 match bl ops E L0&&(Nat.ble E.length n&&Nat.ble (n-E.length) 10) with
 |true=>j5 T Γ ops E w λw1=>Yf w1 λw1=>ah T Γ ops (n-E.length) (Ec E L0) w1 λw0=>Yf w0 λw0=>K w0/\pF T Γ ops E (n-E.length) (Ec E L0) w1 λw2=>Yf w2 λw2=>eqW w0.st w2.st
 |false=>False
def vG (P:List (Nat×Nat×AV×OB)) (n:Nat) (L0:Array Bool) (ops:Array Oper) (w:WS) (K:WS->Prop):Prop:=
 match (Yh (P.map (·.1))&&Yh (P.map (·.2.1)))&&((P.all λa=>mG a.2.1 w.st)&&(Nat.ble P.length n&&Nat.ble (n-P.length) 10)) with
 |true=>QD T Γ ops (P.map (·.1)) w λw1=>Yf w1 λw1=>ah T Γ ops (n-P.length) (Ec (P.map (·.1)) L0) w1 λw0=>Yf w0 λw0=>K w0/\yd T Γ P ops (n-P.length) (Ec (P.map (·.1)) L0) w1 λw2=>eqW w0.st w2.st
 |false=>ER T Γ (iz ops (List.range ops.size) L0) n L0 ops w K
def gx:Nat:=800000000
def zA (ops:Array Oper):Nat->Array Bool->Bool
 |0,Af=>(Region.ready .any ops Af).isEmpty
 |f+1,Af=>match Region.ready .any ops Af with
  | [i]=>zA ops f (Af.setIfInBounds i true)
  |_=>false
def IG (ops:Array Oper) (L0:Array Bool):List Nat:=iz ops (List.range ops.size) L0
def ux (ops:Array Oper):Array Bool:=Ec (Jx ops) (Array.replicate ops.size false)
def RD (ops:Array Oper):Bool:=Region.noSelect ops&&(bl ops (IG ops (ux ops)) (ux ops)&&(Nat.ble (IG ops (ux ops)).length (ops.size-(Jx ops).length)&&Nat.ble ((ops.size-(Jx ops).length)-(IG ops (ux ops)).length) 10))
def eqM (fx:List Bool) (s0 s:St):Prop:=eqW (s0.mask fx) (s.mask fx)
def Ri (ops:Array Oper) (t:Nat):Bool:=!Wv ops t
def s9 (ops:Array Oper):List Nat:=(ops.toList.filterMap λo=>match o.op with
 | .alloc _=>none
 | .box _ _=>none
 | .assign _=>none
 |_=>o.dst).filter λd=>ops.toList.any λo=>(o.looksAt ops).contains d
def WS.Pk (dead:List Nat) (w:WS):WS:= {kn:=w.kn.filter λp=>!dead.contains p.1,st:=w.st.Pk dead}
def RE (dead E:List Nat) (n:Nat) (L0:Array Bool) (ops:Array Oper) (w:WS) (K:WS->Prop):Prop:=
 match bl ops E L0&&Nat.ble E.length n with
 |true=>j5 T Γ ops E w λw1=>Yf w1 λw1=>match zA ops (n-E.length) (Ec E L0) with
  |true=>pF T Γ ops E (n-E.length) (Ec E L0) w1 λw2=>K (w2.Pk dead)
  |false=>dd (Ju (Ri ops) 0 w1.st.tmps) λfx=>ah T Γ ops (n-E.length) (Ec E L0) w1 λw0=>Yf (w0.Pk dead) λw0=>K w0/\pF T Γ ops E (n-E.length) (Ec E L0) w1 λw2=>Yf (w2.Pk dead) λw2=>eqM fx w0.st w2.st
 |false=>False
def pn (ops:Array Oper) (draw:Bool) (w:WS) (K:WS->Prop):Prop:=
 match draw with
 |true=>match bk false Γ ops with
  |true=>j5 T Γ ops (ig false Γ ops) w λw'=>QD T Γ ops (Iy false Γ ops) w' K
  |false=>match bk true Γ ops with
   |true=>j5 T Γ ops (ig true Γ ops) w λw'=>QD T Γ ops (Iy true Γ ops) w' K
   |false=>match Region.noSelect ops&&Nat.ble (ops.size-(Jx ops).length) 8 with
    |true=>j5 T Γ ops (Jx ops) w λw'=>match ie false ops&&!T.marks.contains gx with
     |true=>JB T Γ ops (ops.size-(Jx ops).length) (Ec (Jx ops) (Array.replicate ops.size false)) w' K
     |false=>ah T Γ ops (ops.size-(Jx ops).length) (Ec (Jx ops) (Array.replicate ops.size false)) w' λw0=>Yf w0 λw0=>K w0/\JB T Γ ops (ops.size-(Jx ops).length) (Ec (Jx ops) (Array.replicate ops.size false)) w' λw1=>eqW w0.st w1.st
    |false=>match Region.noSelect ops with
     |true=>j5 T Γ ops (Jx ops) w λw'=>vG T Γ (Xi T ops (Ec (Jx ops) (Array.replicate ops.size false))) (ops.size-(Jx ops).length) (Ec (Jx ops) (Array.replicate ops.size false)) ops w' K
     |false=>False
 |false=>Ab4 T Γ ops ops.toList w K
def x8 (ops:Array Oper) (draw:Bool) (w:WS) (K:WS->Prop):Prop:=
 match T.marks.contains gx&&(s9 ops).all (Wv ops) with
 |true=>match draw&&(!(bk false Γ ops||bk true Γ ops)&&RD ops) with
  |true=>j5 T Γ ops (Jx ops) w λw'=>RE T Γ (s9 ops) (IG ops (ux ops)) (ops.size-(Jx ops).length) (ux ops) ops w' K
  |false=>pn T Γ ops draw w λw'=>K (w'.Pk (s9 ops))
 |false=>pn T Γ ops draw w K
def c9 (live:Nat->List Nat):Code->WS->(Kx->WS->Prop)->Prop
 | .skip,w,Q=>Q .normal w
 | .label _,w,Q=>Q .normal w
 | .region _ ops draw,w,Q=>x8 T (x7 Γ draw) ops draw {w with st:=w.st.kQ ops} λw'=>Yf w' (Q .normal)
 | .seq a b,w,Q=>c9 live a w λe w'=>match e with
  | .normal=>c9 live b w' Q
  | .exit id=>Q (.exit id) w'
  | .ret=>Q .ret w'
 | .cond c a b,w,Q=>brO w c λt w'=>match t with
  |true=>c9 live a w' Q
  |false=>c9 live b w' Q
 | .block id c,w,Q=>c9 live c w λe w'=>match e with
  | .normal=>Q .normal w'
  | .exit KC=>if KC=id then Q .normal w' else Q (.exit KC) w'
  | .ret=>Q .ret w'
 | .loop c,w,Q=>
  mn (w.st.clean (live (Eo c))) λs0=>dd (Ju (stays live c) 0 s0.tmps) λfx=>mn (s0.mask fx) λm=>
  xr (Yd T.parts s0.tmps) s0 (Em (V:=stV m) (λv k=>mn ((St.sM fx s0 (gR m v)).whole (Yd T.parts s0.tmps)) λsb=>c9 live c ⟨[],sb⟩ λe w'=>match e with
   | .normal=>mn (w'.st.clean (live (Eo c))) λs1=>xr (Yd T.parts s0.tmps) s1 (Hc (gS m (s1.mask fx)) k)
   | .exit id=>Q (.exit id) w'
   | .ret=>Q .ret w') (IM m))
 | .exit id,w,Q=>Q (.exit id) w
 | .ret,w,Q=>Q .ret w
 |_,_,_=>False
def ZG (s:Spec) (fn:Func) (P:s.res.den->Prop) (st:St):Prop:=
 Hc (l5 T s fn st) λp=>match p.1||!s.fresh with|true=>P p.2|false=>False
def gh (st:St) (K:Prop):List AC->List (Bool×CK)->Prop
 | .own l off len::as,(true,_)::r=>match st.at l with
  |some (.arr _ _ _ _ xs)=>(off=0/\len=xs.length)/\gh st K as r
  |some (.Gl _ _ xs)=>(off=0/\len=xs.length)/\gh st K as r
  |_=>False
 |_::as,(false,_)::r=>gh st K as r
 |_,_=>K
def mI (st:St):(cs:List CK)->List AC->(CKs.den cs->List Nat->Prop)->Prop
 | [],[],K=>K () []
 | .Bm e te _::r, .own l off len::as,K=>match st.at l with
  |some (.Bm e' Qg rows none _)=>if h:e'=e/\Qg=te then (off=0/\len=rows.length)/\mI st r as λy t=>K ((h.1▸rows:List (List e.den)),y) (l::t) else False
  |_=>False
 |c::r,a::as,K=>Hc (iL st c a) λp=>mI st r as λy t=>K (p.1,y) (p.2++t)
 |_,_,_=>False
def wu (st:St) (n:Nat) (as:List AC):List (Nat×Nat)->Prop->Prop
 | [],K=>K
 |(k,j)::r,K=>match as[j]? with
  |some (.own l _ _)=>match st.at l with
   |some (.Bm _ _ _ _ (some p))=>match Nat.beq p.1 (Ds false k)&&Nat.blt k 1000 with
    |true=>n<=p.2/\wu st n as r K
    |false=>False
   |_=>False
  |_=>False
def rq (s:MSpec) (fn:Func) (x:Ins.den s.ins) (st:St) (cs:List AC) (P:CKs.den s.outs×IOs.den s.ins->Prop):Prop:=
 Hc (bQ T st fn.results.toList) λl=>Hc (EV s st l) λp=>mI st s.outs (cs++p.1) λr ls=>Hc (No st 0 s.ins) λo=>
  match Yh (p.2++ls++Ot 0 s.ins)&&Nat.blt s.ins.length 1000&&Nat.blt s.outs.length 1000&&s.QU with
  |true=>wu st (s.Gg x) (cs++p.1) s.keeps (P (r,o))
  |false=>False
def IJ (s:MSpec) (fn:Func) (x:Ins.den s.ins) (st:St) (P:CKs.den s.outs×IOs.den s.ins->Prop):Prop:=
 match s.ptr with
 |none=>rq T s fn x st [] P
 |some p=>match st.at Oc with
  |some (.var tid vs)=>match Nat.beq tid p.1&&Nat.beq vs.length p.2 with
   |true=>Hc (It 0 s.ins vs) λcs=>gh st (rq T s fn x st cs P) vs s.ins
   |false=>False
  |_=>False
@[irreducible] def fnMW (s:MSpec) (fn:Func) (x:Ins.den s.ins) (P:CKs.den s.outs×IOs.den s.ins->Prop):Prop:=
 match Nat.blt s.ins.length 1000&&wY s with
 |false=>False
 |true=>Hc fn.body λc=>c9 T Γ (wA T.marks fn c) c {kn:= [],st:= {tmps:=Yq s (al 0 s.ins x)++List.replicate (fn.ntmps-(Yq s (al 0 s.ins x)).length) .undef,heap:=nK s x} } λe w=>match e with
  | .normal=>IJ T s fn x w.st P
  | .ret=>IJ T s fn x w.st P
  | .exit _=>False
@[irreducible] def fnW (s:Spec) (fn:Func) (x:s.arg.den) (P:s.res.den->Prop):Prop:=
 Hc fn.body λc=>c9 T Γ (wA T.marks fn c) c {kn:= [],st:= {tmps:=Rn s.arg x++List.replicate (fn.ntmps-(Rn s.arg x).length) .undef,heap:= []} } λe w=>match e with
  | .normal=>ZG T s fn P w.st
  | .ret=>ZG T s fn P w.st
  | .exit _=>False
end Go.Proofs.Ytkkdpknjohcekaa
