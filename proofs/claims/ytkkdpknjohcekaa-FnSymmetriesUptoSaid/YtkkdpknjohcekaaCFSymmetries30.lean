/-
  Part 31 of the proof that the statement FnSymmetries holds.
-/
import Derived.Test.YtkkdpknjohcekaaCFSymmetries29
namespace Go.Proofs.Ytkkdpknjohcekaa
open Go.RowKit
inductive Br (b:Bool) (A B:Prop):Prop
 |mk (t:b=true->A) (f:b=false->B)
inductive Ek {V:Type} (step:V->(V->Prop)->Prop) (v0:V):Prop
 |mk (I:V->Prop) (μ:V->Nat) (h0:I v0) (h: ∀v,I v->step v (λv'=>I v'/\μ v'<μ v))
structure WS where
 kn:List (Nat×Bool)
 st:St
def lk:List (Nat×Bool)->Nat->Option Bool
 | [],_=>none
 |(k,b)::r,t=>if k=t then some b else lk r t
def tS:List (Nat×Bool)->Nat->List (Nat×Bool)
 | [],_=> []
 |(k,b)::r,t=>if k=t then tS r t else (k,b)::tS r t
def WS.put (w:WS) (dst:Option Tmp) (v:AV):WS:=
 match dst with
 |some d=> {kn:=tS w.kn d,st:=w.st.put (some d) v}
 |none=>w
def Vh (kn:List (Nat×Bool)):Operand->Option Bool
 | .const (.bool b)=>some b
 | .tmp t=>lk kn t
 |_=>none
def Gs (kn:List (Nat×Bool)) (o:Oper):Option Bool:=
 match o.op with
 | .assign x=>Vh kn x
 | .move x=>Vh kn x
 | .unOp .not _ x=>(Vh kn x).map (!·)
 | .pick c a b=>match Vh kn c with
  |some true=>Vh kn a
  |some false=>Vh kn b
  |none=>none
 |_=>none
def WS.su (w:WS) (o:Oper) (v:AV):WS:=
 match o.dst,Gs w.kn o with
 |some d,some b=>match (w.st.put (some d) v).get d with
  | .at (.data _ .bool _)=> {kn:=(d,b)::tS w.kn d,st:=w.st.put (some d) v}
  |_=>w.put (some d) v
 |dst,_=>w.put dst v
def WS.to (w:WS) (st:St):WS:= {kn:=w.kn,st:=st}
def brT (w:WS) (t:Nat) (K:Bool->WS->Prop):Prop:=
 match lk w.kn t with
 |some b=>K b w
 |none=>match w.st.get t with
  | .at (.data _ .bool b)=>Br b (K true {kn:=(t,true)::w.kn,st:=w.st}) (K false {kn:=(t,false)::w.kn,st:=w.st})
  |_=>False
def brO (w:WS) (c:Operand) (K:Bool->WS->Prop):Prop:=
 match c with
 | .tmp t=>brT w t K
 | .const (.bool b)=>K b w
 |_=>False
def He {α:Type} (o:Option α) (K:α->Prop):Prop:=match o with|some x=>K x|none=>False
def Aas (T:Tab) (st:St) (t:TypeId) (x:AV) (l h:Int):Option AV:=
 match x with
 | .at (.data fr (.slice e) xs)=>if (T.elem t).bind T.ty=some e then some (.at (.data fr (.slice e) ((xs.take h.toNat).drop l.toNat))) else none
 | .at (.own k off _)=>match st.at k with
  |some (.arr _ _ e tid _)=>if T.elem t=some tid/\T.ty tid=some e then some (.at (.own k (off+l.toNat) (h.toNat-l.toNat))) else none
  |_=>none
 | .at (.data _ .str s)=>if T.ty t=some .str then some (.at (.data true .str (s.extract l.toNat h.toNat))) else none
 |_=>none
variable (T:Tab) (Γ:Env)
def YI (op:BinOp) (t:TypeId) (x y:AV) (K:AV->Prop):Prop:=
 match op,x,y with
 | .quo, .at (.data _ (.int k) a), .at (.data _ (.int k') b)=>if k=k' then b≠0/\K (.at (.data true (.int k) (k.wrap (a.tdiv b)))) else False
 | .rem, .at (.data _ (.int k) a), .at (.data _ (.int k') b)=>if k=k' then b≠0/\K (.at (.data true (.int k) (a.tmod b))) else False
 | .shl, .at (.data _ (.int k) a), .at (.data _ (.int _) b)=> ¬b<0/\K (.at (.data true (.int k) (k.wrap (a*2^(min b.toNat k.bits)))))
 | .shr, .at (.data _ (.int k) a), .at (.data _ (.int _) b)=> ¬b<0/\K (.at (.data true (.int k) (a.fdiv (2^(min b.toNat k.bits)))))
 | .add, .at (.data _ .str a), .at (.data _ .str b)=>a.size+b.size<=4294967296/\K (.at (.data true .str (a++b)))
 |op,x,y=>He (Sp T op t x y) K
def PS (st:St) (t:TypeId) (p:AV) (K:AV->Prop):Prop:=
 match p with
 | .at (.Jp l i)=>He (T.ty t) λτ=>match st.at l with
  |some (.arr fr _ e _ xs)=>if e=τ then ∃x,xs[i]?=some x/\K (.at (.data (fr||e.flat) e x)) else False
  |some (.Gg e _ xs)=>if e=τ then ∃x,xs[i]?=some x/\K (if e.Ap then .agg (dU l i 0 e x) else .at ((dU l i 0 e x).headD .undef)) else False
  |some (.Bj _ _ _ none _)=>if τ.Ap then False else K (.at (.sub l i 0))
  |_=>False
 | .at (.data fr (.optr Nr) x)=>He (T.ty t) λτ=>if Nr=τ then ∃y,x=some y/\K (.at (.data (fr||Nr.flat) Nr y)) else False
 |p=>He (Po T st t p) K
def jD (s:TypeId) (x:AV) (f:Nat) (K:AV->Prop):Prop:=
 match x with
 | .at (.data fr (.optr τ) x)=> ∃y,x=some y/\He (Nl T s (.at (.data fr (.ptr τ) y)) f) K
 |x=>He (Nl T s x f) K
def u4 (st:St) (x:Operand) (K:AV->Prop) (d:Option AV):Prop:=
 match st.ev x with
 | .at (.data fr (.optr τ) x)=> ∃y,x=some y/\K (.at (.data fr (.ptr τ) y))
 |_=>He d K
def EO (st:St) (t:TypeId) (x:AV) (lo hi:Option AV) (K:AV->Prop):Prop:=
 He (yN x) λn=>He (MI lo 0) λl=>He (MI hi n) λh=>(0<=l/\l<=h/\h<=n)/\He (Aas T st t x l h) K
def jL (st:St) (t:TypeId) (x i:AV) (K:AV->Prop):Prop:=
 match x,i with
 | .at (.data fr (.slice e) xs), .at (.data _ (.int _) n)=>if (T.elem t).bind T.ty=some e then ∃x,idx xs n=some x/\K (.at (.data fr (.ptr e) x)) else False
 | .at (.own l off len), .at (.data _ (.int _) n)=>match st.at l with
  |some (.arr _ _ e tid _)=>if T.elem t=some tid/\T.ty tid=some e then (0<=n/\n<len)/\K (.at (.Jp l (off+n.toNat))) else False
  |some (.Gg e tid _)=>if T.elem t=some tid/\T.ty tid=some e then (0<=n/\n<len)/\K (.at (.Jp l (off+n.toNat))) else False
  |some (.Bj _ te _ _ _)=>if T.elem t=some te/\(T.ty te).map Ty.size=some 1 then (0<=n/\n<len)/\K (.at (.Jp l (off+n.toNat))) else False
  |_=>False
 | .at (.sub l i _), .at (.data _ (.int _) n)=>match st.at l with
  |some (.Bj e _ rows none _)=>if ((T.elem t).bind T.ty).map Ty.size=some e.size then (0<=n/\n<(rows.getD i []).length)/\K (.at (.Jn l i n.toNat)) else False
  |_=>False
 |_,_=>False
def CQ (t:TypeId) (x i:AV) (K:AV->Prop):Prop:=
 match x,i with
 | .at (.data _ .str s), .at (.data _ (.int _) n)=>if T.ty t=some .str then 0<=n/\ ∃b,s[n.toNat]?=some b/\K (.at (.data true (.int .u8) b.toNat)) else False
 |_,_=>False
def tj (st:St) (f:FuncId) (args:List AV) (K:AV->Prop):Prop:=
 He (match Γ f with|some (.q s)=>some s|_=>none) λs=>match s.fresh||s.res.flat||args.all (·.settled) with
  |true=>He (Dr st s.arg args) λp=> ∃y,s.fn p.2=some y/\K (if s.Hc then .aa (s.fresh||s.res.flat) s.res y else .at (.data (s.fresh||s.res.flat) s.res y))
  |false=>False
def BL (st:St) (v:AV) (args:List AV) (K:AV->Prop):Prop:=
 match v with
 | .at (.data fr (.clo f τ) x)=>match τ.chain with|true=>(match Nat.blt f 1000000000 with|true=>tj Γ st f (args++ak fr τ x) K|false=>tj Γ st (f-1000000000) (ak fr τ x++args) K)|false=>False
 | .at (.clo f Eb)=>tj Γ st f (args++Eb.map λp=> .at (.Gr p.1 p.2)) K
 |_=>False
def qW (w:WS) (o:Oper) (K:AV->WS->Prop):Prop:=
 match o.op with
 | .pick c a b=>brO w c λt w'=>match t with|true=>K (w'.st.ev a) w'|false=>K (w'.st.ev b) w'
 | .load t a=>PS T w.st t (w.st.ev a) λv=>K v w
 | .binOp op t x y _=>YI T op t (w.st.ev x) (w.st.ev y) λv=>K v w
 | .slice t x lo hi mx=>match mx with
  |none=>EO T w.st t (w.st.ev x) (lo.map w.st.ev) (hi.map w.st.ev) λv=>K v w
  |some _=>False
 | .indexAddr t x i=>jL T w.st t (mQ (w.st.ev x)) (w.st.ev i) λv=>K v w
 | .index t x i=>CQ T t (w.st.ev x) (w.st.ev i) λv=>K v w
 | .call {callee:= .value (.func f),args, .. } =>tj Γ w.st f (args.toList.map w.st.ev) λv=>K v w
 | .call {callee:= .value (.tmp t),args, .. } =>BL Γ w.st (w.st.get t) (args.toList.map w.st.ev) λv=>K v w
 | .fieldAddr s x f=>jD T s (w.st.ev x) f λv=>K v w
 | .nilCheck x=>u4 w.st x (λv=>K v w) (Ep T Γ w.st o)
 |_=>He (Ep T Γ w.st o) λv=>K v w
def EW (st:St) (t:TypeId) (p v:AV) (K:St->Prop):Prop:=
 match p with
 | .at (.Jp l j)=>He (T.ty t) λτ=>He (settle st v) λq=>match q.2.at l with
  |some (.arr fr tr e tid xs)=>He (Ez q.2 τ q.1) λu=>if h:τ=e then j<xs.length/\K (q.2.Jm l (.arr (fr&&u.1) (tr&&(Sh st v&&e.tree)) e tid (xs.set j (h▸u.2)))) else False
  |_=>False
 |p=>He (Tw T st t p v) K
def HS (st:St) (t:TypeId) (p v:AV) (K:St->Prop):Prop:=
 match p with
 | .at (.Jn l i j)=>He (T.ty t) λτ=>He (settle st v) λq=>match q.2.at l with
  |some (.Bj e te rows none kp)=>He (Ez q.2 τ q.1) λu=>if h:τ=e then K (q.2.Jm l (.Bj e te (rows.set i ((rows.getD i []).set j (h▸u.2))) none kp)) else False
  |_=>False
 | .at (.Jp l j)=>He (T.ty t) λτ=>match st.at l,v with
  |some (.Bj e te rows out kp), .at (.own m off len)=>match st.at m with
   |some (.arr _ _ e' _ xs)=>if h:e'=e/\(Nat.blt l Be&&(!Nat.beq m l&&!τ.Ap))=true then
     off=0/\len=xs.length/\(match out with|none=>True|some i=>i=j)/\K (Sn st l j m e te rows (h.1▸xs) (aE j kp))
    else False
   |_=>False
  |_,_=>False
 |_=>False
def x7 (st:St) (t:TypeId) (p v:AV) (K:St->Prop):Prop:=match GJ st p with
 |true=>HS T st t p v K
 |false=>EW T st t p v K
def kv (st:St) (dst:Nat) (t:TypeId) (x y:Operand) (K:AV->St->Prop):Prop:=
 He (T.elem t) λte=>He (T.ty te) λe=>He (settle st (st.ev y)) λq=>He (Ez q.2 (.slice e) q.1) λu=>match q.2.ev x with
  | .at .Lo=>match Nat.blt dst Be with
   |true=>List.length u.2<=Fu/\K (.at (.own dst 0 (List.length u.2))) ((q.2.new dst (.arr (T.rU||e.flat) T.AA e te [])).new dst (.arr ((T.rU||e.flat)&&(u.1||e.flat)) (T.AA&&(e.flat||(Sh st (st.ev y)&&e.tree))) e te u.2))
   |false=>False
  | .at (.own l off len)=>match q.2.at l with
   |some (.arr fr tr e' tid xs)=>if h:e'=e/\tid=te/\Nat.blt l Be=true then
     off=0/\len=xs.length/\len+List.length u.2<=Fu/\K (.at (.own l 0 (List.length ((h.1▸xs:List e.den)++u.2)))) (q.2.new l (.arr (fr&&(u.1||e.flat)) (tr&&(e.flat||(Sh st (st.ev y)&&e.tree))) e te ((h.1▸xs:List e.den)++u.2)))
    else False
   |_=>False
  |_=>False
def pj (st:St) (dst:Nat) (t:TypeId) (x y:Operand) (K:AV->St->Prop):Prop:=
 match x with
 | .tmp tx=>match st.get tx with
  | .at (.sub l i _)=>He (T.elem t) λtid=>match st.at l with
   |some (.Bj e te rows none kp)=>match Nat.blt l Be&&(Nat.blt dst Be&&!Nat.beq dst l) with
    |true=>kv T ((Pn st l i dst e te tid rows kp).put (some tx) (.at (.own dst 0 (rows.getD i []).length))) dst t x y K
    |false=>False
   |_=>False
  |_=>kv T st dst t x y K
 |_=>kv T st dst t x y K
def PV (st:St) (dst:Nat) (t:TypeId) (l c:AV) (K:AV->St->Prop):Prop:=
 match l,c with
 | .at (.data _ (.int _) n), .at (.data _ (.int _) m)=>He (T.elem t) λte=>He (T.ty te) λe=>match ef e&&Nat.blt dst Be with
  |true=>(0<=n/\n<Fu+1)/\n=m/\K (.at (.own dst 0 (List.replicate n.toNat e.zero).length)) (st.new dst (.arr (T.rU||e.flat) (T.AA&&e.tree) e te (List.replicate n.toNat e.zero)))
  |false=>False
 |_,_=>False
def DB (st:St) (dst:Nat) (t:TypeId) (l c:AV) (K:AV->St->Prop):Prop:=
 match cq T t with
 |none=>PV T st dst t l c K
 |some p=>match l,c with
  | .at (.data _ (.int _) n), .at (.data _ (.int _) m)=>match Nat.blt dst Be with
   |true=>(0<=n/\n<Fu+1)/\n=m/\K (.at (.own dst 0 (List.replicate n.toNat ([]:List p.2.den)).length)) (Qj st dst dst (.Bj p.2 p.1 (List.replicate n.toNat []) none none))
   |false=>False
  |_,_=>False
def dd (st:St) (dst:Nat) (t:TypeId) (len:Nat) (parts:Array (Nat×Operand)) (K:AV->St->Prop):Prop:=
 match cq T t with
 |none=>He (Mc T st dst t len parts) λr=>K r.1 r.2
 |some p=>match parts.toList with
  | [(0,x)]=>match st.ev x with
   | .at (.own m off ln)=>match st.at m with
    |some (.arr _ _ e' _ xs)=>if h:e'=p.2/\(Nat.beq len 1&&(Nat.blt dst Be&&Nat.blt m Be))=true then off=0/\ln=xs.length/\K (.at (.own dst 0 1)) (Qj st dst m (.Bj p.2 p.1 [h.1▸xs] none none)) else False
    |_=>False
   |_=>False
  |_=>False
def pn (st:St) (dst:Nat) (t:TypeId) (x y:Operand) (K:AV->St->Prop):Prop:=
 match cq T t with
 |none=>pj T st dst t x y K
 |some p=>match st.ev x,st.ev y with
  | .at (.own l off len), .at (.own m QC qc)=>match st.at l,st.at m with
   |some (.Bj e1 te1 A none _),some (.Bj e2 sK B none _)=>
    if h:(e1=p.2/\e2=p.2)/\(decide (te1=p.1)&&decide (sK=p.1)&&(Nat.blt l Be&&(Nat.blt m Be&&!Nat.beq m l)))=true then
     (off=0/\len=A.length)/\(QC=0/\qc=B.length)/\0<B.length/\A.length+B.length<=Fu/\
      K (.at (.own l 0 (List.length ((h.1.1▸A:List (List p.2.den))++(h.1.2▸B:List (List p.2.den)))))) (Qj st l m (.Bj p.2 p.1 ((h.1.1▸A:List (List p.2.den))++(h.1.2▸B:List (List p.2.den))) none none))
    else False
   |_,_=>False
  |_,_=>False
def dX (st:St) (io:Bool) (k:Nat):(c:CK)->AC->(c.den->List (Nat×Loc)->Prop)->Prop
 | .Gb τ, .own l off len,K=>He (Dm st τ (.own l off len)) λp=>K p.2 [(Dt false k, .view l)]
 | .Gb τ, .clo g Eb,K=>match aT st (Eb.map (·.1))&&!τ.Ap with
  |true=>He (Jk st τ (.clo g Eb)) λp=>K p.2 (views k (Eb.map (·.1)))
  |false=>False
 | .Gb τ, .Gr l i,K=>match aT st [l]&&!τ.Ap with
  |true=>He (Jk st τ (.Gr l i)) λp=>K p.2 (views k [l])
  |false=>False
 | .Gb τ, .sub l i c,K=>He (Dm st τ (.sub l i c)) λp=>K p.2 [(Dt false k, .view l)]
 | .Gb τ,a,K=>match τ.flat||a.settled with
  |true=>He (Dm st τ a) λp=>K p.2 []
  |false=>False
 | .row e te, .own l off len,K=>match st.at l with
  |some (.arr _ _ e' Qo xs)=>if h:e'=e/\Qo=te then off=0/\len=xs.length/\K (h.1▸xs:List e.den) [(Dt io k, .row l)] else False
  |_=>False
 | .row e _, .sub l i c,K=>match st.at l with
  |some (.Gg e' _ xs)=>if h:e'= .slice e/\e.flat=true/\io=true/\c=0 then ∃y,xs[i]?=some y/\K (h.1▸y:(Ty.slice e).den) [(Dt io k, .sub l i c)] else False
  |_=>False
 | .row _ _, .Lo,K=>K [] []
 | .Ha e te, .own l off len,K=>match st.at l with
  |some (.Gg e' Qo xs)=>if h:e'=e/\Qo=te then off=0/\len=xs.length/\K (h.1▸xs:List e.den) [(Dt io k, .row l)] else False
  |_=>False
 | .Ha e _, .sub l i c,K=>match st.at l with
  |some (.Gg e' _ xs)=>if h:e'= .slice e/\io=true/\c=0 then ∃y,xs[i]?=some y/\K (h.1▸y:(Ty.slice e).den) [(Dt io k, .sub l i c)] else False
  |_=>False
 | .Ha _ _, .Lo,K=>K [] []
 | .part e te, .own l off len,K=>match st.at l with
  |some (.arr _ _ e' Qo xs)=>if h:e'=e/\Qo=te/\e.flat=true/\io=true then K ((h.1▸xs:List e.den),off,len) [(Dt io k, .row l)] else False
  |_=>False
 | .Bj e te _, .own l off len,K=>match st.at l with
  |some (.Bj e' Qo rows none _)=>if h:e'=e/\Qo=te/\io=false then off=0/\len=rows.length/\K (h.1▸rows:List (List e.den)) [(Dt io k, .row l)] else False
  |_=>False
 |_,_,_=>False
def xj (st:St):(k:Nat)->(cs:List (Bool×CK))->List AC->(Ins.den cs->List (Nat×Loc)->Prop)->Prop
 |_,[],[],K=>K () []
 |k,p::r,a::as,K=>dX st p.1 k p.2 a λx t1=>xj st (k+1) r as λy t2=>K (x,y) (t1++t2)
 |_,_,_,_=>False
def nS (st:St):(c:CK)->c.den->AC->(St->Prop)->Prop
 | .row e _,ys, .own l _ len,K=>match st.at l with
  |some (.arr fr tr e' te xs)=>if h:e=e' then (List.length ys=len/\xs.length=len)/\K (st.Jm l (.arr (fr&&e'.flat) (tr&&e'.flat) e' te (h▸ys))) else False
  |_=>False
 | .Ha e _,ys, .own l _ len,K=>match st.at l with
  |some (.Gg e' te xs)=>if h:e=e' then (List.length ys=len/\xs.length=len)/\K (st.Jm l (.Gg e' te (h▸ys))) else False
  |_=>False
 | .row e _,ys, .sub l i _,K=>match st.at l with
  |some (.Gg e' te xs)=>if h: .slice e=e' then ∃y,xs[i]?=some y/\List.length ys=List.length (h▸y:(Ty.slice e).den)/\K (st.Jm l (.Gg e' te (xs.set i (h▸(ys:(Ty.slice e).den))))) else False
  |_=>False
 | .Ha e _,ys, .sub l i _,K=>match st.at l with
  |some (.Gg e' te xs)=>if h: .slice e=e' then ∃y,xs[i]?=some y/\List.length ys=List.length (h▸y:(Ty.slice e).den)/\K (st.Jm l (.Gg e' te (xs.set i (h▸(ys:(Ty.slice e).den))))) else False
  |_=>False
 |_,_, .Lo,K=>K st
 |_,_,_,_=>False
def QW (st:St) (e:Ty) (ys:List e.den):AC->(St->Prop)->Prop
 | .own l _ _,K=>match st.at l with
  |some (.arr fr tr e' te xs)=>if h:e=e' then List.length ys=xs.length/\K (st.Jm l (.arr fr tr e' te (h▸ys))) else False
  |_=>False
 |_,_=>False
def gn:(cs:List (Bool×CK))->IOs.den cs->List AC->St->(St->Prop)->Prop
 | [],_,_,st,K=>K st
 |(true, .Gb _)::r,x,_::as,st,K=>gn r x as st K
 |(true, .row e te)::r,x,a::as,st,K=>nS st (.row e te) x.1 a λst'=>gn r x.2 as st' K
 |(true, .Ha e te)::r,x,a::as,st,K=>nS st (.Ha e te) x.1 a λst'=>gn r x.2 as st' K
 |(true, .part e _)::r,x,a::as,st,K=>QW st e x.1 a λst'=>gn r x.2 as st' K
 |(true, .Bj _ _ _)::r,x,_::as,st,K=>gn r x as st K
 |(false,_)::r,x,_::as,st,K=>gn r x as st K
 |_,_,_,_,_=>False
def rj (H:List (Nat×OB)) (ls:List Nat) (n:Nat):List AV->Prop->Prop
 | [],K=>K
 | .at (.sub l i _)::r,K=>match ls.contains l with
  |true=>(i<n/\i<oP H l)/\rj H ls n r K
  |false=>rj H ls n r K
 |_::r,K=>rj H ls n r K
def BK (st:St) (dst:Option Nat) (s:MSpec) (args:List AV) (K:AV->St->Prop):Prop:=
 He (HM st s args) λq=>He (ungroup s.Ke q.2.2) λm7=>xj st 0 s.ins (q.2.1++m7) λx tks=>
  match Yp (tks.map λt=>t.2.Vx)&&vU (Ri s tks (dst.getD 0)) (s.outs.length+(jZ s (dst.getD 0)).length)&&Nat.blt s.outs.length 1000&&Nat.blt s.ins.length 1000&&(Ve s.ins q.2.1&&q.1.all λl=>!((tks.map λt=>t.2.Vx)++Ri s tks (dst.getD 0)).contains l) with
  |true=> ∃p,s.fn x=some p/\gn s.ins p.2 (q.2.1++m7) st λst1=>He (VM s (dst.getD 0) ((aI (Ea (Ri s tks (dst.getD 0))) 0 s.outs p.1).drop s.Zd)) λv=>
    rj (jt st st1 (dst.getD 0) s q.1 tks p.1).heap (aC st.heap (Ri s tks (dst.getD 0)) tks s.keeps) (s.Fw x) st.tmps
     (K v (jM st (jt st st1 (dst.getD 0) s q.1 tks p.1) (aC st.heap (Ri s tks (dst.getD 0)) tks s.keeps) (s.Fw x)))
  |false=>False
def VC (w:WS) (o:Oper) (K:AV->WS->Prop):Prop:=
 match o.op with
 | .store t p x=>x7 T (Ny T w.st p x) t ((Ny T w.st p x).ev p) ((Ny T w.st p x).ev x) λs=>K .undef (w.to s)
 | .makeSlice t l c=>He o.dst λd=>DB T w.st d t (w.st.ev l) (w.st.ev c) λv s=>K v (w.to s)
 | .call {callee:= .builtin .append,args,argTypes} =>match o.dst,args.toList,argTypes.toList with
  |some d,[x,y],[t,t']=>if t=t' then pn T w.st d t x y λv s=>K v (w.to s) else False
  |_,_,_=>False
 | .assign _=>He (evalOp T Γ w.st o) λr=>K r.1 (w.to r.2)
 | .alloc _=>He (evalOp T Γ w.st o) λr=>K r.1 (w.to r.2)
 | .box _ _=>He (evalOp T Γ w.st o) λr=>K r.1 (w.to r.2)
 | .buildSlice t len parts=>He o.dst λd=>dd T w.st d t len parts λv s=>K v (w.to s)
 | .build _ _=>He (evalOp T Γ w.st o) λr=>K r.1 (w.to r.2)
 | .makeMap _ _=>He (evalOp T Γ w.st o) λr=>K r.1 (w.to r.2)
 | .mapUpdate _ _ _ _=>He (evalOp T Γ w.st o) λr=>K r.1 (w.to r.2)
 | .insert _ _ _ _=>He (evalOp T Γ w.st o) λr=>K r.1 (w.to r.2)
 | .call {callee:= .builtin .copy, .. } =>He (evalOp T Γ w.st o) λr=>K r.1 (w.to r.2)
 | .call {callee:= .builtin .clear, .. } =>He (evalOp T Γ w.st o) λr=>K r.1 (w.to r.2)
 | .call {callee:= .value (.func f),args, .. } =>match Γ f with
  |some (.m s)=>BK w.st o.dst s (args.toList.map w.st.ev) λv s'=>K v (w.to s')
  |some (.q s)=>match dy s (args.toList.map w.st.ev) with
   |true=>He (Mu args.toList w.st) λst1=>qW T Γ (w.to st1) o K
   |false=>qW T Γ w o K
  |_=>qW T Γ w o K
 |_=>qW T Γ w o K
def AV.PM:AV->Bool
 | .at .skip=>true
 |_=>false
def bW (w:WS) (o:Oper) (K:AV->WS->Prop):Prop:=
 match o.op with
 | .buildSlice t len parts=>He (an T w.st t len parts) λv=>K v w
 | .build t parts=>He (Wk T w.st t parts) λv=>K v w
 |_=>qW T Γ w o K
def gG (ops:Array Oper) (w:WS) (o:Oper) (run:(AV->WS->Prop)->WS->Prop) (K:WS->Prop):Prop:=
 match o.guard with
 |none=>run (λv w'=>K (w'.su o v)) w
 |some (j,want)=>He ((ops[j]?).bind (·.dst)) λt=>match (w.st.get t).PM with
  |true=>K (w.put o.dst (.at .skip))
  |false=>brT w t λb w'=>match b,want with
   |true,true=>run (λv o9=>K (o9.su o v)) w'
   |false,false=>run (λv o9=>K (o9.su o v)) w'
   |_,_=>K (w'.put o.dst (.at .skip))
def Aag (ops:Array Oper):List Oper->WS->(WS->Prop)->Prop
 | [],w,K=>K w
 |o::r,w,K=>gG ops w o (λk w'=>VC T Γ w' o k) λw'=>Aag ops r w' K
def PD (ops:Array Oper):List Nat->WS->(WS->Prop)->Prop
 | [],w,K=>K w
 |i::r,w,K=>He ops[i]? λo=>gG ops w o (λk w'=>VC T Γ w' o k) λw'=>PD ops r w' K
def iO (ops:Array Oper):List Nat->WS->(WS->Prop)->Prop
 | [],w,K=>K w
 |i::r,w,K=>He ops[i]? λo=>gG ops w o (λk w'=>bW T Γ w' o k) λw'=>iO ops r w' K
def MZ:List Nat->(Nat->Prop)->Prop
 | [],_=>True
 | [i],P=>P i
 |i::j::r,P=>P i/\MZ (j::r) P
def IB (ops:Array Oper):Nat->Array Bool->WS->(WS->Prop)->Prop
 |0,Af,w,K=>match Region.ready .any ops Af with
  | []=>K w
  |_::_=>False
 |f+1,Af,w,K=>match Region.ready .any ops Af with
  | []=>False
  |i::r=>MZ (i::r) λk=>He ops[k]? λo=>gG ops w o (λkk w'=>VC T Γ w' o kk) λw'=>IB ops f (Af.setIfInBounds k true) w' K
def acV:AC->Type->Type
 | .data _ τ _,R=>τ.den×R
 | .sub _ _ _,R=>Nat×R
 | .Jp _ _,R=>Nat×R
 | .Jn _ _ _,R=>Nat×Nat×R
 |_,R=>R
def BF:List AC->Type->Type
 | [],R=>R
 |c::r,R=>acV c (BF r R)
def avV:AV->Type->Type
 | .at a,R=>acV a R
 | .agg cs,R=>BF cs R
 | .aa _ τ _,R=>τ.den×R
 | .Mh _,R=>R
def obV:OB->Type->Type
 | .arr _ _ e _ _,R=>List e.den×R
 | .Gg e _ _,R=>List e.den×R
 | .var _ vs,R=>BF vs R
 | .Bj e _ _ _ none,R=>List (List e.den)×R
 | .Bj e _ _ _ (some _),R=>List (List e.den)×(Nat×R)
 | .Ul v _,R=>(ByteArray->Option v.den)×R
def o7:List AV->Type->Type
 | [],R=>R
 |v::r,R=>avV v (o7 r R)
def tC:List (Nat×OB)->Type->Type
 | [],R=>R
 |p::r,R=>obV p.2 (tC r R)
def stV (s:St):Type:=o7 s.tmps (tC s.heap Unit)
def FX:(c:AC)-> {R:Type} ->R->acV c R
 | .data _ _ x,_,r=>(x,r)
 | .undef,_,r=>r
 | .skip,_,r=>r
 | .Lo,_,r=>r
 | .Uk,_,r=>r
 | .own _ _ _,_,r=>r
 | .Gr _ _,_,r=>r
 | .Jp _ i,_,r=>(i,r)
 | .clo _ _,_,r=>r
 | .Ka _,_,r=>r
 | .sub _ i _,_,r=>(i,r)
 | .Jn _ i j,_,r=>(i,j,r)
def pe:(l:List AC)-> {R:Type} ->R->BF l R
 | [],_,r=>r
 |c::l,_,r=>FX c (pe l r)
def WC:(c:AV)-> {R:Type} ->R->avV c R
 | .at a,_,r=>FX a r
 | .agg cs,_,r=>pe cs r
 | .aa _ _ x,_,r=>(x,r)
 | .Mh _,_,r=>r
def XT:(b:OB)-> {R:Type} ->R->obV b R
 | .arr _ _ _ _ xs,_,r=>(xs,r)
 | .Gg _ _ xs,_,r=>(xs,r)
 | .var _ vs,_,r=>pe vs r
 | .Bj _ _ rows _ none,_,r=>(rows,r)
 | .Bj _ _ rows _ (some p),_,r=>(rows,p.2,r)
 | .Ul _ m,_,r=>(m,r)
def oY:(l:List AV)-> {R:Type} ->R->o7 l R
 | [],_,r=>r
 |c::l,_,r=>WC c (oY l r)
def oR:(l:List (Nat×OB))-> {R:Type} ->R->tC l R
 | [],_,r=>r
 |p::l,_,r=>XT p.2 (oR l r)
def HQ (s:St):stV s:=oY s.tmps (oR s.heap ())
def me:(c d:AC)-> {R:Type} ->R->Option (acV c R)
 | .data fr τ _, .data Uz Nr x,_,r=>if h:Nr=τ/\Uz=fr then some (h.1▸x,r) else none
 | .undef, .undef,_,r=>some r
 | .skip, .skip,_,r=>some r
 | .Lo, .Lo,_,r=>some r
 | .Uk, .Uk,_,r=>some r
 | .own l _ _, .own l' _ _,_,r=>if l=l' then some r else none
 | .Gr l i, .Gr l' i',_,r=>if l=l'/\i=i' then some r else none
 | .Jp l _, .Jp l' i',_,r=>if l=l' then some (i',r) else none
 | .clo f c, .clo f' c',_,r=>if f=f'/\c=c' then some r else none
 | .Ka l, .Ka l',_,r=>if l=l' then some r else none
 | .sub l _ c, .sub l' i' c',_,r=>if l=l'/\c=c' then some (i',r) else none
 | .Jn l _ _, .Jn l' i' j',_,r=>if l=l' then some (i',j',r) else none
 |_,_,_,_=>none
def Rh:(l m:List AC)-> {R:Type} ->R->Option (BF l R)
 | [],[],_,r=>some r
 |c::l,d::m,_,r=>(Rh l m r).bind λr'=>me c d r'
 |_,_,_,_=>none
def jx:(c d:AV)-> {R:Type} ->R->Option (avV c R)
 | .at a, .at b,_,r=>me a b r
 | .agg cs, .agg ds,_,r=>Rh cs ds r
 | .aa fr τ _, .aa Uz Nr x,_,r=>if h:Nr=τ/\Uz=fr then some (h.1▸x,r) else none
 |_,_,_,_=>none
def Sb:(b d:OB)-> {R:Type} ->R->Option (obV b R)
 | .arr fr tr e tid _, .arr Uz RW e' Tu xs,_,r=>if h:e'=e/\Uz=fr/\RW=tr/\Tu=tid then some (h.1▸xs,r) else none
 | .Gg e tid _, .Gg e' Tu xs,_,r=>if h:e'=e/\Tu=tid then some (h.1▸xs,r) else none
 | .Ul v _, .Ul v' m,_,r=>if h:v'=v then some (h▸m,r) else none
 | .var t vs, .var t' us,_,r=>if t'=t then Rh vs us r else none
 | .Bj e te _ out none, .Bj e' Qo rows Ye none,_,r=>if h:e'=e/\Qo=te/\Ye=out then some (h.1▸rows,r) else none
 | .Bj e te _ out (some p), .Bj e' Qo rows Ye (some p'),_,r=>if h:e'=e/\Qo=te/\Ye=out/\p'.1=p.1 then some (h.1▸rows,p'.2,r) else none
 |_,_,_,_=>none
def Om:(l m:List AV)-> {R:Type} ->R->Option (o7 l R)
 | [],[],_,r=>some r
 |c::l,d::m,_,r=>(Om l m r).bind λr'=>jx c d r'
 |_,_,_,_=>none
def Pp:(l m:List (Nat×OB))-> {R:Type} ->R->Option (tC l R)
 | [],[],_,r=>some r
 |p::l,q::m,_,r=>if q.1=p.1 then (Pp l m r).bind λr'=>Sb p.2 q.2 r' else none
 |_,_,_,_=>none
def gE (s t:St):Option (stV s):=(Pp s.heap t.heap ()).bind λr=>Om s.tmps t.tmps r
def js:(c:AC)-> {R:Type} ->acV c R->AC×R
 | .data fr τ _,_,v=>(.data fr τ v.1,v.2)
 | .undef,_,r=>(.undef,r)
 | .skip,_,r=>(.skip,r)
 | .Lo,_,r=>(.Lo,r)
 | .Uk,_,r=>(.Uk,r)
 | .own l off len,_,r=>(.own l off len,r)
 | .Gr l i,_,r=>(.Gr l i,r)
 | .Jp l _,_,v=>(.Jp l v.1,v.2)
 | .clo f c,_,r=>(.clo f c,r)
 | .Ka l,_,r=>(.Ka l,r)
 | .sub l _ c,_,v=>(.sub l v.1 c,v.2)
 | .Jn l _ _,_,v=>(.Jn l v.1 v.2.1,v.2.2)
def Zf:(l:List AC)-> {R:Type} ->BF l R->List AC×R
 | [],_,r=>([],r)
 |c::l,_,v=>((js c v).1::(Zf l (js c v).2).1,(Zf l (js c v).2).2)
def pw:(c:AV)-> {R:Type} ->avV c R->AV×R
 | .at a,_,v=>(.at (js a v).1,(js a v).2)
 | .agg cs,_,v=>(.agg (Zf cs v).1,(Zf cs v).2)
 | .aa fr τ _,_,v=>(.aa fr τ v.1,v.2)
 | .Mh l,_,r=>(.Mh l,r)
def qv:(b:OB)-> {R:Type} ->obV b R->OB×R
 | .arr fr tr e tid _,_,v=>(.arr fr tr e tid v.1,v.2)
 | .Gg e tid _,_,v=>(.Gg e tid v.1,v.2)
 | .Ul w _,_,v=>(.Ul w v.1,v.2)
 | .var t vs,_,v=>(.var t (Zf vs v).1,(Zf vs v).2)
 | .Bj e te _ out none,_,v=>(.Bj e te v.1 out none,v.2)
 | .Bj e te _ out (some p),_,v=>(.Bj e te v.1 out (some (p.1,v.2.1)),v.2.2)
def Vq:(l:List AV)-> {R:Type} ->o7 l R->List AV×R
 | [],_,r=>([],r)
 |c::l,_,v=>((pw c v).1::(Vq l (pw c v).2).1,(Vq l (pw c v).2).2)
def cv:(l:List (Nat×OB))-> {R:Type} ->tC l R->List (Nat×OB)×R
 | [],_,r=>([],r)
 |p::l,_,v=>((p.1,(qv p.2 v).1)::(cv l (qv p.2 v).2).1,(cv l (qv p.2 v).2).2)
def gD (s:St) (v:stV s):St:= {tmps:=(Vq s.tmps v).1,heap:=(cv s.heap (Vq s.tmps v).2).1}
def lenOf (H:List (Nat×OB)) (l:Nat):Nat:=match As H l with|some (.arr _ _ _ _ xs)=>xs.length|some (.Gg _ _ xs)=>xs.length|some (.Bj _ _ rows _ _)=>rows.length|_=>0
def Ym (ps:List Nat):List AV->List (Nat×Nat×Nat)
 | []=> []
 | .at (.own l off len)::r=>if ps.contains l then (l,off,len)::Ym ps r else Ym ps r
 |_::r=>Ym ps r
def Aae:List (Nat×Nat×Nat)->Nat->Nat
 | [],_=>0
 |(k,o,_)::r,l=>if k=l then o else Aae r l
def JF:List (Nat×Nat×Nat)->List (Nat×OB)->Nat->Nat
 | [],H,l=>lenOf H l
 |(k,_,n)::r,H,l=>if k=l then n else JF r H l
def ee (B:List (Nat×Nat×Nat)) (H:List (Nat×OB)):AC->AC
 | .own l _ _=> .own l (Aae B l) (JF B H l)
 |c=>c
def St.whole (B:List (Nat×Nat×Nat)) (s:St):St:=s.Kr (ee B s.heap)
def uS (B:List (Nat×Nat×Nat)) (H:List (Nat×OB)) (c:AC) (K:Prop):Prop:=match c with
 | .own l off len=>off=Aae B l/\len=JF B H l/\K
 |_=>K
def c5 (B:List (Nat×Nat×Nat)) (H:List (Nat×OB)):List AC->Prop->Prop
 | [],K=>K
 |c::r,K=>uS B H c (c5 B H r K)
def FZ (B:List (Nat×Nat×Nat)) (H:List (Nat×OB)) (c:AV) (K:Prop):Prop:=match c with
 | .at a=>uS B H a K
 | .agg cs=>c5 B H cs K
 | .aa _ _ _=>K
 | .Mh _=>False
def a9 (B:List (Nat×Nat×Nat)) (H:List (Nat×OB)):List AV->Prop->Prop
 | [],K=>K
 |c::r,K=>FZ B H c (a9 B H r K)
def gV (B:List (Nat×Nat×Nat)) (H:List (Nat×OB)):List (Nat×OB)->Prop->Prop
 | [],K=>K
 |p::r,K=>match p.2 with
  | .var _ vs=>c5 B H vs (gV B H r K)
  |_=>gV B H r K
def x4 (B:List (Nat×Nat×Nat)) (s:St) (K:Prop):Prop:=a9 B s.heap s.tmps (gV B s.heap s.heap K)
def AV.Ws:AV->Bool
 | .at (.data _ _ _)=>true
 |_=>false
def Jy (p:Nat->Bool):Nat->List AV->List Bool
 |_,[]=> []
 |i,v::r=>(v.Ws&&p i)::Jy p (i+1) r
def stays (live:Nat->List Nat) (c:Code) (t:Nat):Bool:=!(writes c).contains t&&aB live c t
def Sv:List Bool->List AV->List AV
 |true::f,_::r=> .undef::Sv f r
 |false::f,v::r=>v::Sv f r
 |_,l=>l
def Ud:List Bool->List AV->List AV->List AV
 |true::f,a::s,_::r=>a::Ud f s r
 |false::f,_::s,v::r=>v::Ud f s r
 |_,_,l=>l
def St.mask (fx:List Bool) (s:St):St:= {tmps:=Sv fx s.tmps,heap:=s.heap}
def St.sj (fx:List Bool) (s0 s:St):St:= {tmps:=Ud fx s0.tmps s.tmps,heap:=s.heap}
def oN (c:AC) (k:AC->Prop):Prop:=match c with
 | .undef=>k .undef
 | .skip=>k .skip
 | .Lo=>k .Lo
 | .Uk=>k .Uk
 | .data fr τ x=>match fr with
  |true=>k (.data true τ x)
  |false=>k (.data false τ x)
 | .own l off len=>k (.own l off len)
 | .Gr l i=>k (.Gr l i)
 | .Jp l i=>k (.Jp l i)
 | .clo f c=>k (.clo f c)
 | .Ka l=>k (.Ka l)
 | .sub l i c=>k (.sub l i c)
 | .Jn l i c=>k (.Jn l i c)
def fN:List AC->(List AC->Prop)->Prop
 | [],k=>k []
 |c::r,k=>oN c λc'=>fN r λr'=>k (c'::r')
def vA (c:AV) (k:AV->Prop):Prop:=match c with
 | .at a=>oN a λa'=>k (.at a')
 | .agg cs=>fN cs λfD=>k (.agg fD)
 | .aa fr τ x=>k (.aa fr τ x)
 | .Mh l=>k (.Mh l)
def fO:List AV->(List AV->Prop)->Prop
 | [],k=>k []
 |c::r,k=>vA c λc'=>fO r λr'=>k (c'::r')
def vB (b:OB) (k:OB->Prop):Prop:=match b with
 | .arr fr tr e tid xs=>match fr,tr with
  |true,true=>k (.arr true true e tid xs)
  |true,false=>k (.arr true false e tid xs)
  |false,true=>k (.arr false true e tid xs)
  |false,false=>k (.arr false false e tid xs)
 | .Gg e tid xs=>k (.Gg e tid xs)
 | .var t vs=>fN vs λvs'=>k (.var t vs')
 | .Bj e te rows out kp=>match out,kp with
  |none,none=>k (.Bj e te rows none none)
  |none,some (l,n)=>k (.Bj e te rows none (some (l,n)))
  |some i,none=>k (.Bj e te rows (some i) none)
  |some i,some (l,n)=>k (.Bj e te rows (some i) (some (l,n)))
 | .Ul v m=>k (.Ul v m)
def pM:List (Nat×OB)->(List (Nat×OB)->Prop)->Prop
 | [],k=>k []
 |(l,b)::r,k=>vB b λb'=>pM r λr'=>k ((l,b')::r')
def Yo (w:WS) (k:WS->Prop):Prop:=fO w.st.tmps λt=>pM w.st.heap λh=>k {kn:=w.kn,st:= {tmps:=t,heap:=h} }
def mw (s:St) (k:St->Prop):Prop:=fO s.tmps λt=>pM s.heap λh=>k {tmps:=t,heap:=h}
def dj:List Bool->(List Bool->Prop)->Prop
 | [],k=>k []
 |true::r,k=>dj r λr'=>k (true::r')
 |false::r,k=>dj r λr'=>k (false::r')
theorem nD {c:AC} {k:AC->Prop} :oN c k↔k c:=by
 cases c<;>simp only [oN]
 split<;>rfl
theorem dh: ∀ {l:List AC} {k:List AC->Prop},fN l k↔k l
 | [],k=>Iff.rfl
 |c::r,k=>by simp only [fN];rw [nD,dh]
theorem yt {c:AV} {k:AV->Prop} :vA c k↔k c:=by
 cases c<;>simp only [vA]
 ·exact nD
 ·exact dh
theorem di: ∀ {l:List AV} {k:List AV->Prop},fO l k↔k l
 | [],k=>Iff.rfl
 |c::r,k=>by simp only [fO];rw [yt,di]
theorem yu {b:OB} {k:OB->Prop} :vB b k↔k b:=by
 cases b<;>simp only [vB]
 ·split<;>rfl
 ·exact dh
 ·split<;>rfl
theorem jF: ∀ {l:List (Nat×OB)} {k:List (Nat×OB)->Prop},pM l k↔k l
 | [],k=>Iff.rfl
 |(l,b)::r,k=>by simp only [pM];rw [yu,jF]
theorem IN {s:St} {k:St->Prop} :mw s k=k s:=by
 unfold mw
 exact propext (by rw [di,jF])
theorem dk: ∀ {l:List Bool} {k:List Bool->Prop},dj l k=k l
 | [],k=>rfl
 |true::r,k=>by simp only [dj];rw [dk]
 |false::r,k=>by simp only [dj];rw [dk]
theorem Nm {w:WS} {k:WS->Prop} :Yo w k↔k w:=by
 unfold Yo
 rw [di,jF]
def ag:AC->List (Nat×Nat)
 | .own _ off len=> [(off,len)]
 |_=> []
def ai:AV->List (Nat×Nat)
 | .at a=>ag a
 | .agg cs=>cs.flatMap ag
 |_=> []
def jT:OB->List (Nat×Nat)
 | .var _ vs=>vs.flatMap ag
 |_=> []
def EV (s:St):List (Nat×Nat):=s.tmps.flatMap ai++s.heap.flatMap λp=>jT p.2
def eqW (s0 s:St):Prop:=EV s=EV s0/\He (gE s0 s) λv=>v=HQ s0
def au (ops:Array Oper):Nat->Array Bool->WS->(WS->Prop)->Prop
 |0,Af,w,K=>match Region.ready .any ops Af with
  | []=>K w
  |_::_=>False
 |f+1,Af,w,K=>match Region.ready .any ops Af with
  | []=>False
  |k::_=>He ops[k]? λo=>gG ops w o (λkk w'=>VC T Γ w' o kk) λw'=>au ops f (Af.setIfInBounds k true) w' K
def xO (P:List (Nat×Nat×AV×OB)) (ops:Array Oper):Nat->Array Bool->WS->(WS->Prop)->Prop
 |0,Af,w,K=>match Region.ready .any ops Af with
  | []=>K w
  |_::_=>False
 |f+1,Af,w,K=>match Region.ready .any ops Af with
  | []=>False
  |i::r=>MZ (i::r) λk=>He ops[k]? λo=>match DI P Γ ops w.st o k with
   |true=>gG ops w o (λkk w'=>VC T Γ w' o kk) λw'=>xO P ops f (Af.setIfInBounds k true) w' K
   |false=>False
def uz (ops:Array Oper) (E:List Nat) (Af:Array Bool) (w:WS):List Nat->Prop->Prop
 | [],K=>K
 |r::R,K=>match oZ ops E Af r with
  |true=>uz ops E Af w R K
  |false=>(iO T Γ ops [r] w λw'=>He ((ops[r]?).bind (·.dst)) λd=>match Nat.blt d w.st.tmps.length with
    |true=>eqW ⟨[w.st.get d],[]⟩ ⟨[w'.st.get d],[]⟩
    |false=>False)/\uz ops E Af w R K
def pf (ops:Array Oper) (E:List Nat):Nat->Array Bool->WS->(WS->Prop)->Prop
 |0,Af,w,K=>uz T Γ ops E Af w E (match Region.ready .any ops Af with
  | []=>K w
  |_::_=>False)
 |f+1,Af,w,K=>uz T Γ ops E Af w E (match Region.ready .any ops Af with
  | []=>False
  |i::r=>MZ (i::r) λk=>He ops[k]? λo=>gG ops w o (λkk w'=>VC T Γ w' o kk) λw'=>pf ops E f (Af.setIfInBounds k true) w' K)
def EC (E:List Nat) (n:Nat) (L0:Array Bool) (ops:Array Oper) (w:WS) (K:WS->Prop):Prop:=
 match br ops E L0&&(Nat.ble E.length n&&Nat.ble (n-E.length) 10) with
 |true=>iO T Γ ops E w λw1=>Yo w1 λw1=>au T Γ ops (n-E.length) (Ee E L0) w1 λw0=>Yo w0 λw0=>K w0/\pf T Γ ops E (n-E.length) (Ee E L0) w1 λw2=>Yo w2 λw2=>eqW w0.st w2.st
 |false=>False
def uX (P:List (Nat×Nat×AV×OB)) (n:Nat) (L0:Array Bool) (ops:Array Oper) (w:WS) (K:WS->Prop):Prop:=
 match (Yp (P.map (·.1))&&Yp (P.map (·.2.1)))&&((P.all λa=>mJ a.2.1 w.st)&&(Nat.ble P.length n&&Nat.ble (n-P.length) 10)) with
 |true=>PD T Γ ops (P.map (·.1)) w λw1=>Yo w1 λw1=>au T Γ ops (n-P.length) (Ee (P.map (·.1)) L0) w1 λw0=>Yo w0 λw0=>K w0/\xO T Γ P ops (n-P.length) (Ee (P.map (·.1)) L0) w1 λw2=>eqW w0.st w2.st
 |false=>EC T Γ (ia ops (List.range ops.size) L0) n L0 ops w K
def gk:Nat:=800000000
def zk (ops:Array Oper):Nat->Array Bool->Bool
 |0,Af=>(Region.ready .any ops Af).isEmpty
 |f+1,Af=>match Region.ready .any ops Af with
  | [i]=>zk ops f (Af.setIfInBounds i true)
  |_=>false
def HL (ops:Array Oper) (L0:Array Bool):List Nat:=ia ops (List.range ops.size) L0
def u5 (ops:Array Oper):Array Bool:=Ee (Kb ops) (Array.replicate ops.size false)
def QD (ops:Array Oper):Bool:=Region.noSelect ops&&(br ops (HL ops (u5 ops)) (u5 ops)&&(Nat.ble (HL ops (u5 ops)).length (ops.size-(Kb ops).length)&&Nat.ble ((ops.size-(Kb ops).length)-(HL ops (u5 ops)).length) 10))
def eqM (fx:List Bool) (s0 s:St):Prop:=eqW (s0.mask fx) (s.mask fx)
def Rt (ops:Array Oper) (t:Nat):Bool:=!Xf ops t
def rv (ops:Array Oper):List Nat:=(ops.toList.filterMap λo=>match o.op with
 | .alloc _=>none
 | .box _ _=>none
 | .assign _=>none
 |_=>o.dst).filter λd=>ops.toList.any λo=>(o.looksAt ops).contains d
def WS.Pv (dead:List Nat) (w:WS):WS:= {kn:=w.kn.filter λp=>!dead.contains p.1,st:=w.st.Pv dead}
def QE (dead E:List Nat) (n:Nat) (L0:Array Bool) (ops:Array Oper) (w:WS) (K:WS->Prop):Prop:=
 match br ops E L0&&Nat.ble E.length n with
 |true=>iO T Γ ops E w λw1=>Yo w1 λw1=>match zk ops (n-E.length) (Ee E L0) with
  |true=>pf T Γ ops E (n-E.length) (Ee E L0) w1 λw2=>K (w2.Pv dead)
  |false=>dj (Jy (Rt ops) 0 w1.st.tmps) λfx=>au T Γ ops (n-E.length) (Ee E L0) w1 λw0=>Yo (w0.Pv dead) λw0=>K w0/\pf T Γ ops E (n-E.length) (Ee E L0) w1 λw2=>Yo (w2.Pv dead) λw2=>eqM fx w0.st w2.st
 |false=>False
def oW (ops:Array Oper) (draw:Bool) (w:WS) (K:WS->Prop):Prop:=
 match draw with
 |true=>match bq false Γ ops with
  |true=>iO T Γ ops (gU false Γ ops) w λw'=>PD T Γ ops (Ix false Γ ops) w' K
  |false=>match bq true Γ ops with
   |true=>iO T Γ ops (gU true Γ ops) w λw'=>PD T Γ ops (Ix true Γ ops) w' K
   |false=>match Region.noSelect ops&&Nat.ble (ops.size-(Kb ops).length) 8 with
    |true=>iO T Γ ops (Kb ops) w λw'=>match gS false ops&&!T.marks.contains gk with
     |true=>IB T Γ ops (ops.size-(Kb ops).length) (Ee (Kb ops) (Array.replicate ops.size false)) w' K
     |false=>au T Γ ops (ops.size-(Kb ops).length) (Ee (Kb ops) (Array.replicate ops.size false)) w' λw0=>Yo w0 λw0=>K w0/\IB T Γ ops (ops.size-(Kb ops).length) (Ee (Kb ops) (Array.replicate ops.size false)) w' λw1=>eqW w0.st w1.st
    |false=>match Region.noSelect ops with
     |true=>iO T Γ ops (Kb ops) w λw'=>uX T Γ (Xt T ops (Ee (Kb ops) (Array.replicate ops.size false))) (ops.size-(Kb ops).length) (Ee (Kb ops) (Array.replicate ops.size false)) ops w' K
     |false=>False
 |false=>Aag T Γ ops ops.toList w K
def wH (ops:Array Oper) (draw:Bool) (w:WS) (K:WS->Prop):Prop:=
 match T.marks.contains gk&&(rv ops).all (Xf ops) with
 |true=>match draw&&(!(bq false Γ ops||bq true Γ ops)&&QD ops) with
  |true=>iO T Γ ops (Kb ops) w λw'=>QE T Γ (rv ops) (HL ops (u5 ops)) (ops.size-(Kb ops).length) (u5 ops) ops w' K
  |false=>oW T Γ ops draw w λw'=>K (w'.Pv (rv ops))
 |false=>oW T Γ ops draw w K
def c8 (live:Nat->List Nat):Code->WS->(Ld->WS->Prop)->Prop
 | .skip,w,Q=>Q .normal w
 | .label _,w,Q=>Q .normal w
 | .region _ ops draw,w,Q=>wH T (wG Γ draw) ops draw {w with st:=w.st.kG ops} λw'=>Yo w' (Q .normal)
 | .seq a b,w,Q=>c8 live a w λe w'=>match e with
  | .normal=>c8 live b w' Q
  | .exit id=>Q (.exit id) w'
  | .ret=>Q .ret w'
 | .cond c a b,w,Q=>brO w c λt w'=>match t with
  |true=>c8 live a w' Q
  |false=>c8 live b w' Q
 | .block id c,w,Q=>c8 live c w λe w'=>match e with
  | .normal=>Q .normal w'
  | .exit JB=>if JB=id then Q .normal w' else Q (.exit JB) w'
  | .ret=>Q .ret w'
 | .loop c,w,Q=>
  mw (w.st.clean (live (En c))) λs0=>dj (Jy (stays live c) 0 s0.tmps) λfx=>mw (s0.mask fx) λm=>
  x4 (Ym T.parts s0.tmps) s0 (Ek (V:=stV m) (λv k=>mw ((St.sj fx s0 (gD m v)).whole (Ym T.parts s0.tmps)) λsb=>c8 live c ⟨[],sb⟩ λe w'=>match e with
   | .normal=>mw (w'.st.clean (live (En c))) λs1=>x4 (Ym T.parts s0.tmps) s1 (He (gE m (s1.mask fx)) k)
   | .exit id=>Q (.exit id) w'
   | .ret=>Q .ret w') (HQ m))
 | .exit id,w,Q=>Q (.exit id) w
 | .ret,w,Q=>Q .ret w
 |_,_,_=>False
def YL (s:Spec) (fn:Func) (P:s.res.den->Prop) (st:St):Prop:=
 He (kR T s fn st) λp=>match p.1||!s.fresh with|true=>P p.2|false=>False
def ga (st:St) (K:Prop):List AC->List (Bool×CK)->Prop
 | .own l off len::as,(true,_)::r=>match st.at l with
  |some (.arr _ _ _ _ xs)=>(off=0/\len=xs.length)/\ga st K as r
  |some (.Gg _ _ xs)=>(off=0/\len=xs.length)/\ga st K as r
  |_=>False
 |_::as,(false,_)::r=>ga st K as r
 |_,_=>K
def mL (st:St):(cs:List CK)->List AC->(CKs.den cs->List Nat->Prop)->Prop
 | [],[],K=>K () []
 | .Bj e te _::r, .own l off len::as,K=>match st.at l with
  |some (.Bj e' Qo rows none _)=>if h:e'=e/\Qo=te then (off=0/\len=rows.length)/\mL st r as λy t=>K ((h.1▸rows:List (List e.den)),y) (l::t) else False
  |_=>False
 |c::r,a::as,K=>He (iy st c a) λp=>mL st r as λy t=>K (p.1,y) (p.2++t)
 |_,_,_=>False
def vT (st:St) (n:Nat) (as:List AC):List (Nat×Nat)->Prop->Prop
 | [],K=>K
 |(k,j)::r,K=>match as[j]? with
  |some (.own l _ _)=>match st.at l with
   |some (.Bj _ _ _ _ (some p))=>match Nat.beq p.1 (Dt false k)&&Nat.blt k 1000 with
    |true=>n<=p.2/\vT st n as r K
    |false=>False
   |_=>False
  |_=>False
def qL (s:MSpec) (fn:Func) (x:Ins.den s.ins) (st:St) (cs:List AC) (P:CKs.den s.outs×IOs.den s.ins->Prop):Prop:=
 He (bR T st fn.results.toList) λl=>He (EG s st l) λp=>mL st s.outs (cs++p.1) λr ls=>He (Oa st 0 s.ins) λo=>
  match Yp (p.2++ls++Pd 0 s.ins)&&Nat.blt s.ins.length 1000&&Nat.blt s.outs.length 1000&&s.PX with
  |true=>vT st (s.Fw x) (cs++p.1) s.keeps (P (r,o))
  |false=>False
def HN (s:MSpec) (fn:Func) (x:Ins.den s.ins) (st:St) (P:CKs.den s.outs×IOs.den s.ins->Prop):Prop:=
 match s.ptr with
 |none=>qL T s fn x st [] P
 |some p=>match st.at On with
  |some (.var tid vs)=>match Nat.beq tid p.1&&Nat.beq vs.length p.2 with
   |true=>He (Ir 0 s.ins vs) λcs=>ga st (qL T s fn x st cs P) vs s.ins
   |false=>False
  |_=>False
@[irreducible] def fnMW (s:MSpec) (fn:Func) (x:Ins.den s.ins) (P:CKs.den s.outs×IOs.den s.ins->Prop):Prop:=
 match Nat.blt s.ins.length 1000&&wB s with
 |false=>False
 |true=>He fn.body λc=>c8 T Γ (vZ T.marks fn c) c {kn:= [],st:= {tmps:=Za s (aA 0 s.ins x)++List.replicate (fn.ntmps-(Za s (aA 0 s.ins x)).length) .undef,heap:=nJ s x} } λe w=>match e with
  | .normal=>HN T s fn x w.st P
  | .ret=>HN T s fn x w.st P
  | .exit _=>False
@[irreducible] def fnW (s:Spec) (fn:Func) (x:s.arg.den) (P:s.res.den->Prop):Prop:=
 He fn.body λc=>c8 T Γ (vZ T.marks fn c) c {kn:= [],st:= {tmps:=Rx s.arg x++List.replicate (fn.ntmps-(Rx s.arg x).length) .undef,heap:= []} } λe w=>match e with
  | .normal=>YL T s fn P w.st
  | .ret=>YL T s fn P w.st
  | .exit _=>False
end Go.Proofs.Ytkkdpknjohcekaa
