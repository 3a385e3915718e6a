/-
  Part 31 of the proof that the statement FnExactExactStateCount holds.
-/
import Derived.Test.YtjbdmibbbpdnnaaCExactStateCount29
namespace Go.Proofs.Ytjbdmibbbpdnnaa
open Go.RowKit
inductive Br (b:Bool) (A B:Prop):Prop
 |mk (t:b=true->A) (f:b=false->B)
inductive Bl {V:Type} (step:V->(V->Prop)->Prop) (v0:V):Prop
 |mk (I:V->Prop) (μ:V->Nat) (h0:I v0) (h: ∀v,I v->step v (λv'=>I v'/\μ v'<μ v))
structure WS where
 kn:List (Nat×Bool)
 st:St
def oO:List (Nat×Bool)->Nat->Option Bool
 | [],_=>none
 |(k,b)::r,t=>if k=t then some b else oO r t
def qf:List (Nat×Bool)->Nat->List (Nat×Bool)
 | [],_=> []
 |(k,b)::r,t=>if k=t then qf r t else (k,b)::qf r t
def WS.put (w:WS) (dst:Option Tmp) (v:AV):WS:=
 match dst with
 |some d=> {kn:=qf w.kn d,st:=w.st.put (some d) v}
 |none=>w
def Pb (kn:List (Nat×Bool)):Operand->Option Bool
 | .const (.bool b)=>some b
 | .tmp t=>oO kn t
 |_=>none
def Dl (kn:List (Nat×Bool)) (o:Oper):Option Bool:=
 match o.op with
 | .assign x=>Pb kn x
 | .move x=>Pb kn x
 | .unOp .not _ x=>(Pb kn x).map (!·)
 | .pick c a b=>match Pb kn c with
  |some true=>Pb kn a
  |some false=>Pb kn b
  |none=>none
 |_=>none
def WS.p8 (w:WS) (o:Oper) (v:AV):WS:=
 match o.dst,Dl w.kn o with
 |some d,some b=>match (w.st.put (some d) v).get d with
  | .at (.data _ .bool _)=> {kn:=(d,b)::qf w.kn d,st:=w.st.put (some d) v}
  |_=>w.put (some d) v
 |dst,_=>w.put dst v
def WS.to (w:WS) (st:St):WS:= {kn:=w.kn,st:=st}
def brT (w:WS) (t:Nat) (K:Bool->WS->Prop):Prop:=
 match oO w.kn t with
 |some b=>K b w
 |none=>match w.st.get t with
  | .at (.data _ .bool b)=>Br b (K true {kn:=(t,true)::w.kn,st:=w.st}) (K false {kn:=(t,false)::w.kn,st:=w.st})
  |_=>False
def brO (w:WS) (c:Operand) (K:Bool->WS->Prop):Prop:=
 match c with
 | .tmp t=>brT w t K
 | .const (.bool b)=>K b w
 |_=>False
def Dz {α:Type} (o:Option α) (K:α->Prop):Prop:=match o with|some x=>K x|none=>False
def TO (T:Tab) (st:St) (t:TypeId) (x:AV) (l h:Int):Option AV:=
 match x with
 | .at (.data fr (.slice e) xs)=>if (T.elem t).bind T.ty=some e then some (.at (.data fr (.slice e) ((xs.take h.toNat).drop l.toNat))) else none
 | .at (.own k off _)=>match st.at k with
  |some (.arr _ _ e tid _)=>if T.elem t=some tid/\T.ty tid=some e then some (.at (.own k (off+l.toNat) (h.toNat-l.toNat))) else none
  |_=>none
 | .at (.data _ .str s)=>if T.ty t=some .str then some (.at (.data true .str (s.extract l.toNat h.toNat))) else none
 |_=>none
variable (T:Tab) (Γ:Env)
def QN (op:BinOp) (t:TypeId) (x y:AV) (K:AV->Prop):Prop:=
 match op,x,y with
 | .quo, .at (.data _ (.int k) a), .at (.data _ (.int k') b)=>if k=k' then b≠0/\K (.at (.data true (.int k) (k.wrap (a.tdiv b)))) else False
 | .rem, .at (.data _ (.int k) a), .at (.data _ (.int k') b)=>if k=k' then b≠0/\K (.at (.data true (.int k) (a.tmod b))) else False
 | .shl, .at (.data _ (.int k) a), .at (.data _ (.int _) b)=> ¬b<0/\K (.at (.data true (.int k) (k.wrap (a*2^(min b.toNat k.bits)))))
 | .shr, .at (.data _ (.int k) a), .at (.data _ (.int _) b)=> ¬b<0/\K (.at (.data true (.int k) (a.fdiv (2^(min b.toNat k.bits)))))
 | .add, .at (.data _ .str a), .at (.data _ .str b)=>a.size+b.size<=4294967296/\K (.at (.data true .str (a++b)))
 |op,x,y=>Dz (Ms T op t x y) K
def IG (st:St) (t:TypeId) (p:AV) (K:AV->Prop):Prop:=
 match p with
 | .at (.Fy l i)=>Dz (T.ty t) λτ=>match st.at l with
  |some (.arr fr _ e _ xs)=>if e=τ then ∃x,xs[i]?=some x/\K (.at (.data (fr||e.flat) e x)) else False
  |some (.Dc e _ xs)=>if e=τ then ∃x,xs[i]?=some x/\K (if e.Ac then .agg (ah l i 0 e x) else .at ((ah l i 0 e x).headD .undef)) else False
  |some (.Ak _ _ _ none _)=>if τ.Ac then False else K (.at (.sub l i 0))
  |_=>False
 | .at (.data fr (.optr Iv) x)=>Dz (T.ty t) λτ=>if Iv=τ then ∃y,x=some y/\K (.at (.data (fr||Iv.flat) Iv y)) else False
 |p=>Dz (Kd T st t p) K
def eO (s:TypeId) (x:AV) (f:Nat) (K:AV->Prop):Prop:=
 match x with
 | .at (.data fr (.optr τ) x)=> ∃y,x=some y/\Dz (Il T s (.at (.data fr (.ptr τ) y)) f) K
 |x=>Dz (Il T s x f) K
def qo (st:St) (x:Operand) (K:AV->Prop) (d:Option AV):Prop:=
 match st.ev x with
 | .at (.data fr (.optr τ) x)=> ∃y,x=some y/\K (.at (.data fr (.ptr τ) y))
 |_=>Dz d K
def z7 (st:St) (t:TypeId) (x:AV) (lo hi:Option AV) (K:AV->Prop):Prop:=
 Dz (vq x) λn=>Dz (FL lo 0) λl=>Dz (FL hi n) λh=>(0<=l/\l<=h/\h<=n)/\Dz (TO T st t x l h) K
def eZ (st:St) (t:TypeId) (x i:AV) (K:AV->Prop):Prop:=
 match x,i with
 | .at (.data fr (.slice e) xs), .at (.data _ (.int _) n)=>if (T.elem t).bind T.ty=some e then ∃x,idx xs n=some x/\K (.at (.data fr (.ptr e) x)) else False
 | .at (.own l off len), .at (.data _ (.int _) n)=>match st.at l with
  |some (.arr _ _ e tid _)=>if T.elem t=some tid/\T.ty tid=some e then (0<=n/\n<len)/\K (.at (.Fy l (off+n.toNat))) else False
  |some (.Dc e tid _)=>if T.elem t=some tid/\T.ty tid=some e then (0<=n/\n<len)/\K (.at (.Fy l (off+n.toNat))) else False
  |some (.Ak _ te _ _ _)=>if T.elem t=some te/\(T.ty te).map Ty.size=some 1 then (0<=n/\n<len)/\K (.at (.Fy l (off+n.toNat))) else False
  |_=>False
 | .at (.sub l i _), .at (.data _ (.int _) n)=>match st.at l with
  |some (.Ak e _ rows none _)=>if ((T.elem t).bind T.ty).map Ty.size=some e.size then (0<=n/\n<(rows.getD i []).length)/\K (.at (.Fv l i n.toNat)) else False
  |_=>False
 |_,_=>False
def xZ (t:TypeId) (x i:AV) (K:AV->Prop):Prop:=
 match x,i with
 | .at (.data _ .str s), .at (.data _ (.int _) n)=>if T.ty t=some .str then 0<=n/\ ∃b,s[n.toNat]?=some b/\K (.at (.data true (.int .u8) b.toNat)) else False
 |_,_=>False
def pS (st:St) (f:FuncId) (args:List AV) (K:AV->Prop):Prop:=
 Dz (match Γ f with|some (.q s)=>some s|_=>none) λs=>match s.fresh||s.res.flat||args.all (·.settled) with
  |true=>Dz (Bs st s.arg args) λp=> ∃y,s.fn p.2=some y/\K (if s.Ef then .Uf (s.fresh||s.res.flat) s.res y else .at (.data (s.fresh||s.res.flat) s.res y))
  |false=>False
def xw (st:St) (v:AV) (args:List AV) (K:AV->Prop):Prop:=
 match v with
 | .at (.data fr (.clo f τ) x)=>match τ.chain with|true=>(match Nat.blt f 1000000000 with|true=>pS Γ st f (args++Uk fr τ x) K|false=>pS Γ st (f-1000000000) (Uk fr τ x++args) K)|false=>False
 | .at (.clo f Bw)=>pS Γ st f (args++Bw.map λp=> .at (.Dx p.1 p.2)) K
 |_=>False
def qW (w:WS) (o:Oper) (K:AV->WS->Prop):Prop:=
 match o.op with
 | .pick c a b=>brO w c λt w'=>match t with|true=>K (w'.st.ev a) w'|false=>K (w'.st.ev b) w'
 | .load t a=>IG T w.st t (w.st.ev a) λv=>K v w
 | .binOp op t x y _=>QN T op t (w.st.ev x) (w.st.ev y) λv=>K v w
 | .slice t x lo hi mx=>match mx with
  |none=>z7 T w.st t (w.st.ev x) (lo.map w.st.ev) (hi.map w.st.ev) λv=>K v w
  |some _=>False
 | .indexAddr t x i=>eZ T w.st t (j5 (w.st.ev x)) (w.st.ev i) λv=>K v w
 | .index t x i=>xZ T t (w.st.ev x) (w.st.ev i) λv=>K v w
 | .call {callee:= .value (.func f),args, .. } =>pS Γ w.st f (args.toList.map w.st.ev) λv=>K v w
 | .call {callee:= .value (.tmp t),args, .. } =>xw Γ w.st (w.st.get t) (args.toList.map w.st.ev) λv=>K v w
 | .fieldAddr s x f=>eO T s (w.st.ev x) f λv=>K v w
 | .nilCheck x=>qo w.st x (λv=>K v w) (Ce T Γ w.st o)
 |_=>Dz (Ce T Γ w.st o) λv=>K v w
def zj (st:St) (t:TypeId) (p v:AV) (K:St->Prop):Prop:=
 match p with
 | .at (.Fy l j)=>Dz (T.ty t) λτ=>Dz (settle st v) λq=>match q.2.at l with
  |some (.arr fr tr e tid xs)=>Dz (Cr q.2 τ q.1) λu=>if h:τ=e then j<xs.length/\K (q.2.Fz l (.arr (fr&&u.1) (tr&&(Mn st v&&e.tree)) e tid (xs.set j (h▸u.2)))) else False
  |_=>False
 |p=>Dz (Ns T st t p v) K
def AZ (st:St) (t:TypeId) (p v:AV) (K:St->Prop):Prop:=
 match p with
 | .at (.Fv l i j)=>Dz (T.ty t) λτ=>Dz (settle st v) λq=>match q.2.at l with
  |some (.Ak e te rows none kp)=>Dz (Cr q.2 τ q.1) λu=>if h:τ=e then K (q.2.Fz l (.Ak e te (rows.set i ((rows.getD i []).set j (h▸u.2))) none kp)) else False
  |_=>False
 | .at (.Fy l j)=>Dz (T.ty t) λτ=>match st.at l,v with
  |some (.Ak e te rows out kp), .at (.own m off len)=>match st.at m with
   |some (.arr _ _ e' _ xs)=>if h:e'=e/\(Nat.blt l Aj&&(!Nat.beq m l&&!τ.Ac))=true then
     off=0/\len=xs.length/\(match out with|none=>True|some i=>i=j)/\K (Mr st l j m e te rows (h.1▸xs) (Uw j kp))
    else False
   |_=>False
  |_,_=>False
 |_=>False
def tf (st:St) (t:TypeId) (p v:AV) (K:St->Prop):Prop:=match zY st p with
 |true=>AZ T st t p v K
 |false=>zj T st t p v K
def fI (st:St) (dst:Nat) (t:TypeId) (x y:Operand) (K:AV->St->Prop):Prop:=
 Dz (T.elem t) λte=>Dz (T.ty te) λe=>Dz (settle st (st.ev y)) λq=>Dz (Cr q.2 (.slice e) q.1) λu=>match q.2.ev x with
  | .at .Hj=>match Nat.blt dst Aj with
   |true=>List.length u.2<=Bh/\K (.at (.own dst 0 (List.length u.2))) ((q.2.new dst (.arr (T.og||e.flat) T.tU e te [])).new dst (.arr ((T.og||e.flat)&&(u.1||e.flat)) (T.tU&&(e.flat||(Mn st (st.ev y)&&e.tree))) e te u.2))
   |false=>False
  | .at (.own l off len)=>match q.2.at l with
   |some (.arr fr tr e' tid xs)=>if h:e'=e/\tid=te/\Nat.blt l Aj=true then
     off=0/\len=xs.length/\len+List.length u.2<=Bh/\K (.at (.own l 0 (List.length ((h.1▸xs:List e.den)++u.2)))) (q.2.new l (.arr (fr&&(u.1||e.flat)) (tr&&(e.flat||(Mn st (st.ev y)&&e.tree))) e te ((h.1▸xs:List e.den)++u.2)))
    else False
   |_=>False
  |_=>False
def lI (st:St) (dst:Nat) (t:TypeId) (x y:Operand) (K:AV->St->Prop):Prop:=
 match x with
 | .tmp tx=>match st.get tx with
  | .at (.sub l i _)=>Dz (T.elem t) λtid=>match st.at l with
   |some (.Ak e te rows none kp)=>match Nat.blt l Aj&&(Nat.blt dst Aj&&!Nat.beq dst l) with
    |true=>fI T ((Kb st l i dst e te tid rows kp).put (some tx) (.at (.own dst 0 (rows.getD i []).length))) dst t x y K
    |false=>False
   |_=>False
  |_=>fI T st dst t x y K
 |_=>fI T st dst t x y K
def IL (st:St) (dst:Nat) (t:TypeId) (l c:AV) (K:AV->St->Prop):Prop:=
 match l,c with
 | .at (.data _ (.int _) n), .at (.data _ (.int _) m)=>Dz (T.elem t) λte=>Dz (T.ty te) λe=>match aq e&&Nat.blt dst Aj with
  |true=>(0<=n/\n<Bh+1)/\n=m/\K (.at (.own dst 0 (List.replicate n.toNat e.zero).length)) (st.new dst (.arr (T.og||e.flat) (T.tU&&e.tree) e te (List.replicate n.toNat e.zero)))
  |false=>False
 |_,_=>False
def yo (st:St) (dst:Nat) (t:TypeId) (l c:AV) (K:AV->St->Prop):Prop:=
 match Xs T t with
 |none=>IL T st dst t l c K
 |some p=>match l,c with
  | .at (.data _ (.int _) n), .at (.data _ (.int _) m)=>match Nat.blt dst Aj with
   |true=>(0<=n/\n<Bh+1)/\n=m/\K (.at (.own dst 0 (List.replicate n.toNat ([]:List p.2.den)).length)) (Ku st dst dst (.Ak p.2 p.1 (List.replicate n.toNat []) none none))
   |false=>False
  |_,_=>False
def Yz (st:St) (dst:Nat) (t:TypeId) (len:Nat) (parts:Array (Nat×Operand)) (K:AV->St->Prop):Prop:=
 match Xs T t with
 |none=>Dz (He T st dst t len parts) λr=>K r.1 r.2
 |some p=>match parts.toList with
  | [(0,x)]=>match st.ev x with
   | .at (.own m off ln)=>match st.at m with
    |some (.arr _ _ e' _ xs)=>if h:e'=p.2/\(Nat.beq len 1&&(Nat.blt dst Aj&&Nat.blt m Aj))=true then off=0/\ln=xs.length/\K (.at (.own dst 0 1)) (Ku st dst m (.Ak p.2 p.1 [h.1▸xs] none none)) else False
    |_=>False
   |_=>False
  |_=>False
def lK (st:St) (dst:Nat) (t:TypeId) (x y:Operand) (K:AV->St->Prop):Prop:=
 match Xs T t with
 |none=>lI T st dst t x y K
 |some p=>match st.ev x,st.ev y with
  | .at (.own l off len), .at (.own m IT mF)=>match st.at l,st.at m with
   |some (.Ak e1 te1 A none _),some (.Ak e2 pz B none _)=>
    if h:(e1=p.2/\e2=p.2)/\(decide (te1=p.1)&&decide (pz=p.1)&&(Nat.blt l Aj&&(Nat.blt m Aj&&!Nat.beq m l)))=true then
     (off=0/\len=A.length)/\(IT=0/\mF=B.length)/\0<B.length/\A.length+B.length<=Bh/\
      K (.at (.own l 0 (List.length ((h.1.1▸A:List (List p.2.den))++(h.1.2▸B:List (List p.2.den)))))) (Ku st l m (.Ak p.2 p.1 ((h.1.1▸A:List (List p.2.den))++(h.1.2▸B:List (List p.2.den))) none none))
    else False
   |_,_=>False
  |_,_=>False
def ak (st:St) (io:Bool) (k:Nat):(c:CK)->AC->(c.den->List (Nat×Loc)->Prop)->Prop
 | .Fm τ, .own l off len,K=>Dz (Bk st τ (.own l off len)) λp=>K p.2 [(Bu false k, .view l)]
 | .Fm τ, .clo g Bw,K=>match Vi st (Bw.map (·.1))&&!τ.Ac with
  |true=>Dz (Fk st τ (.clo g Bw)) λp=>K p.2 (views k (Bw.map (·.1)))
  |false=>False
 | .Fm τ, .Dx l i,K=>match Vi st [l]&&!τ.Ac with
  |true=>Dz (Fk st τ (.Dx l i)) λp=>K p.2 (views k [l])
  |false=>False
 | .Fm τ, .sub l i c,K=>Dz (Bk st τ (.sub l i c)) λp=>K p.2 [(Bu false k, .view l)]
 | .Fm τ,a,K=>match τ.flat||a.settled with
  |true=>Dz (Bk st τ a) λp=>K p.2 []
  |false=>False
 | .row e te, .own l off len,K=>match st.at l with
  |some (.arr _ _ e' Ky xs)=>if h:e'=e/\Ky=te then off=0/\len=xs.length/\K (h.1▸xs:List e.den) [(Bu io k, .row l)] else False
  |_=>False
 | .row e _, .sub l i c,K=>match st.at l with
  |some (.Dc e' _ xs)=>if h:e'= .slice e/\e.flat=true/\io=true/\c=0 then ∃y,xs[i]?=some y/\K (h.1▸y:(Ty.slice e).den) [(Bu io k, .sub l i c)] else False
  |_=>False
 | .row _ _, .Hj,K=>K [] []
 | .Ds e te, .own l off len,K=>match st.at l with
  |some (.Dc e' Ky xs)=>if h:e'=e/\Ky=te then off=0/\len=xs.length/\K (h.1▸xs:List e.den) [(Bu io k, .row l)] else False
  |_=>False
 | .Ds e _, .sub l i c,K=>match st.at l with
  |some (.Dc e' _ xs)=>if h:e'= .slice e/\io=true/\c=0 then ∃y,xs[i]?=some y/\K (h.1▸y:(Ty.slice e).den) [(Bu io k, .sub l i c)] else False
  |_=>False
 | .Ds _ _, .Hj,K=>K [] []
 | .part e te, .own l off len,K=>match st.at l with
  |some (.arr _ _ e' Ky xs)=>if h:e'=e/\Ky=te/\e.flat=true/\io=true then K ((h.1▸xs:List e.den),off,len) [(Bu io k, .row l)] else False
  |_=>False
 | .Ak e te _, .own l off len,K=>match st.at l with
  |some (.Ak e' Ky rows none _)=>if h:e'=e/\Ky=te/\io=false then off=0/\len=rows.length/\K (h.1▸rows:List (List e.den)) [(Bu io k, .row l)] else False
  |_=>False
 |_,_,_=>False
def tv (st:St):(k:Nat)->(cs:List (Bool×CK))->List AC->(Ins.den cs->List (Nat×Loc)->Prop)->Prop
 |_,[],[],K=>K () []
 |k,p::r,a::as,K=>ak st p.1 k p.2 a λx t1=>tv st (k+1) r as λy t2=>K (x,y) (t1++t2)
 |_,_,_,_=>False
def jV (st:St):(c:CK)->c.den->AC->(St->Prop)->Prop
 | .row e _,ys, .own l _ len,K=>match st.at l with
  |some (.arr fr tr e' te xs)=>if h:e=e' then (List.length ys=len/\xs.length=len)/\K (st.Fz l (.arr (fr&&e'.flat) (tr&&e'.flat) e' te (h▸ys))) else False
  |_=>False
 | .Ds e _,ys, .own l _ len,K=>match st.at l with
  |some (.Dc e' te xs)=>if h:e=e' then (List.length ys=len/\xs.length=len)/\K (st.Fz l (.Dc e' te (h▸ys))) else False
  |_=>False
 | .row e _,ys, .sub l i _,K=>match st.at l with
  |some (.Dc e' te xs)=>if h: .slice e=e' then ∃y,xs[i]?=some y/\List.length ys=List.length (h▸y:(Ty.slice e).den)/\K (st.Fz l (.Dc e' te (xs.set i (h▸(ys:(Ty.slice e).den))))) else False
  |_=>False
 | .Ds e _,ys, .sub l i _,K=>match st.at l with
  |some (.Dc e' te xs)=>if h: .slice e=e' then ∃y,xs[i]?=some y/\List.length ys=List.length (h▸y:(Ty.slice e).den)/\K (st.Fz l (.Dc e' te (xs.set i (h▸(ys:(Ty.slice e).den))))) else False
  |_=>False
 |_,_, .Hj,K=>K st
 |_,_,_,_=>False
def JG (st:St) (e:Ty) (ys:List e.den):AC->(St->Prop)->Prop
 | .own l _ _,K=>match st.at l with
  |some (.arr fr tr e' te xs)=>if h:e=e' then List.length ys=xs.length/\K (st.Fz l (.arr fr tr e' te (h▸ys))) else False
  |_=>False
 |_,_=>False
def cf:(cs:List (Bool×CK))->IOs.den cs->List AC->St->(St->Prop)->Prop
 | [],_,_,st,K=>K st
 |(true, .Fm _)::r,x,_::as,st,K=>cf r x as st K
 |(true, .row e te)::r,x,a::as,st,K=>jV st (.row e te) x.1 a λst'=>cf r x.2 as st' K
 |(true, .Ds e te)::r,x,a::as,st,K=>jV st (.Ds e te) x.1 a λst'=>cf r x.2 as st' K
 |(true, .part e _)::r,x,a::as,st,K=>JG st e x.1 a λst'=>cf r x.2 as st' K
 |(true, .Ak _ _ _)::r,x,_::as,st,K=>cf r x as st K
 |(false,_)::r,x,_::as,st,K=>cf r x as st K
 |_,_,_,_,_=>False
def nW (H:List (Nat×OB)) (ls:List Nat) (n:Nat):List AV->Prop->Prop
 | [],K=>K
 | .at (.sub l i _)::r,K=>match ls.contains l with
  |true=>(i<n/\i<lg H l)/\nW H ls n r K
  |false=>nW H ls n r K
 |_::r,K=>nW H ls n r K
def xu (st:St) (dst:Option Nat) (s:MSpec) (args:List AV) (K:AV->St->Prop):Prop:=
 Dz (AS st s args) λq=>Dz (ungroup s.Gv q.2.2) λik=>tv st 0 s.ins (q.2.1++ik) λx tks=>
  match Sm (tks.map λt=>t.2.Pq)&&se (Lr s tks (dst.getD 0)) (s.outs.length+(fk s (dst.getD 0)).length)&&Nat.blt s.outs.length 1000&&Nat.blt s.ins.length 1000&&(Ou s.ins q.2.1&&q.1.all λl=>!((tks.map λt=>t.2.Pq)++Lr s tks (dst.getD 0)).contains l) with
  |true=> ∃p,s.fn x=some p/\cf s.ins p.2 (q.2.1++ik) st λst1=>Dz (NG s (dst.getD 0) ((Va (Bv (Lr s tks (dst.getD 0))) 0 s.outs p.1).drop s.Sw)) λv=>
    nW (eF st st1 (dst.getD 0) s q.1 tks p.1).heap (Uv st.heap (Lr s tks (dst.getD 0)) tks s.keeps) (s.Cs x) st.tmps
     (K v (fa st (eF st st1 (dst.getD 0) s q.1 tks p.1) (Uv st.heap (Lr s tks (dst.getD 0)) tks s.keeps) (s.Cs x)))
  |false=>False
def QB (w:WS) (o:Oper) (K:AV->WS->Prop):Prop:=
 match o.op with
 | .store t p x=>tf T w.st t (w.st.ev p) (w.st.ev x) λs=>K .undef (w.to s)
 | .makeSlice t l c=>Dz o.dst λd=>yo T w.st d t (w.st.ev l) (w.st.ev c) λv s=>K v (w.to s)
 | .call {callee:= .builtin .append,args,argTypes} =>match o.dst,args.toList,argTypes.toList with
  |some d,[x,y],[t,t']=>if t=t' then lK T w.st d t x y λv s=>K v (w.to s) else False
  |_,_,_=>False
 | .assign _=>Dz (evalOp T Γ w.st o) λr=>K r.1 (w.to r.2)
 | .alloc _=>Dz (evalOp T Γ w.st o) λr=>K r.1 (w.to r.2)
 | .box _ _=>Dz (evalOp T Γ w.st o) λr=>K r.1 (w.to r.2)
 | .buildSlice t len parts=>Dz o.dst λd=>Yz T w.st d t len parts λv s=>K v (w.to s)
 | .build _ _=>Dz (evalOp T Γ w.st o) λr=>K r.1 (w.to r.2)
 | .makeMap _ _=>Dz (evalOp T Γ w.st o) λr=>K r.1 (w.to r.2)
 | .mapUpdate _ _ _ _=>Dz (evalOp T Γ w.st o) λr=>K r.1 (w.to r.2)
 | .insert _ _ _ _=>Dz (evalOp T Γ w.st o) λr=>K r.1 (w.to r.2)
 | .call {callee:= .builtin .copy, .. } =>Dz (evalOp T Γ w.st o) λr=>K r.1 (w.to r.2)
 | .call {callee:= .builtin .clear, .. } =>Dz (evalOp T Γ w.st o) λr=>K r.1 (w.to r.2)
 | .call {callee:= .value (.func f),args, .. } =>match Γ f with
  |some (.m s)=>xu w.st o.dst s (args.toList.map w.st.ev) λv s'=>K v (w.to s')
  |some (.q s)=>match Zr s (args.toList.map w.st.ev) with
   |true=>Dz (Jh args.toList w.st) λst1=>qW T Γ (w.to st1) o K
   |false=>qW T Γ w o K
  |_=>qW T Γ w o K
 |_=>qW T Γ w o K
def AV.IC:AV->Bool
 | .at .skip=>true
 |_=>false
def bW (w:WS) (o:Oper) (K:AV->WS->Prop):Prop:=
 match o.op with
 | .buildSlice t len parts=>Dz (Ul T w.st t len parts) λv=>K v w
 | .build t parts=>Dz (Qa T w.st t parts) λv=>K v w
 |_=>qW T Γ w o K
def eg (ops:Array Oper) (w:WS) (o:Oper) (run:(AV->WS->Prop)->WS->Prop) (K:WS->Prop):Prop:=
 match o.guard with
 |none=>run (λv w'=>K (w'.p8 o v)) w
 |some (j,want)=>Dz ((ops[j]?).bind (·.dst)) λt=>match (w.st.get t).IC with
  |true=>K (w.put o.dst (.at .skip))
  |false=>brT w t λb w'=>match b,want with
   |true,true=>run (λv oa=>K (oa.p8 o v)) w'
   |false,false=>run (λv oa=>K (oa.p8 o v)) w'
   |_,_=>K (w'.put o.dst (.at .skip))
def SX (ops:Array Oper):List Oper->WS->(WS->Prop)->Prop
 | [],w,K=>K w
 |o::r,w,K=>eg ops w o (λk w'=>QB T Γ w' o k) λw'=>SX ops r w' K
def HS (ops:Array Oper):List Nat->WS->(WS->Prop)->Prop
 | [],w,K=>K w
 |i::r,w,K=>Dz ops[i]? λo=>eg ops w o (λk w'=>QB T Γ w' o k) λw'=>HS ops r w' K
def q6 (ops:Array Oper):List Nat->WS->(WS->Prop)->Prop
 | [],w,K=>K w
 |i::r,w,K=>Dz ops[i]? λo=>eg ops w o (λk w'=>bW T Γ w' o k) λw'=>q6 ops r w' K
def LK:List Nat->(Nat->Prop)->Prop
 | [],_=>True
 | [i],P=>P i
 |i::j::r,P=>P i/\LK (j::r) P
def BJ (ops:Array Oper):Nat->Array Bool->WS->(WS->Prop)->Prop
 |0,Ab,w,K=>match Region.ready .any ops Ab with
  | []=>K w
  |_::_=>False
 |f+1,Ab,w,K=>match Region.ready .any ops Ab with
  | []=>False
  |i::r=>LK (i::r) λk=>Dz ops[k]? λo=>eg ops w o (λkk w'=>QB T Γ w' o kk) λw'=>BJ ops f (Ab.setIfInBounds k true) w' K
def UH:AC->Type->Type
 | .data _ τ _,R=>τ.den×R
 | .sub _ _ _,R=>Nat×R
 | .Fy _ _,R=>Nat×R
 | .Fv _ _ _,R=>Nat×Nat×R
 |_,R=>R
def xk:List AC->Type->Type
 | [],R=>R
 |c::r,R=>UH c (xk r R)
def UI:AV->Type->Type
 | .at a,R=>UH a R
 | .agg cs,R=>xk cs R
 | .Uf _ τ _,R=>τ.den×R
 | .Ir _,R=>R
def YM:OB->Type->Type
 | .arr _ _ e _ _,R=>List e.den×R
 | .Dc e _ _,R=>List e.den×R
 | .var _ vs,R=>xk vs R
 | .Ak e _ _ _ none,R=>List (List e.den)×R
 | .Ak e _ _ _ (some _),R=>List (List e.den)×(Nat×R)
 | .Oh v _,R=>(ByteArray->Option v.den)×R
def km:List AV->Type->Type
 | [],R=>R
 |v::r,R=>UI v (km r R)
def q7:List (Nat×OB)->Type->Type
 | [],R=>R
 |p::r,R=>YM p.2 (q7 r R)
def ZF (s:St):Type:=km s.tmps (q7 s.heap Unit)
def zI:(c:AC)-> {R:Type} ->R->UH c R
 | .data _ _ x,_,r=>(x,r)
 | .undef,_,r=>r
 | .skip,_,r=>r
 | .Hj,_,r=>r
 | .Ql,_,r=>r
 | .own _ _ _,_,r=>r
 | .Dx _ _,_,r=>r
 | .Fy _ i,_,r=>(i,r)
 | .clo _ _,_,r=>r
 | .Gf _,_,r=>r
 | .sub _ i _,_,r=>(i,r)
 | .Fv _ i j,_,r=>(i,j,r)
def lF:(l:List AC)-> {R:Type} ->R->xk l R
 | [],_,r=>r
 |c::l,_,r=>zI c (lF l r)
def OE:(c:AV)-> {R:Type} ->R->UI c R
 | .at a,_,r=>zI a r
 | .agg cs,_,r=>lF cs r
 | .Uf _ _ x,_,r=>(x,r)
 | .Ir _,_,r=>r
def QA:(b:OB)-> {R:Type} ->R->YM b R
 | .arr _ _ _ _ xs,_,r=>(xs,r)
 | .Dc _ _ xs,_,r=>(xs,r)
 | .var _ vs,_,r=>lF vs r
 | .Ak _ _ rows _ none,_,r=>(rows,r)
 | .Ak _ _ rows _ (some p),_,r=>(rows,p.2,r)
 | .Oh _ m,_,r=>(m,r)
def lv:(l:List AV)-> {R:Type} ->R->km l R
 | [],_,r=>r
 |c::l,_,r=>OE c (lv l r)
def lh:(l:List (Nat×OB))-> {R:Type} ->R->q7 l R
 | [],_,r=>r
 |p::l,_,r=>QA p.2 (lh l r)
def AX (s:St):ZF s:=lv s.tmps (lh s.heap ())
def iu:(c d:AC)-> {R:Type} ->R->Option (UH c R)
 | .data fr τ _, .data Oo Iv x,_,r=>if h:Iv=τ/\Oo=fr then some (h.1▸x,r) else none
 | .undef, .undef,_,r=>some r
 | .skip, .skip,_,r=>some r
 | .Hj, .Hj,_,r=>some r
 | .Ql, .Ql,_,r=>some r
 | .own l _ _, .own l' _ _,_,r=>if l=l' then some r else none
 | .Dx l i, .Dx l' i',_,r=>if l=l'/\i=i' then some r else none
 | .Fy l _, .Fy l' i',_,r=>if l=l' then some (i',r) else none
 | .clo f c, .clo f' c',_,r=>if f=f'/\c=c' then some r else none
 | .Gf l, .Gf l',_,r=>if l=l' then some r else none
 | .sub l _ c, .sub l' i' c',_,r=>if l=l'/\c=c' then some (i',r) else none
 | .Fv l _ _, .Fv l' i' j',_,r=>if l=l' then some (i',j',r) else none
 |_,_,_,_=>none
def Lq:(l m:List AC)-> {R:Type} ->R->Option (xk l R)
 | [],[],_,r=>some r
 |c::l,d::m,_,r=>(Lq l m r).bind λr'=>iu c d r'
 |_,_,_,_=>none
def eI:(c d:AV)-> {R:Type} ->R->Option (UI c R)
 | .at a, .at b,_,r=>iu a b r
 | .agg cs, .agg ds,_,r=>Lq cs ds r
 | .Uf fr τ _, .Uf Oo Iv x,_,r=>if h:Iv=τ/\Oo=fr then some (h.1▸x,r) else none
 |_,_,_,_=>none
def Mj:(b d:OB)-> {R:Type} ->R->Option (YM b R)
 | .arr fr tr e tid _, .arr Oo KG e' Np xs,_,r=>if h:e'=e/\Oo=fr/\KG=tr/\Np=tid then some (h.1▸xs,r) else none
 | .Dc e tid _, .Dc e' Np xs,_,r=>if h:e'=e/\Np=tid then some (h.1▸xs,r) else none
 | .Oh v _, .Oh v' m,_,r=>if h:v'=v then some (h▸m,r) else none
 | .var t vs, .var t' us,_,r=>if t'=t then Lq vs us r else none
 | .Ak e te _ out none, .Ak e' Ky rows aZ none,_,r=>if h:e'=e/\Ky=te/\aZ=out then some (h.1▸rows,r) else none
 | .Ak e te _ out (some p), .Ak e' Ky rows aZ (some p'),_,r=>if h:e'=e/\Ky=te/\aZ=out/\p'.1=p.1 then some (h.1▸rows,p'.2,r) else none
 |_,_,_,_=>none
def Ji:(l m:List AV)-> {R:Type} ->R->Option (km l R)
 | [],[],_,r=>some r
 |c::l,d::m,_,r=>(Ji l m r).bind λr'=>eI c d r'
 |_,_,_,_=>none
def Ke:(l m:List (Nat×OB))-> {R:Type} ->R->Option (q7 l R)
 | [],[],_,r=>some r
 |p::l,q::m,_,r=>if q.1=p.1 then (Ke l m r).bind λr'=>Mj p.2 q.2 r' else none
 |_,_,_,_=>none
def cC (s t:St):Option (ZF s):=(Ke s.heap t.heap ()).bind λr=>Ji s.tmps t.tmps r
def eE:(c:AC)-> {R:Type} ->UH c R->AC×R
 | .data fr τ _,_,v=>(.data fr τ v.1,v.2)
 | .undef,_,r=>(.undef,r)
 | .skip,_,r=>(.skip,r)
 | .Hj,_,r=>(.Hj,r)
 | .Ql,_,r=>(.Ql,r)
 | .own l off len,_,r=>(.own l off len,r)
 | .Dx l i,_,r=>(.Dx l i,r)
 | .Fy l _,_,v=>(.Fy l v.1,v.2)
 | .clo f c,_,r=>(.clo f c,r)
 | .Gf l,_,r=>(.Gf l,r)
 | .sub l _ c,_,v=>(.sub l v.1 c,v.2)
 | .Fv l _ _,_,v=>(.Fv l v.1 v.2.1,v.2.2)
def Sz:(l:List AC)-> {R:Type} ->xk l R->List AC×R
 | [],_,r=>([],r)
 |c::l,_,v=>((eE c v).1::(Sz l (eE c v).2).1,(Sz l (eE c v).2).2)
def lN:(c:AV)-> {R:Type} ->UI c R->AV×R
 | .at a,_,v=>(.at (eE a v).1,(eE a v).2)
 | .agg cs,_,v=>(.agg (Sz cs v).1,(Sz cs v).2)
 | .Uf fr τ _,_,v=>(.Uf fr τ v.1,v.2)
 | .Ir l,_,r=>(.Ir l,r)
def mQ:(b:OB)-> {R:Type} ->YM b R->OB×R
 | .arr fr tr e tid _,_,v=>(.arr fr tr e tid v.1,v.2)
 | .Dc e tid _,_,v=>(.Dc e tid v.1,v.2)
 | .Oh w _,_,v=>(.Oh w v.1,v.2)
 | .var t vs,_,v=>(.var t (Sz vs v).1,(Sz vs v).2)
 | .Ak e te _ out none,_,v=>(.Ak e te v.1 out none,v.2)
 | .Ak e te _ out (some p),_,v=>(.Ak e te v.1 out (some (p.1,v.2.1)),v.2.2)
def Pn:(l:List AV)-> {R:Type} ->km l R->List AV×R
 | [],_,r=>([],r)
 |c::l,_,v=>((lN c v).1::(Pn l (lN c v).2).1,(Pn l (lN c v).2).2)
def Xv:(l:List (Nat×OB))-> {R:Type} ->q7 l R->List (Nat×OB)×R
 | [],_,r=>([],r)
 |p::l,_,v=>((p.1,(mQ p.2 v).1)::(Xv l (mQ p.2 v).2).1,(Xv l (mQ p.2 v).2).2)
def cB (s:St) (v:ZF s):St:= {tmps:=(Pn s.tmps v).1,heap:=(Xv s.heap (Pn s.tmps v).2).1}
def lenOf (H:List (Nat×OB)) (l:Nat):Nat:=match Ad H l with|some (.arr _ _ _ _ xs)=>xs.length|some (.Dc _ _ xs)=>xs.length|some (.Ak _ _ rows _ _)=>rows.length|_=>0
def Si (ps:List Nat):List AV->List (Nat×Nat×Nat)
 | []=> []
 | .at (.own l off len)::r=>if ps.contains l then (l,off,len)::Si ps r else Si ps r
 |_::r=>Si ps r
def SV:List (Nat×Nat×Nat)->Nat->Nat
 | [],_=>0
 |(k,o,_)::r,l=>if k=l then o else SV r l
def CJ:List (Nat×Nat×Nat)->List (Nat×OB)->Nat->Nat
 | [],H,l=>lenOf H l
 |(k,_,n)::r,H,l=>if k=l then n else CJ r H l
def ao (B:List (Nat×Nat×Nat)) (H:List (Nat×OB)):AC->AC
 | .own l _ _=> .own l (SV B l) (CJ B H l)
 |c=>c
def St.whole (B:List (Nat×Nat×Nat)) (s:St):St:=s.Ge (ao B s.heap)
def rf (B:List (Nat×Nat×Nat)) (H:List (Nat×OB)) (c:AC) (K:Prop):Prop:=match c with
 | .own l off len=>off=SV B l/\len=CJ B H l/\K
 |_=>K
def Xd (B:List (Nat×Nat×Nat)) (H:List (Nat×OB)):List AC->Prop->Prop
 | [],K=>K
 |c::r,K=>rf B H c (Xd B H r K)
def zK (B:List (Nat×Nat×Nat)) (H:List (Nat×OB)) (c:AV) (K:Prop):Prop:=match c with
 | .at a=>rf B H a K
 | .agg cs=>Xd B H cs K
 | .Uf _ _ _=>K
 | .Ir _=>False
def Ue (B:List (Nat×Nat×Nat)) (H:List (Nat×OB)):List AV->Prop->Prop
 | [],K=>K
 |c::r,K=>zK B H c (Ue B H r K)
def cX (B:List (Nat×Nat×Nat)) (H:List (Nat×OB)):List (Nat×OB)->Prop->Prop
 | [],K=>K
 |p::r,K=>match p.2 with
  | .var _ vs=>Xd B H vs (cX B H r K)
  |_=>cX B H r K
def tb (B:List (Nat×Nat×Nat)) (s:St) (K:Prop):Prop:=Ue B s.heap s.tmps (cX B s.heap s.heap K)
def AV.Qk:AV->Bool
 | .at (.data _ _ _)=>true
 |_=>false
def Hf (p:Nat->Bool):Nat->List AV->List Bool
 |_,[]=> []
 |i,v::r=>(v.Qk&&p i)::Hf p (i+1) r
def stays (live:Nat->List Nat) (c:Code) (t:Nat):Bool:=!(writes c).contains t&&Uu live c t
def Nu:List Bool->List AV->List AV
 |true::f,_::r=> .undef::Nu f r
 |false::f,v::r=>v::Nu f r
 |_,l=>l
def Pc:List Bool->List AV->List AV->List AV
 |true::f,a::s,_::r=>a::Pc f s r
 |false::f,_::s,v::r=>v::Pc f s r
 |_,_,l=>l
def St.mask (fx:List Bool) (s:St):St:= {tmps:=Nu fx s.tmps,heap:=s.heap}
def St.oT (fx:List Bool) (s0 s:St):St:= {tmps:=Pc fx s0.tmps s.tmps,heap:=s.heap}
def lb (c:AC) (k:AC->Prop):Prop:=match c with
 | .undef=>k .undef
 | .skip=>k .skip
 | .Hj=>k .Hj
 | .Ql=>k .Ql
 | .data fr τ x=>match fr with
  |true=>k (.data true τ x)
  |false=>k (.data false τ x)
 | .own l off len=>k (.own l off len)
 | .Dx l i=>k (.Dx l i)
 | .Fy l i=>k (.Fy l i)
 | .clo f c=>k (.clo f c)
 | .Gf l=>k (.Gf l)
 | .sub l i c=>k (.sub l i c)
 | .Fv l i c=>k (.Fv l i c)
def bJ:List AC->(List AC->Prop)->Prop
 | [],k=>k []
 |c::r,k=>lb c λc'=>bJ r λr'=>k (c'::r')
def rM (c:AV) (k:AV->Prop):Prop:=match c with
 | .at a=>lb a λa'=>k (.at a')
 | .agg cs=>bJ cs λbB=>k (.agg bB)
 | .Uf fr τ x=>k (.Uf fr τ x)
 | .Ir l=>k (.Ir l)
def bK:List AV->(List AV->Prop)->Prop
 | [],k=>k []
 |c::r,k=>rM c λc'=>bK r λr'=>k (c'::r')
def rO (b:OB) (k:OB->Prop):Prop:=match b with
 | .arr fr tr e tid xs=>match fr,tr with
  |true,true=>k (.arr true true e tid xs)
  |true,false=>k (.arr true false e tid xs)
  |false,true=>k (.arr false true e tid xs)
  |false,false=>k (.arr false false e tid xs)
 | .Dc e tid xs=>k (.Dc e tid xs)
 | .var t vs=>bJ vs λtW=>k (.var t tW)
 | .Ak e te rows out kp=>match out,kp with
  |none,none=>k (.Ak e te rows none none)
  |none,some (l,n)=>k (.Ak e te rows none (some (l,n)))
  |some i,none=>k (.Ak e te rows (some i) none)
  |some i,some (l,n)=>k (.Ak e te rows (some i) (some (l,n)))
 | .Oh v m=>k (.Oh v m)
def m8:List (Nat×OB)->(List (Nat×OB)->Prop)->Prop
 | [],k=>k []
 |(l,b)::r,k=>rO b λb'=>m8 r λr'=>k ((l,b')::r')
def iH (w:WS) (k:WS->Prop):Prop:=bK w.st.tmps λt=>m8 w.st.heap λh=>k {kn:=w.kn,st:= {tmps:=t,heap:=h} }
def iG (s:St) (k:St->Prop):Prop:=bK s.tmps λt=>m8 s.heap λh=>k {tmps:=t,heap:=h}
def cU:List Bool->(List Bool->Prop)->Prop
 | [],k=>k []
 |true::r,k=>cU r λr'=>k (true::r')
 |false::r,k=>cU r λr'=>k (false::r')
theorem jD {c:AC} {k:AC->Prop} :lb c k↔k c:=by
 cases c<;>simp only [lb]
 split<;>rfl
theorem Zg: ∀ {l:List AC} {k:List AC->Prop},bJ l k↔k l
 | [],k=>Iff.rfl
 |c::r,k=>by simp only [bJ];rw [jD,Zg]
theorem uJ {c:AV} {k:AV->Prop} :rM c k↔k c:=by
 cases c<;>simp only [rM]
 ·exact jD
 ·exact Zg
theorem Zh: ∀ {l:List AV} {k:List AV->Prop},bK l k↔k l
 | [],k=>Iff.rfl
 |c::r,k=>by simp only [bK];rw [uJ,Zh]
theorem uK {b:OB} {k:OB->Prop} :rO b k↔k b:=by
 cases b<;>simp only [rO]
 ·split<;>rfl
 ·exact Zg
 ·split<;>rfl
theorem eR: ∀ {l:List (Nat×OB)} {k:List (Nat×OB)->Prop},m8 l k↔k l
 | [],k=>Iff.rfl
 |(l,b)::r,k=>by simp only [m8];rw [uK,eR]
theorem BS {s:St} {k:St->Prop} :iG s k=k s:=by
 unfold iG
 exact propext (by rw [Zh,eR])
theorem eQ: ∀ {l:List Bool} {k:List Bool->Prop},cU l k=k l
 | [],k=>rfl
 |true::r,k=>by simp only [cU];rw [eQ]
 |false::r,k=>by simp only [cU];rw [eQ]
theorem Zi {w:WS} {k:WS->Prop} :iH w k↔k w:=by
 unfold iH
 rw [Zh,eR]
def Uh:AC->List (Nat×Nat)
 | .own _ off len=> [(off,len)]
 |_=> []
def Uj:AV->List (Nat×Nat)
 | .at a=>Uh a
 | .agg cs=>cs.flatMap Uh
 |_=> []
def fh:OB->List (Nat×Nat)
 | .var _ vs=>vs.flatMap Uh
 |_=> []
def zh (s:St):List (Nat×Nat):=s.tmps.flatMap Uj++s.heap.flatMap λp=>fh p.2
def eqW (s0 s:St):Prop:=zh s=zh s0/\Dz (cC s0 s) λv=>v=AX s0
def iF (ops:Array Oper):Nat->Array Bool->WS->(WS->Prop)->Prop
 |0,Ab,w,K=>match Region.ready .any ops Ab with
  | []=>K w
  |_::_=>False
 |f+1,Ab,w,K=>match Region.ready .any ops Ab with
  | []=>False
  |k::_=>Dz ops[k]? λo=>eg ops w o (λkk w'=>QB T Γ w' o kk) λw'=>iF ops f (Ab.setIfInBounds k true) w' K
def ua (P:List (Nat×Nat×AV×OB)) (ops:Array Oper):Nat->Array Bool->WS->(WS->Prop)->Prop
 |0,Ab,w,K=>match Region.ready .any ops Ab with
  | []=>K w
  |_::_=>False
 |f+1,Ab,w,K=>match Region.ready .any ops Ab with
  | []=>False
  |i::r=>LK (i::r) λk=>Dz ops[k]? λo=>match yw P Γ ops w.st o k with
   |true=>eg ops w o (λkk w'=>QB T Γ w' o kk) λw'=>ua P ops f (Ab.setIfInBounds k true) w' K
   |false=>False
def rq (P:List (Nat×Nat×AV×OB)) (n:Nat) (L0:Array Bool) (ops:Array Oper) (w:WS) (K:WS->Prop):Prop:=
 match (Sm (P.map (·.1))&&Sm (P.map (·.2.1)))&&((P.all λa=>iW a.2.1 w.st)&&(Nat.ble P.length n&&Nat.ble (n-P.length) 10)) with
 |true=>HS T Γ ops (P.map (·.1)) w λw1=>iH w1 λw1=>iF T Γ ops (n-P.length) (Eg (P.map (·.1)) L0) w1 λw0=>iH w0 λw0=>K w0/\ua T Γ P ops (n-P.length) (Eg (P.map (·.1)) L0) w1 λw2=>eqW w0.st w2.st
 |false=>False
def sK (ops:Array Oper) (draw:Bool) (w:WS) (K:WS->Prop):Prop:=
 match draw with
 |true=>match dg false Γ ops with
  |true=>q6 T Γ ops (cW false Γ ops) w λw'=>HS T Γ ops (Fc false Γ ops) w' K
  |false=>match dg true Γ ops with
   |true=>q6 T Γ ops (cW true Γ ops) w λw'=>HS T Γ ops (Fc true Γ ops) w' K
   |false=>match Region.noSelect ops&&Nat.ble (ops.size-(Jw ops).length) 8 with
    |true=>q6 T Γ ops (Jw ops) w λw'=>match cT false ops with
     |true=>BJ T Γ ops (ops.size-(Jw ops).length) (Eg (Jw ops) (Array.replicate ops.size false)) w' K
     |false=>iF T Γ ops (ops.size-(Jw ops).length) (Eg (Jw ops) (Array.replicate ops.size false)) w' λw0=>iH w0 λw0=>K w0/\BJ T Γ ops (ops.size-(Jw ops).length) (Eg (Jw ops) (Array.replicate ops.size false)) w' λw1=>eqW w0.st w1.st
    |false=>match Region.noSelect ops with
     |true=>q6 T Γ ops (Jw ops) w λw'=>rq T Γ (Rj T ops (Eg (Jw ops) (Array.replicate ops.size false))) (ops.size-(Jw ops).length) (Eg (Jw ops) (Array.replicate ops.size false)) ops w' K
     |false=>False
 |false=>SX T Γ ops ops.toList w K
def Xi (live:Nat->List Nat):Code->WS->(Gp->WS->Prop)->Prop
 | .skip,w,Q=>Q .normal w
 | .label _,w,Q=>Q .normal w
 | .region _ ops draw,w,Q=>sK T (sJ Γ draw) ops draw w λw'=>iH w' (Q .normal)
 | .seq a b,w,Q=>Xi live a w λe w'=>match e with
  | .normal=>Xi live b w' Q
  | .exit id=>Q (.exit id) w'
  | .ret=>Q .ret w'
 | .cond c a b,w,Q=>brO w c λt w'=>match t with
  |true=>Xi live a w' Q
  |false=>Xi live b w' Q
 | .block id c,w,Q=>Xi live c w λe w'=>match e with
  | .normal=>Q .normal w'
  | .exit CF=>if CF=id then Q .normal w' else Q (.exit CF) w'
  | .ret=>Q .ret w'
 | .loop c,w,Q=>
  iG (w.st.clean (live (Cc c))) λs0=>cU (Hf (stays live c) 0 s0.tmps) λfx=>iG (s0.mask fx) λm=>
  tb (Si T.parts s0.tmps) s0 (Bl (V:=ZF m) (λv k=>iG ((St.oT fx s0 (cB m v)).whole (Si T.parts s0.tmps)) λsb=>Xi live c ⟨[],sb⟩ λe w'=>match e with
   | .normal=>iG (w'.st.clean (live (Cc c))) λs1=>tb (Si T.parts s0.tmps) s1 (Dz (cC m (s1.mask fx)) k)
   | .exit id=>Q (.exit id) w'
   | .ret=>Q .ret w') (AX m))
 | .exit id,w,Q=>Q (.exit id) w
 | .ret,w,Q=>Q .ret w
 |_,_,_=>False
def QO (s:Spec) (fn:Func) (P:s.res.den->Prop) (st:St):Prop:=
 Dz (fZ T s fn st) λp=>match p.1||!s.fresh with|true=>P p.2|false=>False
def bU (st:St) (K:Prop):List AC->List (Bool×CK)->Prop
 | .own l off len::as,(true,_)::r=>match st.at l with
  |some (.arr _ _ _ _ xs)=>(off=0/\len=xs.length)/\bU st K as r
  |some (.Dc _ _ xs)=>(off=0/\len=xs.length)/\bU st K as r
  |_=>False
 |_::as,(false,_)::r=>bU st K as r
 |_,_=>K
def iX (st:St):(cs:List CK)->List AC->(CKs.den cs->List Nat->Prop)->Prop
 | [],[],K=>K () []
 | .Ak e te _::r, .own l off len::as,K=>match st.at l with
  |some (.Ak e' Ky rows none _)=>if h:e'=e/\Ky=te then (off=0/\len=rows.length)/\iX st r as λy t=>K ((h.1▸rows:List (List e.den)),y) (l::t) else False
  |_=>False
 |c::r,a::as,K=>Dz (dz st c a) λp=>iX st r as λy t=>K (p.1,y) (p.2++t)
 |_,_,_=>False
def sd (st:St) (n:Nat) (as:List AC):List (Nat×Nat)->Prop->Prop
 | [],K=>K
 |(k,j)::r,K=>match as[j]? with
  |some (.own l _ _)=>match st.at l with
   |some (.Ak _ _ _ _ (some p))=>match Nat.beq p.1 (Bu false k)&&Nat.blt k 1000 with
    |true=>n<=p.2/\sd st n as r K
    |false=>False
   |_=>False
  |_=>False
def nm (s:MSpec) (fn:Func) (x:Ins.den s.ins) (st:St) (cs:List AC) (P:CKs.den s.outs×IOs.den s.ins->Prop):Prop:=
 Dz (Wv T st fn.results.toList) λl=>Dz (yU s st l) λp=>iX st s.outs (cs++p.1) λr ls=>Dz (Jb st 0 s.ins) λo=>
  match Sm (p.2++ls++Ju 0 s.ins)&&Nat.blt s.ins.length 1000&&Nat.blt s.outs.length 1000&&s.IM with
  |true=>sd st (s.Cs x) (cs++p.1) s.keeps (P (r,o))
  |false=>False
def AT (s:MSpec) (fn:Func) (x:Ins.den s.ins) (st:St) (P:CKs.den s.outs×IOs.den s.ins->Prop):Prop:=
 match s.ptr with
 |none=>nm T s fn x st [] P
 |some p=>match st.at Lp with
  |some (.var tid vs)=>match Nat.beq tid p.1&&Nat.beq vs.length p.2 with
   |true=>Dz (Ex 0 s.ins vs) λcs=>bU st (nm T s fn x st cs P) vs s.ins
   |false=>False
  |_=>False
@[irreducible] def fnMW (s:MSpec) (fn:Func) (x:Ins.den s.ins) (P:CKs.den s.outs×IOs.den s.ins->Prop):Prop:=
 match Nat.blt s.ins.length 1000&&sF s with
 |false=>False
 |true=>Dz fn.body λc=>Xi T Γ (sk T.marks fn c) c {kn:= [],st:= {tmps:=Su s (Us 0 s.ins x)++List.replicate (fn.ntmps-(Su s (Us 0 s.ins x)).length) .undef,heap:=jJ s x} } λe w=>match e with
  | .normal=>AT T s fn x w.st P
  | .ret=>AT T s fn x w.st P
  | .exit _=>False
@[irreducible] def fnW (s:Spec) (fn:Func) (x:s.arg.den) (P:s.res.den->Prop):Prop:=
 Dz fn.body λc=>Xi T Γ (sk T.marks fn c) c {kn:= [],st:= {tmps:=Md s.arg x++List.replicate (fn.ntmps-(Md s.arg x).length) .undef,heap:= []} } λe w=>match e with
  | .normal=>QO T s fn P w.st
  | .ret=>QO T s fn P w.st
  | .exit _=>False
end Go.Proofs.Ytjbdmibbbpdnnaa
