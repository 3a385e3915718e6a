/-
  Part 31 of the proof that the statement FnTwoPhase holds.
-/
import Derived.Test.YtkkdpknjohcekaaCFTwoPhase29
namespace Go.Proofs.Ytkkdpknjohcekaa
open Go.RowKit
inductive Br (b:Bool) (A B:Prop):Prop
 |mk (t:b=true->A) (f:b=false->B)
inductive Ea {V:Type} (step:V->(V->Prop)->Prop) (v0:V):Prop
 |mk (I:V->Prop) (μ:V->Nat) (h0:I v0) (h: ∀v,I v->step v (λv'=>I v'/\μ v'<μ v))
structure WS where
 kn:List (Nat×Bool)
 st:St
def o3:List (Nat×Bool)->Nat->Option Bool
 | [],_=>none
 |(k,b)::r,t=>if k=t then some b else o3 r t
def xE:List (Nat×Bool)->Nat->List (Nat×Bool)
 | [],_=> []
 |(k,b)::r,t=>if k=t then xE r t else (k,b)::xE r t
def WS.put (w:WS) (dst:Option Tmp) (v:AV):WS:=
 match dst with
 |some d=> {kn:=xE w.kn d,st:=w.st.put (some d) v}
 |none=>w
def Ww (kn:List (Nat×Bool)):Operand->Option Bool
 | .const (.bool b)=>some b
 | .tmp t=>o3 kn t
 |_=>none
def Hq (kn:List (Nat×Bool)) (o:Oper):Option Bool:=
 match o.op with
 | .assign x=>Ww kn x
 | .move x=>Ww kn x
 | .unOp .not _ x=>(Ww kn x).map (!·)
 | .pick c a b=>match Ww kn c with
  |some true=>Ww kn a
  |some false=>Ww kn b
  |none=>none
 |_=>none
def WS.wv (w:WS) (o:Oper) (v:AV):WS:=
 match o.dst,Hq w.kn o with
 |some d,some b=>match (w.st.put (some d) v).get d with
  | .at (.data _ .bool _)=> {kn:=(d,b)::xE w.kn d,st:=w.st.put (some d) v}
  |_=>w.put (some d) v
 |dst,_=>w.put dst v
def WS.to (w:WS) (st:St):WS:= {kn:=w.kn,st:=st}
def brT (w:WS) (t:Nat) (K:Bool->WS->Prop):Prop:=
 match o3 w.kn t with
 |some b=>K b w
 |none=>match w.st.get t with
  | .at (.data _ .bool b)=>Br b (K true {kn:=(t,true)::w.kn,st:=w.st}) (K false {kn:=(t,false)::w.kn,st:=w.st})
  |_=>False
def brO (w:WS) (c:Operand) (K:Bool->WS->Prop):Prop:=
 match c with
 | .tmp t=>brT w t K
 | .const (.bool b)=>K b w
 |_=>False
def Ic {α:Type} (o:Option α) (K:α->Prop):Prop:=match o with|some x=>K x|none=>False
def Akt (T:Tab) (st:St) (t:TypeId) (x:AV) (l h:Int):Option AV:=
 match x with
 | .at (.data fr (.slice e) xs)=>if (T.elem t).bind T.ty=some e then some (.at (.data fr (.slice e) ((xs.take h.toNat).drop l.toNat))) else none
 | .at (.own k off _)=>match st.at k with
  |some (.arr _ _ e tid _)=>if T.elem t=some tid/\T.ty tid=some e then some (.at (.own k (off+l.toNat) (h.toNat-l.toNat))) else none
  |_=>none
 | .at (.data _ .str s)=>if T.ty t=some .str then some (.at (.data true .str (s.extract l.toNat h.toNat))) else none
 |_=>none
variable (T:Tab) (Γ:Env)
def Aib (op:BinOp) (t:TypeId) (x y:AV) (K:AV->Prop):Prop:=
 match op,x,y with
 | .quo, .at (.data _ (.int k) a), .at (.data _ (.int k') b)=>if k=k' then b≠0/\K (.at (.data true (.int k) (k.wrap (a.tdiv b)))) else False
 | .rem, .at (.data _ (.int k) a), .at (.data _ (.int k') b)=>if k=k' then b≠0/\K (.at (.data true (.int k) (a.tmod b))) else False
 | .shl, .at (.data _ (.int k) a), .at (.data _ (.int _) b)=> ¬b<0/\K (.at (.data true (.int k) (k.wrap (a*2^(min b.toNat k.bits)))))
 | .shr, .at (.data _ (.int k) a), .at (.data _ (.int _) b)=> ¬b<0/\K (.at (.data true (.int k) (a.fdiv (2^(min b.toNat k.bits)))))
 | .add, .at (.data _ .str a), .at (.data _ .str b)=>a.size+b.size<=4294967296/\K (.at (.data true .str (a++b)))
 |op,x,y=>Ic (Ud T op t x y) K
def Aal (st:St) (t:TypeId) (p:AV) (K:AV->Prop):Prop:=
 match p with
 | .at (.Kp l i)=>Ic (T.ty t) λτ=>match st.at l with
  |some (.arr fr _ e _ xs)=>if e=τ then ∃x,xs[i]?=some x/\K (.at (.data (fr||e.flat) e x)) else False
  |some (.Hc e _ xs)=>if e=τ then ∃x,xs[i]?=some x/\K (if e.Ar then .agg (gi l i 0 e x) else .at ((gi l i 0 e x).headD .undef)) else False
  |some (.Bu _ _ _ none _)=>if τ.Ar then False else K (.at (.sub l i 0))
  |_=>False
 | .at (.data fr (.optr Ox) x)=>Ic (T.ty t) λτ=>if Ox=τ then ∃y,x=some y/\K (.at (.data (fr||Ox.flat) Ox y)) else False
 |p=>Ic (Qi T st t p) K
def mf (s:TypeId) (x:AV) (f:Nat) (K:AV->Prop):Prop:=
 match x with
 | .at (.data fr (.optr τ) x)=> ∃y,x=some y/\Ic (Oo T s (.at (.data fr (.ptr τ) y)) f) K
 |x=>Ic (Oo T s x f) K
def xQ (st:St) (x:Operand) (K:AV->Prop) (d:Option AV):Prop:=
 match st.ev x with
 | .at (.data fr (.optr τ) x)=> ∃y,x=some y/\K (.at (.data fr (.ptr τ) y))
 |_=>Ic d K
def OG (st:St) (t:TypeId) (x:AV) (lo hi:Option AV) (K:AV->Prop):Prop:=
 Ic (FT x) λn=>Ic (XG lo 0) λl=>Ic (XG hi n) λh=>(0<=l/\l<=h/\h<=n)/\Ic (Akt T st t x l h) K
def mo (st:St) (t:TypeId) (x i:AV) (K:AV->Prop):Prop:=
 match x,i with
 | .at (.data fr (.slice e) xs), .at (.data _ (.int _) n)=>if (T.elem t).bind T.ty=some e then ∃x,idx xs n=some x/\K (.at (.data fr (.ptr e) x)) else False
 | .at (.own l off len), .at (.data _ (.int _) n)=>match st.at l with
  |some (.arr _ _ e tid _)=>if T.elem t=some tid/\T.ty tid=some e then (0<=n/\n<len)/\K (.at (.Kp l (off+n.toNat))) else False
  |some (.Hc e tid _)=>if T.elem t=some tid/\T.ty tid=some e then (0<=n/\n<len)/\K (.at (.Kp l (off+n.toNat))) else False
  |some (.Bu _ te _ _ _)=>if T.elem t=some te/\(T.ty te).map Ty.size=some 1 then (0<=n/\n<len)/\K (.at (.Kp l (off+n.toNat))) else False
  |_=>False
 | .at (.sub l i _), .at (.data _ (.int _) n)=>match st.at l with
  |some (.Bu e _ rows none _)=>if ((T.elem t).bind T.ty).map Ty.size=some e.size then (0<=n/\n<(rows.getD i []).length)/\K (.at (.Km l i n.toNat)) else False
  |_=>False
 |_,_=>False
def MC (t:TypeId) (x i:AV) (K:AV->Prop):Prop:=
 match x,i with
 | .at (.data _ .str s), .at (.data _ (.int _) n)=>if T.ty t=some .str then 0<=n/\ ∃b,s[n.toNat]?=some b/\K (.at (.data true (.int .u8) b.toNat)) else False
 |_,_=>False
def xc (st:St) (f:FuncId) (args:List AV) (K:AV->Prop):Prop:=
 Ic (match Γ f with|some (.q s)=>some s|_=>none) λs=>match s.fresh||s.res.flat||args.all (·.settled) with
  |true=>Ic (El st s.arg args) λp=> ∃y,s.fn p.2=some y/\K (if s.Ij then .bB (s.fresh||s.res.flat) s.res y else .at (.data (s.fresh||s.res.flat) s.res y))
  |false=>False
def KQ (st:St) (v:AV) (args:List AV) (K:AV->Prop):Prop:=
 match v with
 | .at (.data fr (.clo f τ) x)=>match τ.chain with|true=>(match Nat.blt f 1000000000 with|true=>xc Γ st f (args++bK fr τ x) K|false=>xc Γ st (f-1000000000) (bK fr τ x++args) K)|false=>False
 | .at (.clo f Ew)=>xc Γ st f (args++Ew.map λp=> .at (.Ho p.1 p.2)) K
 |_=>False
def qW (w:WS) (o:Oper) (K:AV->WS->Prop):Prop:=
 match o.op with
 | .pick c a b=>brO w c λt w'=>match t with|true=>K (w'.st.ev a) w'|false=>K (w'.st.ev b) w'
 | .load t a=>Aal T w.st t (w.st.ev a) λv=>K v w
 | .binOp op t x y _=>Aib T op t (w.st.ev x) (w.st.ev y) λv=>K v w
 | .slice t x lo hi mx=>match mx with
  |none=>OG T w.st t (w.st.ev x) (lo.map w.st.ev) (hi.map w.st.ev) λv=>K v w
  |some _=>False
 | .indexAddr t x i=>mo T w.st t (pK (w.st.ev x)) (w.st.ev i) λv=>K v w
 | .index t x i=>MC T t (w.st.ev x) (w.st.ev i) λv=>K v w
 | .call {callee:= .value (.func f),args, .. } =>xc Γ w.st f (args.toList.map w.st.ev) λv=>K v w
 | .call {callee:= .value (.tmp t),args, .. } =>KQ Γ w.st (w.st.get t) (args.toList.map w.st.ev) λv=>K v w
 | .fieldAddr s x f=>mf T s (w.st.ev x) f λv=>K v w
 | .nilCheck x=>xQ w.st x (λv=>K v w) (Ft T Γ w.st o)
 |_=>Ic (Ft T Γ w.st o) λv=>K v w
def OU (st:St) (t:TypeId) (p v:AV) (K:St->Prop):Prop:=
 match p with
 | .at (.Kp l j)=>Ic (T.ty t) λτ=>Ic (settle st v) λq=>match q.2.at l with
  |some (.arr fr tr e tid xs)=>Ic (Ge q.2 τ q.1) λu=>if h:τ=e then j<xs.length/\K (q.2.Kl l (.arr (fr&&u.1) (tr&&(Ts st v&&e.tree)) e tid (xs.set j (h▸u.2)))) else False
  |_=>False
 |p=>Ic (Vl T st t p v) K
def SH (st:St) (t:TypeId) (p v:AV) (K:St->Prop):Prop:=
 match p with
 | .at (.Km l i j)=>Ic (T.ty t) λτ=>Ic (settle st v) λq=>match q.2.at l with
  |some (.Bu e te rows none kp)=>Ic (Ge q.2 τ q.1) λu=>if h:τ=e then K (q.2.Kl l (.Bu e te (rows.set i ((rows.getD i []).set j (h▸u.2))) none kp)) else False
  |_=>False
 | .at (.Kp l j)=>Ic (T.ty t) λτ=>match st.at l,v with
  |some (.Bu e te rows out kp), .at (.own m off len)=>match st.at m with
   |some (.arr _ _ e' _ xs)=>if h:e'=e/\(Nat.blt l Bq&&(!Nat.beq m l&&!τ.Ar))=true then
     off=0/\len=xs.length/\(match out with|none=>True|some i=>i=j)/\K (Ub st l j m e te rows (h.1▸xs) (c7 j kp))
    else False
   |_=>False
  |_,_=>False
 |_=>False
def BO (st:St) (t:TypeId) (p v:AV) (K:St->Prop):Prop:=match QR st p with
 |true=>SH T st t p v K
 |false=>OU T st t p v K
def ng (st:St) (dst:Nat) (t:TypeId) (x y:Operand) (K:AV->St->Prop):Prop:=
 Ic (T.elem t) λte=>Ic (T.ty te) λe=>Ic (settle st (st.ev y)) λq=>Ic (Ge q.2 (.slice e) q.1) λu=>match q.2.ev x with
  | .at .Mj=>match Nat.blt dst Bq with
   |true=>List.length u.2<=Dt/\K (.at (.own dst 0 (List.length u.2))) ((q.2.new dst (.arr (T.tb||e.flat) T.CG e te [])).new dst (.arr ((T.tb||e.flat)&&(u.1||e.flat)) (T.CG&&(e.flat||(Ts st (st.ev y)&&e.tree))) e te u.2))
   |false=>False
  | .at (.own l off len)=>match q.2.at l with
   |some (.arr fr tr e' tid xs)=>if h:e'=e/\tid=te/\Nat.blt l Bq=true then
     off=0/\len=xs.length/\len+List.length u.2<=Dt/\K (.at (.own l 0 (List.length ((h.1▸xs:List e.den)++u.2)))) (q.2.new l (.arr (fr&&(u.1||e.flat)) (tr&&(e.flat||(Ts st (st.ev y)&&e.tree))) e te ((h.1▸xs:List e.den)++u.2)))
    else False
   |_=>False
  |_=>False
def sC (st:St) (dst:Nat) (t:TypeId) (x y:Operand) (K:AV->St->Prop):Prop:=
 match x with
 | .tmp tx=>match st.get tx with
  | .at (.sub l i _)=>Ic (T.elem t) λtid=>match st.at l with
   |some (.Bu e te rows none kp)=>match Nat.blt l Bq&&(Nat.blt dst Bq&&!Nat.beq dst l) with
    |true=>ng T ((Qh st l i dst e te tid rows kp).put (some tx) (.at (.own dst 0 (rows.getD i []).length))) dst t x y K
    |false=>False
   |_=>False
  |_=>ng T st dst t x y K
 |_=>ng T st dst t x y K
def Aas (st:St) (dst:Nat) (t:TypeId) (l c:AV) (K:AV->St->Prop):Prop:=
 match l,c with
 | .at (.data _ (.int _) n), .at (.data _ (.int _) m)=>Ic (T.elem t) λte=>Ic (T.ty te) λe=>match gy e&&Nat.blt dst Bq with
  |true=>(0<=n/\n<Dt+1)/\n=m/\K (.at (.own dst 0 (List.replicate n.toNat e.zero).length)) (st.new dst (.arr (T.tb||e.flat) (T.CG&&e.tree) e te (List.replicate n.toNat e.zero)))
  |false=>False
 |_,_=>False
def MO (st:St) (dst:Nat) (t:TypeId) (l c:AV) (K:AV->St->Prop):Prop:=
 match ej T t with
 |none=>Aas T st dst t l c K
 |some p=>match l,c with
  | .at (.data _ (.int _) n), .at (.data _ (.int _) m)=>match Nat.blt dst Bq with
   |true=>(0<=n/\n<Dt+1)/\n=m/\K (.at (.own dst 0 (List.replicate n.toNat ([]:List p.2.den)).length)) (Rg st dst dst (.Bu p.2 p.1 (List.replicate n.toNat []) none none))
   |false=>False
  |_,_=>False
def fi (st:St) (dst:Nat) (t:TypeId) (len:Nat) (parts:Array (Nat×Operand)) (K:AV->St->Prop):Prop:=
 match ej T t with
 |none=>Ic (Mu T st dst t len parts) λr=>K r.1 r.2
 |some p=>match parts.toList with
  | [(0,x)]=>match st.ev x with
   | .at (.own m off ln)=>match st.at m with
    |some (.arr _ _ e' _ xs)=>if h:e'=p.2/\(Nat.beq len 1&&(Nat.blt dst Bq&&Nat.blt m Bq))=true then off=0/\ln=xs.length/\K (.at (.own dst 0 1)) (Rg st dst m (.Bu p.2 p.1 [h.1▸xs] none none)) else False
    |_=>False
   |_=>False
  |_=>False
def sE (st:St) (dst:Nat) (t:TypeId) (x y:Operand) (K:AV->St->Prop):Prop:=
 match ej T t with
 |none=>sC T st dst t x y K
 |some p=>match st.ev x,st.ev y with
  | .at (.own l off len), .at (.own m Aay tP)=>match st.at l,st.at m with
   |some (.Bu e1 te1 A none _),some (.Bu e2 wN B none _)=>
    if h:(e1=p.2/\e2=p.2)/\(decide (te1=p.1)&&decide (wN=p.1)&&(Nat.blt l Bq&&(Nat.blt m Bq&&!Nat.beq m l)))=true then
     (off=0/\len=A.length)/\(Aay=0/\tP=B.length)/\0<B.length/\A.length+B.length<=Dt/\
      K (.at (.own l 0 (List.length ((h.1.1▸A:List (List p.2.den))++(h.1.2▸B:List (List p.2.den)))))) (Rg st l m (.Bu p.2 p.1 ((h.1.1▸A:List (List p.2.den))++(h.1.2▸B:List (List p.2.den))) none none))
    else False
   |_,_=>False
  |_,_=>False
def gn (st:St) (io:Bool) (k:Nat):(c:CK)->AC->(c.den->List (Nat×Loc)->Prop)->Prop
 | .Gw τ, .own l off len,K=>Ic (Ee st τ (.own l off len)) λp=>K p.2 [(Em false k, .view l)]
 | .Gw τ, .clo g Ew,K=>match cr st (Ew.map (·.1))&&!τ.Ar with
  |true=>Ic (Kj st τ (.clo g Ew)) λp=>K p.2 (views k (Ew.map (·.1)))
  |false=>False
 | .Gw τ, .Ho l i,K=>match cr st [l]&&!τ.Ar with
  |true=>Ic (Kj st τ (.Ho l i)) λp=>K p.2 (views k [l])
  |false=>False
 | .Gw τ, .sub l i c,K=>Ic (Ee st τ (.sub l i c)) λp=>K p.2 [(Em false k, .view l)]
 | .Gw τ,a,K=>match τ.flat||a.settled with
  |true=>Ic (Ee st τ a) λp=>K p.2 []
  |false=>False
 | .row e te, .own l off len,K=>match st.at l with
  |some (.arr _ _ e' Ro xs)=>if h:e'=e/\Ro=te then off=0/\len=xs.length/\K (h.1▸xs:List e.den) [(Em io k, .row l)] else False
  |_=>False
 | .row e _, .sub l i c,K=>match st.at l with
  |some (.Hc e' _ xs)=>if h:e'= .slice e/\e.flat=true/\io=true/\c=0 then ∃y,xs[i]?=some y/\K (h.1▸y:(Ty.slice e).den) [(Em io k, .sub l i c)] else False
  |_=>False
 | .row _ _, .Mj,K=>K [] []
 | .Ie e te, .own l off len,K=>match st.at l with
  |some (.Hc e' Ro xs)=>if h:e'=e/\Ro=te then off=0/\len=xs.length/\K (h.1▸xs:List e.den) [(Em io k, .row l)] else False
  |_=>False
 | .Ie e _, .sub l i c,K=>match st.at l with
  |some (.Hc e' _ xs)=>if h:e'= .slice e/\io=true/\c=0 then ∃y,xs[i]?=some y/\K (h.1▸y:(Ty.slice e).den) [(Em io k, .sub l i c)] else False
  |_=>False
 | .Ie _ _, .Mj,K=>K [] []
 | .part e te, .own l off len,K=>match st.at l with
  |some (.arr _ _ e' Ro xs)=>if h:e'=e/\Ro=te/\e.flat=true/\io=true then K ((h.1▸xs:List e.den),off,len) [(Em io k, .row l)] else False
  |_=>False
 | .Bu e te _, .own l off len,K=>match st.at l with
  |some (.Bu e' Ro rows none _)=>if h:e'=e/\Ro=te/\io=false then off=0/\len=rows.length/\K (h.1▸rows:List (List e.den)) [(Em io k, .row l)] else False
  |_=>False
 |_,_,_=>False
def CE (st:St):(k:Nat)->(cs:List (Bool×CK))->List AC->(Ins.den cs->List (Nat×Loc)->Prop)->Prop
 |_,[],[],K=>K () []
 |k,p::r,a::as,K=>gn st p.1 k p.2 a λx t1=>CE st (k+1) r as λy t2=>K (x,y) (t1++t2)
 |_,_,_,_=>False
def qN (st:St):(c:CK)->c.den->AC->(St->Prop)->Prop
 | .row e _,ys, .own l _ len,K=>match st.at l with
  |some (.arr fr tr e' te xs)=>if h:e=e' then (List.length ys=len/\xs.length=len)/\K (st.Kl l (.arr (fr&&e'.flat) (tr&&e'.flat) e' te (h▸ys))) else False
  |_=>False
 | .Ie e _,ys, .own l _ len,K=>match st.at l with
  |some (.Hc e' te xs)=>if h:e=e' then (List.length ys=len/\xs.length=len)/\K (st.Kl l (.Hc e' te (h▸ys))) else False
  |_=>False
 | .row e _,ys, .sub l i _,K=>match st.at l with
  |some (.Hc e' te xs)=>if h: .slice e=e' then ∃y,xs[i]?=some y/\List.length ys=List.length (h▸y:(Ty.slice e).den)/\K (st.Kl l (.Hc e' te (xs.set i (h▸(ys:(Ty.slice e).den))))) else False
  |_=>False
 | .Ie e _,ys, .sub l i _,K=>match st.at l with
  |some (.Hc e' te xs)=>if h: .slice e=e' then ∃y,xs[i]?=some y/\List.length ys=List.length (h▸y:(Ty.slice e).den)/\K (st.Kl l (.Hc e' te (xs.set i (h▸(ys:(Ty.slice e).den))))) else False
  |_=>False
 |_,_, .Mj,K=>K st
 |_,_,_,_=>False
def Abo (st:St) (e:Ty) (ys:List e.den):AC->(St->Prop)->Prop
 | .own l _ _,K=>match st.at l with
  |some (.arr fr tr e' te xs)=>if h:e=e' then List.length ys=xs.length/\K (st.Kl l (.arr fr tr e' te (h▸ys))) else False
  |_=>False
 |_,_=>False
def jm:(cs:List (Bool×CK))->IOs.den cs->List AC->St->(St->Prop)->Prop
 | [],_,_,st,K=>K st
 |(true, .Gw _)::r,x,_::as,st,K=>jm r x as st K
 |(true, .row e te)::r,x,a::as,st,K=>qN st (.row e te) x.1 a λst'=>jm r x.2 as st' K
 |(true, .Ie e te)::r,x,a::as,st,K=>qN st (.Ie e te) x.1 a λst'=>jm r x.2 as st' K
 |(true, .part e _)::r,x,a::as,st,K=>Abo st e x.1 a λst'=>jm r x.2 as st' K
 |(true, .Bu _ _ _)::r,x,_::as,st,K=>jm r x as st K
 |(false,_)::r,x,_::as,st,K=>jm r x as st K
 |_,_,_,_,_=>False
def vf (H:List (Nat×OB)) (ls:List Nat) (n:Nat):List AV->Prop->Prop
 | [],K=>K
 | .at (.sub l i _)::r,K=>match ls.contains l with
  |true=>(i<n/\i<sd H l)/\vf H ls n r K
  |false=>vf H ls n r K
 |_::r,K=>vf H ls n r K
def KP (st:St) (dst:Option Nat) (s:MSpec) (args:List AV) (K:AV->St->Prop):Prop:=
 Ic (SA st s args) λq=>Ic (ungroup s.Jy q.2.2) λoN=>CE st 0 s.ins (q.2.1++oN) λx tks=>
  match aw (tks.map λt=>t.2.Xn)&&zE (Sq s tks (dst.getD 0)) (s.outs.length+(mI s (dst.getD 0)).length)&&Nat.blt s.outs.length 1000&&Nat.blt s.ins.length 1000&&(Wr s.ins q.2.1&&q.1.all λl=>!((tks.map λt=>t.2.Xn)++Sq s tks (dst.getD 0)).contains l) with
  |true=> ∃p,s.fn x=some p/\jm s.ins p.2 (q.2.1++oN) st λst1=>Ic (Afj s (dst.getD 0) ((cc (Ev (Sq s tks (dst.getD 0))) 0 s.outs p.1).drop s.aK)) λv=>
    vf (lX st st1 (dst.getD 0) s q.1 tks p.1).heap (c6 st.heap (Sq s tks (dst.getD 0)) tks s.keeps) (s.Fz x) st.tmps
     (K v (mq st (lX st st1 (dst.getD 0) s q.1 tks p.1) (c6 st.heap (Sq s tks (dst.getD 0)) tks s.keeps) (s.Fz x)))
  |false=>False
def opW (w:WS) (o:Oper) (K:AV->WS->Prop):Prop:=
 match o.op with
 | .store t p x=>BO T (Pe T w.st p x) t ((Pe T w.st p x).ev p) ((Pe T w.st p x).ev x) λs=>K .undef (w.to s)
 | .makeSlice t l c=>Ic o.dst λd=>MO T w.st d t (w.st.ev l) (w.st.ev c) λv s=>K v (w.to s)
 | .call {callee:= .builtin .append,args,argTypes} =>match o.dst,args.toList,argTypes.toList with
  |some d,[x,y],[t,t']=>if t=t' then sE T w.st d t x y λv s=>K v (w.to s) else False
  |_,_,_=>False
 | .assign _=>Ic (evalOp T Γ w.st o) λr=>K r.1 (w.to r.2)
 | .alloc _=>Ic (evalOp T Γ w.st o) λr=>K r.1 (w.to r.2)
 | .box _ _=>Ic (evalOp T Γ w.st o) λr=>K r.1 (w.to r.2)
 | .buildSlice t len parts=>Ic o.dst λd=>fi T w.st d t len parts λv s=>K v (w.to s)
 | .build _ _=>Ic (evalOp T Γ w.st o) λr=>K r.1 (w.to r.2)
 | .makeMap _ _=>Ic (evalOp T Γ w.st o) λr=>K r.1 (w.to r.2)
 | .mapUpdate _ _ _ _=>Ic (evalOp T Γ w.st o) λr=>K r.1 (w.to r.2)
 | .insert _ _ _ _=>Ic (evalOp T Γ w.st o) λr=>K r.1 (w.to r.2)
 | .call {callee:= .builtin .copy, .. } =>Ic (evalOp T Γ w.st o) λr=>K r.1 (w.to r.2)
 | .call {callee:= .builtin .clear, .. } =>Ic (evalOp T Γ w.st o) λr=>K r.1 (w.to r.2)
 | .call {callee:= .value (.func f),args, .. } =>match Γ f with
  |some (.m s)=>KP w.st o.dst s (args.toList.map w.st.ev) λv s'=>K v (w.to s')
  |some (.q s)=>match fJ s (args.toList.map w.st.ev) with
   |true=>Ic (Nu args.toList w.st) λst1=>qW T Γ (w.to st1) o K
   |false=>qW T Γ w o K
  |_=>qW T Γ w o K
 |_=>qW T Γ w o K
def AV.Aah:AV->Bool
 | .at .skip=>true
 |_=>false
def bW (w:WS) (o:Oper) (K:AV->WS->Prop):Prop:=
 match o.op with
 | .buildSlice t len parts=>Ic (bN T w.st t len parts) λv=>K v w
 | .build t parts=>Ic (Ye T w.st t parts) λv=>K v w
 |_=>qW T Γ w o K
def jN (ops:Array Oper) (w:WS) (o:Oper) (run:(AV->WS->Prop)->WS->Prop) (K:WS->Prop):Prop:=
 match o.guard with
 |none=>run (λv w'=>K (w'.wv o v)) w
 |some (j,want)=>Ic ((ops[j]?).bind (·.dst)) λt=>match (w.st.get t).Aah with
  |true=>K (w.put o.dst (.at .skip))
  |false=>brT w t λb w'=>match b,want with
   |true,true=>run (λv rh=>K (rh.wv o v)) w'
   |false,false=>run (λv rh=>K (rh.wv o v)) w'
   |_,_=>K (w'.put o.dst (.at .skip))
def Aka (ops:Array Oper):List Oper->WS->(WS->Prop)->Prop
 | [],w,K=>K w
 |o::r,w,K=>jN ops w o (λk w'=>opW T Γ w' o k) λw'=>Aka ops r w' K
def Aa8 (ops:Array Oper):List Nat->WS->(WS->Prop)->Prop
 | [],w,K=>K w
 |i::r,w,K=>Ic ops[i]? λo=>jN ops w o (λk w'=>opW T Γ w' o k) λw'=>Aa8 ops r w' K
def lh (ops:Array Oper):List Nat->WS->(WS->Prop)->Prop
 | [],w,K=>K w
 |i::r,w,K=>Ic ops[i]? λo=>jN ops w o (λk w'=>bW T Γ w' o k) λw'=>lh ops r w' K
def YE:List Nat->(Nat->Prop)->Prop
 | [],_=>True
 | [i],P=>P i
 |i::j::r,P=>P i/\YE (j::r) P
def SX (ops:Array Oper):Nat->Array Bool->WS->(WS->Prop)->Prop
 |0,Ah,w,K=>match Region.ready .any ops Ah with
  | []=>K w
  |_::_=>False
 |f+1,Ah,w,K=>match Region.ready .any ops Ah with
  | []=>False
  |i::r=>YE (i::r) λk=>Ic ops[k]? λo=>jN ops w o (λkk w'=>opW T Γ w' o kk) λw'=>SX ops f (Ah.setIfInBounds k true) w' K
def acV:AC->Type->Type
 | .data _ τ _,R=>τ.den×R
 | .sub _ _ _,R=>Nat×R
 | .Kp _ _,R=>Nat×R
 | .Km _ _ _,R=>Nat×Nat×R
 |_,R=>R
def KF:List AC->Type->Type
 | [],R=>R
 |c::r,R=>acV c (KF r R)
def avV:AV->Type->Type
 | .at a,R=>acV a R
 | .agg cs,R=>KF cs R
 | .bB _ τ _,R=>τ.den×R
 | .Nd _,R=>R
def obV:OB->Type->Type
 | .arr _ _ e _ _,R=>List e.den×R
 | .Hc e _ _,R=>List e.den×R
 | .var _ vs,R=>KF vs R
 | .Bu e _ _ _ none,R=>List (List e.den)×R
 | .Bu e _ _ _ (some _),R=>List (List e.den)×(Nat×R)
 | .Wb v _,R=>(ByteArray->Option v.den)×R
def re:List AV->Type->Type
 | [],R=>R
 |v::r,R=>avV v (re r R)
def xp:List (Nat×OB)->Type->Type
 | [],R=>R
 |p::r,R=>obV p.2 (xp r R)
def stV (s:St):Type:=re s.tmps (xp s.heap Unit)
def PZ:(c:AC)-> {R:Type} ->R->acV c R
 | .data _ _ x,_,r=>(x,r)
 | .undef,_,r=>r
 | .skip,_,r=>r
 | .Mj,_,r=>r
 | .Wa,_,r=>r
 | .own _ _ _,_,r=>r
 | .Ho _ _,_,r=>r
 | .Kp _ i,_,r=>(i,r)
 | .clo _ _,_,r=>r
 | .Ky _,_,r=>r
 | .sub _ i _,_,r=>(i,r)
 | .Km _ i j,_,r=>(i,j,r)
def sy:(l:List AC)-> {R:Type} ->R->KF l R
 | [],_,r=>r
 |c::l,_,r=>PZ c (sy l r)
def Age:(c:AV)-> {R:Type} ->R->avV c R
 | .at a,_,r=>PZ a r
 | .agg cs,_,r=>sy cs r
 | .bB _ _ x,_,r=>(x,r)
 | .Nd _,_,r=>r
def Ahx:(b:OB)-> {R:Type} ->R->obV b R
 | .arr _ _ _ _ xs,_,r=>(xs,r)
 | .Hc _ _ xs,_,r=>(xs,r)
 | .var _ vs,_,r=>sy vs r
 | .Bu _ _ rows _ none,_,r=>(rows,r)
 | .Bu _ _ rows _ (some p),_,r=>(rows,p.2,r)
 | .Wb _ m,_,r=>(m,r)
def sm:(l:List AV)-> {R:Type} ->R->re l R
 | [],_,r=>r
 |c::l,_,r=>Age c (sm l r)
def sf:(l:List (Nat×OB))-> {R:Type} ->R->xp l R
 | [],_,r=>r
 |p::l,_,r=>Ahx p.2 (sf l r)
def SF (s:St):stV s:=sm s.tmps (sf s.heap ())
def oS:(c d:AC)-> {R:Type} ->R->Option (acV c R)
 | .data fr τ _, .data Wm Ox x,_,r=>if h:Ox=τ/\Wm=fr then some (h.1▸x,r) else none
 | .undef, .undef,_,r=>some r
 | .skip, .skip,_,r=>some r
 | .Mj, .Mj,_,r=>some r
 | .Wa, .Wa,_,r=>some r
 | .own l _ _, .own l' _ _,_,r=>if l=l' then some r else none
 | .Ho l i, .Ho l' i',_,r=>if l=l'/\i=i' then some r else none
 | .Kp l _, .Kp l' i',_,r=>if l=l' then some (i',r) else none
 | .clo f c, .clo f' c',_,r=>if f=f'/\c=c' then some r else none
 | .Ky l, .Ky l',_,r=>if l=l' then some r else none
 | .sub l _ c, .sub l' i' c',_,r=>if l=l'/\c=c' then some (i',r) else none
 | .Km l _ _, .Km l' i' j',_,r=>if l=l' then some (i',j',r) else none
 |_,_,_,_=>none
def Sp:(l m:List AC)-> {R:Type} ->R->Option (KF l R)
 | [],[],_,r=>some r
 |c::l,d::m,_,r=>(Sp l m r).bind λr'=>oS c d r'
 |_,_,_,_=>none
def m5:(c d:AV)-> {R:Type} ->R->Option (avV c R)
 | .at a, .at b,_,r=>oS a b r
 | .agg cs, .agg ds,_,r=>Sp cs ds r
 | .bB fr τ _, .bB Wm Ox x,_,r=>if h:Ox=τ/\Wm=fr then some (h.1▸x,r) else none
 |_,_,_,_=>none
def Tn:(b d:OB)-> {R:Type} ->R->Option (obV b R)
 | .arr fr tr e tid _, .arr Wm tr' e' Vh xs,_,r=>if h:e'=e/\Wm=fr/\tr'=tr/\Vh=tid then some (h.1▸xs,r) else none
 | .Hc e tid _, .Hc e' Vh xs,_,r=>if h:e'=e/\Vh=tid then some (h.1▸xs,r) else none
 | .Wb v _, .Wb v' m,_,r=>if h:v'=v then some (h▸m,r) else none
 | .var t vs, .var t' us,_,r=>if t'=t then Sp vs us r else none
 | .Bu e te _ out none, .Bu e' Ro rows ig none,_,r=>if h:e'=e/\Ro=te/\ig=out then some (h.1▸rows,r) else none
 | .Bu e te _ out (some p), .Bu e' Ro rows ig (some p'),_,r=>if h:e'=e/\Ro=te/\ig=out/\p'.1=p.1 then some (h.1▸rows,p'.2,r) else none
 |_,_,_,_=>none
def Po:(l m:List AV)-> {R:Type} ->R->Option (re l R)
 | [],[],_,r=>some r
 |c::l,d::m,_,r=>(Po l m r).bind λr'=>m5 c d r'
 |_,_,_,_=>none
def Qj:(l m:List (Nat×OB))-> {R:Type} ->R->Option (xp l R)
 | [],[],_,r=>some r
 |p::l,q::m,_,r=>if q.1=p.1 then (Qj l m r).bind λr'=>Tn p.2 q.2 r' else none
 |_,_,_,_=>none
def jJ (s t:St):Option (stV s):=(Qj s.heap t.heap ()).bind λr=>Po s.tmps t.tmps r
def lW:(c:AC)-> {R:Type} ->acV c R->AC×R
 | .data fr τ _,_,v=>(.data fr τ v.1,v.2)
 | .undef,_,r=>(.undef,r)
 | .skip,_,r=>(.skip,r)
 | .Mj,_,r=>(.Mj,r)
 | .Wa,_,r=>(.Wa,r)
 | .own l off len,_,r=>(.own l off len,r)
 | .Ho l i,_,r=>(.Ho l i,r)
 | .Kp l _,_,v=>(.Kp l v.1,v.2)
 | .clo f c,_,r=>(.clo f c,r)
 | .Ky l,_,r=>(.Ky l,r)
 | .sub l _ c,_,v=>(.sub l v.1 c,v.2)
 | .Km l _ _,_,v=>(.Km l v.1 v.2.1,v.2.2)
def aN:(l:List AC)-> {R:Type} ->KF l R->List AC×R
 | [],_,r=>([],r)
 |c::l,_,v=>((lW c v).1::(aN l (lW c v).2).1,(aN l (lW c v).2).2)
def sJ:(c:AV)-> {R:Type} ->avV c R->AV×R
 | .at a,_,v=>(.at (lW a v).1,(lW a v).2)
 | .agg cs,_,v=>(.agg (aN cs v).1,(aN cs v).2)
 | .bB fr τ _,_,v=>(.bB fr τ v.1,v.2)
 | .Nd l,_,r=>(.Nd l,r)
def uc:(b:OB)-> {R:Type} ->obV b R->OB×R
 | .arr fr tr e tid _,_,v=>(.arr fr tr e tid v.1,v.2)
 | .Hc e tid _,_,v=>(.Hc e tid v.1,v.2)
 | .Wb w _,_,v=>(.Wb w v.1,v.2)
 | .var t vs,_,v=>(.var t (aN vs v).1,(aN vs v).2)
 | .Bu e te _ out none,_,v=>(.Bu e te v.1 out none,v.2)
 | .Bu e te _ out (some p),_,v=>(.Bu e te v.1 out (some (p.1,v.2.1)),v.2.2)
def Xg:(l:List AV)-> {R:Type} ->re l R->List AV×R
 | [],_,r=>([],r)
 |c::l,_,v=>((sJ c v).1::(Xg l (sJ c v).2).1,(Xg l (sJ c v).2).2)
def er:(l:List (Nat×OB))-> {R:Type} ->xp l R->List (Nat×OB)×R
 | [],_,r=>([],r)
 |p::l,_,v=>((p.1,(uc p.2 v).1)::(er l (uc p.2 v).2).1,(er l (uc p.2 v).2).2)
def jI (s:St) (v:stV s):St:= {tmps:=(Xg s.tmps v).1,heap:=(er s.heap (Xg s.tmps v).2).1}
def lenOf (H:List (Nat×OB)) (l:Nat):Nat:=match Ay H l with|some (.arr _ _ _ _ xs)=>xs.length|some (.Hc _ _ xs)=>xs.length|some (.Bu _ _ rows _ _)=>rows.length|_=>0
def an (ps:List Nat):List AV->List (Nat×Nat×Nat)
 | []=> []
 | .at (.own l off len)::r=>if ps.contains l then (l,off,len)::an ps r else an ps r
 |_::r=>an ps r
def Ak8:List (Nat×Nat×Nat)->Nat->Nat
 | [],_=>0
 |(k,o,_)::r,l=>if k=l then o else Ak8 r l
def UB:List (Nat×Nat×Nat)->List (Nat×OB)->Nat->Nat
 | [],H,l=>lenOf H l
 |(k,_,n)::r,H,l=>if k=l then n else UB r H l
def gw (B:List (Nat×Nat×Nat)) (H:List (Nat×OB)):AC->AC
 | .own l _ _=> .own l (Ak8 B l) (UB B H l)
 |c=>c
def St.whole (B:List (Nat×Nat×Nat)) (s:St):St:=s.Ln (gw B s.heap)
def yK (B:List (Nat×Nat×Nat)) (H:List (Nat×OB)) (c:AC) (K:Prop):Prop:=match c with
 | .own l off len=>off=Ak8 B l/\len=UB B H l/\K
 |_=>K
def dT (B:List (Nat×Nat×Nat)) (H:List (Nat×OB)):List AC->Prop->Prop
 | [],K=>K
 |c::r,K=>yK B H c (dT B H r K)
def QB (B:List (Nat×Nat×Nat)) (H:List (Nat×OB)) (c:AV) (K:Prop):Prop:=match c with
 | .at a=>yK B H a K
 | .agg cs=>dT B H cs K
 | .bB _ _ _=>K
 | .Nd _=>False
def bA (B:List (Nat×Nat×Nat)) (H:List (Nat×OB)):List AV->Prop->Prop
 | [],K=>K
 |c::r,K=>QB B H c (bA B H r K)
def ki (B:List (Nat×Nat×Nat)) (H:List (Nat×OB)):List (Nat×OB)->Prop->Prop
 | [],K=>K
 |p::r,K=>match p.2 with
  | .var _ vs=>dT B H vs (ki B H r K)
  |_=>ki B H r K
def BL (B:List (Nat×Nat×Nat)) (s:St) (K:Prop):Prop:=bA B s.heap s.tmps (ki B s.heap s.heap K)
def AV.Ym:AV->Bool
 | .at (.data _ _ _)=>true
 |_=>false
def Kv (p:Nat->Bool):Nat->List AV->List Bool
 |_,[]=> []
 |i,v::r=>(v.Ym&&p i)::Kv p (i+1) r
def stays (live:Nat->List Nat) (c:Code) (t:Nat):Bool:=!(writes c).contains t&&bZ live c t
def Uf:List Bool->List AV->List AV
 |true::f,_::r=> .undef::Uf f r
 |false::f,v::r=>v::Uf f r
 |_,l=>l
def Vs:List Bool->List AV->List AV->List AV
 |true::f,a::s,_::r=>a::Vs f s r
 |false::f,_::s,v::r=>v::Vs f s r
 |_,_,l=>l
def St.mask (fx:List Bool) (s:St):St:= {tmps:=Uf fx s.tmps,heap:=s.heap}
def St.wg (fx:List Bool) (s0 s:St):St:= {tmps:=Vs fx s0.tmps s.tmps,heap:=s.heap}
def s8 (c:AC) (k:AC->Prop):Prop:=match c with
 | .undef=>k .undef
 | .skip=>k .skip
 | .Mj=>k .Mj
 | .Wa=>k .Wa
 | .data fr τ x=>match fr with
  |true=>k (.data true τ x)
  |false=>k (.data false τ x)
 | .own l off len=>k (.own l off len)
 | .Ho l i=>k (.Ho l i)
 | .Kp l i=>k (.Kp l i)
 | .clo f c=>k (.clo f c)
 | .Ky l=>k (.Ky l)
 | .sub l i c=>k (.sub l i c)
 | .Km l i c=>k (.Km l i c)
def iT:List AC->(List AC->Prop)->Prop
 | [],k=>k []
 |c::r,k=>s8 c λc'=>iT r λr'=>k (c'::r')
def ze (c:AV) (k:AV->Prop):Prop:=match c with
 | .at a=>s8 a λa'=>k (.at a')
 | .agg cs=>iT cs λiL=>k (.agg iL)
 | .bB fr τ x=>k (.bB fr τ x)
 | .Nd l=>k (.Nd l)
def iU:List AV->(List AV->Prop)->Prop
 | [],k=>k []
 |c::r,k=>ze c λc'=>iU r λr'=>k (c'::r')
def zf (b:OB) (k:OB->Prop):Prop:=match b with
 | .arr fr tr e tid xs=>match fr,tr with
  |true,true=>k (.arr true true e tid xs)
  |true,false=>k (.arr true false e tid xs)
  |false,true=>k (.arr false true e tid xs)
  |false,false=>k (.arr false false e tid xs)
 | .Hc e tid xs=>k (.Hc e tid xs)
 | .var t vs=>iT vs λvs'=>k (.var t vs')
 | .Bu e te rows out kp=>match out,kp with
  |none,none=>k (.Bu e te rows none none)
  |none,some (l,n)=>k (.Bu e te rows none (some (l,n)))
  |some i,none=>k (.Bu e te rows (some i) none)
  |some i,some (l,n)=>k (.Bu e te rows (some i) (some (l,n)))
 | .Wb v m=>k (.Wb v m)
def ta:List (Nat×OB)->(List (Nat×OB)->Prop)->Prop
 | [],k=>k []
 |(l,b)::r,k=>zf b λb'=>ta r λr'=>k ((l,b')::r')
def au (w:WS) (k:WS->Prop):Prop:=iU w.st.tmps λt=>ta w.st.heap λh=>k {kn:=w.kn,st:= {tmps:=t,heap:=h} }
def pb (s:St) (k:St->Prop):Prop:=iU s.tmps λt=>ta s.heap λh=>k {tmps:=t,heap:=h}
def fq:List Bool->(List Bool->Prop)->Prop
 | [],k=>k []
 |true::r,k=>fq r λr'=>k (true::r')
 |false::r,k=>fq r λr'=>k (false::r')
theorem qn {c:AC} {k:AC->Prop} :s8 c k↔k c:=by
 cases c<;>simp only [s8]
 split<;>rfl
theorem fo: ∀ {l:List AC} {k:List AC->Prop},iT l k↔k l
 | [],k=>Iff.rfl
 |c::r,k=>by simp only [iT];rw [qn,fo]
theorem ET {c:AV} {k:AV->Prop} :ze c k↔k c:=by
 cases c<;>simp only [ze]
 ·exact qn
 ·exact fo
theorem fp: ∀ {l:List AV} {k:List AV->Prop},iU l k↔k l
 | [],k=>Iff.rfl
 |c::r,k=>by simp only [iU];rw [ET,fp]
theorem EU {b:OB} {k:OB->Prop} :zf b k↔k b:=by
 cases b<;>simp only [zf]
 ·split<;>rfl
 ·exact fo
 ·split<;>rfl
theorem mh: ∀ {l:List (Nat×OB)} {k:List (Nat×OB)->Prop},ta l k↔k l
 | [],k=>Iff.rfl
 |(l,b)::r,k=>by simp only [ta];rw [EU,mh]
theorem TM {s:St} {k:St->Prop} :pb s k=k s:=by
 unfold pb
 exact propext (by rw [fp,mh])
theorem fu: ∀ {l:List Bool} {k:List Bool->Prop},fq l k=k l
 | [],k=>rfl
 |true::r,k=>by simp only [fq];rw [fu]
 |false::r,k=>by simp only [fq];rw [fu]
theorem Oq {w:WS} {k:WS->Prop} :au w k↔k w:=by
 unfold au
 rw [fp,mh]
def bH:AC->List (Nat×Nat)
 | .own _ off len=> [(off,len)]
 |_=> []
def bJ:AV->List (Nat×Nat)
 | .at a=>bH a
 | .agg cs=>cs.flatMap bH
 |_=> []
def mD:OB->List (Nat×Nat)
 | .var _ vs=>vs.flatMap bH
 |_=> []
def OS (s:St):List (Nat×Nat):=s.tmps.flatMap bJ++s.heap.flatMap λp=>mD p.2
def eqW (s0 s:St):Prop:=OS s=OS s0/\Ic (jJ s0 s) λv=>v=SF s0
def bR (ops:Array Oper):Nat->Array Bool->WS->(WS->Prop)->Prop
 |0,Ah,w,K=>match Region.ready .any ops Ah with
  | []=>K w
  |_::_=>False
 |f+1,Ah,w,K=>match Region.ready .any ops Ah with
  | []=>False
  |k::_=>Ic ops[k]? λo=>jN ops w o (λkk w'=>opW T Γ w' o kk) λw'=>bR ops f (Ah.setIfInBounds k true) w' K
def DJ (P:List (Nat×Nat×AV×OB)) (ops:Array Oper):Nat->Array Bool->WS->(WS->Prop)->Prop
 |0,Ah,w,K=>match Region.ready .any ops Ah with
  | []=>K w
  |_::_=>False
 |f+1,Ah,w,K=>match Region.ready .any ops Ah with
  | []=>False
  |i::r=>YE (i::r) λk=>Ic ops[k]? λo=>match MW P Γ ops w.st o k with
   |true=>jN ops w o (λkk w'=>opW T Γ w' o kk) λw'=>DJ P ops f (Ah.setIfInBounds k true) w' K
   |false=>False
def yr (ops:Array Oper) (E:List Nat) (Ah:Array Bool) (w:WS):List Nat->Prop->Prop
 | [],K=>K
 |r::R,K=>match sn ops E Ah r with
  |true=>yr ops E Ah w R K
  |false=>(lh T Γ ops [r] w λw'=>Ic ((ops[r]?).bind (·.dst)) λd=>match Nat.blt d w.st.tmps.length with
    |true=>eqW ⟨[w.st.get d],[]⟩ ⟨[w'.st.get d],[]⟩
    |false=>False)/\yr ops E Ah w R K
def sA (ops:Array Oper) (E:List Nat):Nat->Array Bool->WS->(WS->Prop)->Prop
 |0,Ah,w,K=>yr T Γ ops E Ah w E (match Region.ready .any ops Ah with
  | []=>K w
  |_::_=>False)
 |f+1,Ah,w,K=>yr T Γ ops E Ah w E (match Region.ready .any ops Ah with
  | []=>False
  |i::r=>YE (i::r) λk=>Ic ops[k]? λo=>jN ops w o (λkk w'=>opW T Γ w' o kk) λw'=>sA ops E f (Ah.setIfInBounds k true) w' K)
def NS (E:List Nat) (n:Nat) (L0:Array Bool) (ops:Array Oper) (w:WS) (K:WS->Prop):Prop:=
 match cW ops E L0&&(Nat.ble E.length n&&Nat.ble (n-E.length) 10) with
 |true=>lh T Γ ops E w λw1=>au w1 λw1=>bR T Γ ops (n-E.length) (Fa E L0) w1 λw0=>au w0 λw0=>K w0/\sA T Γ ops E (n-E.length) (Fa E L0) w1 λw2=>au w2 λw2=>eqW w0.st w2.st
 |false=>False
def yQ (P:List (Nat×Nat×AV×OB)) (n:Nat) (L0:Array Bool) (ops:Array Oper) (w:WS) (K:WS->Prop):Prop:=
 match (aw (P.map (·.1))&&aw (P.map (·.2.1)))&&((P.all λa=>pB a.2.1 w.st)&&(Nat.ble P.length n&&Nat.ble (n-P.length) 10)) with
 |true=>Aa8 T Γ ops (P.map (·.1)) w λw1=>au w1 λw1=>bR T Γ ops (n-P.length) (Fa (P.map (·.1)) L0) w1 λw0=>au w0 λw0=>K w0/\DJ T Γ P ops (n-P.length) (Fa (P.map (·.1)) L0) w1 λw2=>eqW w0.st w2.st
 |false=>NS T Γ (kA ops (List.range ops.size) L0) n L0 ops w K
def ji:Nat:=800000000
def HC (ops:Array Oper):Nat->Array Bool->Bool
 |0,Ah=>(Region.ready .any ops Ah).isEmpty
 |f+1,Ah=>match Region.ready .any ops Ah with
  | [i]=>HC ops f (Ah.setIfInBounds i true)
  |_=>false
def RY (ops:Array Oper) (L0:Array Bool):List Nat:=kA ops (List.range ops.size) L0
def xR (ops:Array Oper):Array Bool:=Fa (Kz ops) (Array.replicate ops.size false)
def Aaz (ops:Array Oper):Bool:=Region.noSelect ops&&(cW ops (RY ops (xR ops)) (xR ops)&&(Nat.ble (RY ops (xR ops)).length (ops.size-(Kz ops).length)&&Nat.ble ((ops.size-(Kz ops).length)-(RY ops (xR ops)).length) 10))
def eqM (fx:List Bool) (s0 s:St):Prop:=eqW (s0.mask fx) (s.mask fx)
def Tc (ops:Array Oper) (t:Nat):Bool:=!Ze ops t
def vC (ops:Array Oper):List Nat:=(ops.toList.filterMap λo=>match o.op with
 | .alloc _=>none
 | .box _ _=>none
 | .assign _=>none
 |_=>o.dst).filter λd=>ops.toList.any λo=>(o.looksAt ops).contains d
def WS.Qn (dead:List Nat) (w:WS):WS:= {kn:=w.kn.filter λp=>!dead.contains p.1,st:=w.st.Qn dead}
def Ab0 (dead E:List Nat) (n:Nat) (L0:Array Bool) (ops:Array Oper) (w:WS) (K:WS->Prop):Prop:=
 match cW ops E L0&&Nat.ble E.length n with
 |true=>lh T Γ ops E w λw1=>au w1 λw1=>match HC ops (n-E.length) (Fa E L0) with
  |true=>sA T Γ ops E (n-E.length) (Fa E L0) w1 λw2=>K (w2.Qn dead)
  |false=>fq (Kv (Tc ops) 0 w1.st.tmps) λfx=>bR T Γ ops (n-E.length) (Fa E L0) w1 λw0=>au (w0.Qn dead) λw0=>K w0/\sA T Γ ops E (n-E.length) (Fa E L0) w1 λw2=>au (w2.Qn dead) λw2=>eqM fx w0.st w2.st
 |false=>False
def sl (ops:Array Oper) (draw:Bool) (w:WS) (K:WS->Prop):Prop:=
 match draw with
 |true=>match cV false Γ ops with
  |true=>lh T Γ ops (kh false Γ ops) w λw'=>Aa8 T Γ ops (Jx false Γ ops) w' K
  |false=>match cV true Γ ops with
   |true=>lh T Γ ops (kh true Γ ops) w λw'=>Aa8 T Γ ops (Jx true Γ ops) w' K
   |false=>match Region.noSelect ops&&Nat.ble (ops.size-(Kz ops).length) 8 with
    |true=>lh T Γ ops (Kz ops) w λw'=>match kd false ops&&!T.marks.contains ji with
     |true=>SX T Γ ops (ops.size-(Kz ops).length) (Fa (Kz ops) (Array.replicate ops.size false)) w' K
     |false=>bR T Γ ops (ops.size-(Kz ops).length) (Fa (Kz ops) (Array.replicate ops.size false)) w' λw0=>au w0 λw0=>K w0/\SX T Γ ops (ops.size-(Kz ops).length) (Fa (Kz ops) (Array.replicate ops.size false)) w' λw1=>eqW w0.st w1.st
    |false=>match Region.noSelect ops with
     |true=>lh T Γ ops (Kz ops) w λw'=>yQ T Γ (Zu T ops (Fa (Kz ops) (Array.replicate ops.size false))) (ops.size-(Kz ops).length) (Fa (Kz ops) (Array.replicate ops.size false)) ops w' K
     |false=>False
 |false=>Aka T Γ ops ops.toList w K
def AO (ops:Array Oper) (draw:Bool) (w:WS) (K:WS->Prop):Prop:=
 match T.marks.contains ji&&(vC ops).all (Ze ops) with
 |true=>match draw&&(!(cV false Γ ops||cV true Γ ops)&&Aaz ops) with
  |true=>lh T Γ ops (Kz ops) w λw'=>Ab0 T Γ (vC ops) (RY ops (xR ops)) (ops.size-(Kz ops).length) (xR ops) ops w' K
  |false=>sl T Γ ops draw w λw'=>K (w'.Qn (vC ops))
 |false=>sl T Γ ops draw w K
def dX (live:Nat->List Nat):Code->WS->(Md->WS->Prop)->Prop
 | .skip,w,Q=>Q .normal w
 | .label _,w,Q=>Q .normal w
 | .region _ ops draw,w,Q=>AO T (AN Γ draw) ops draw {w with st:=w.st.nv ops} λw'=>au w' (Q .normal)
 | .seq a b,w,Q=>dX live a w λe w'=>match e with
  | .normal=>dX live b w' Q
  | .exit id=>Q (.exit id) w'
  | .ret=>Q .ret w'
 | .cond c a b,w,Q=>brO w c λt w'=>match t with
  |true=>dX live a w' Q
  |false=>dX live b w' Q
 | .block id c,w,Q=>dX live c w λe w'=>match e with
  | .normal=>Q .normal w'
  | .exit TX=>if TX=id then Q .normal w' else Q (.exit TX) w'
  | .ret=>Q .ret w'
 | .loop c,w,Q=>
  pb (w.st.clean (live (Fo c))) λs0=>fq (Kv (stays live c) 0 s0.tmps) λfx=>pb (s0.mask fx) λm=>
  BL (an T.parts s0.tmps) s0 (Ea (V:=stV m) (λv k=>pb ((St.wg fx s0 (jI m v)).whole (an T.parts s0.tmps)) λsb=>dX live c ⟨[],sb⟩ λe w'=>match e with
   | .normal=>pb (w'.st.clean (live (Fo c))) λs1=>BL (an T.parts s0.tmps) s1 (Ic (jJ m (s1.mask fx)) k)
   | .exit id=>Q (.exit id) w'
   | .ret=>Q .ret w') (SF m))
 | .exit id,w,Q=>Q (.exit id) w
 | .ret,w,Q=>Q .ret w
 |_,_,_=>False
def Aid (s:Spec) (fn:Func) (P:s.res.den->Prop) (st:St):Prop:=
 Ic (nI T s fn st) λp=>match p.1||!s.fresh with|true=>P p.2|false=>False
def ja (st:St) (K:Prop):List AC->List (Bool×CK)->Prop
 | .own l off len::as,(true,_)::r=>match st.at l with
  |some (.arr _ _ _ _ xs)=>(off=0/\len=xs.length)/\ja st K as r
  |some (.Hc _ _ xs)=>(off=0/\len=xs.length)/\ja st K as r
  |_=>False
 |_::as,(false,_)::r=>ja st K as r
 |_,_=>K
def pD (st:St):(cs:List CK)->List AC->(CKs.den cs->List Nat->Prop)->Prop
 | [],[],K=>K () []
 | .Bu e te _::r, .own l off len::as,K=>match st.at l with
  |some (.Bu e' Ro rows none _)=>if h:e'=e/\Ro=te then (off=0/\len=rows.length)/\pD st r as λy t=>K ((h.1▸rows:List (List e.den)),y) (l::t) else False
  |_=>False
 |c::r,a::as,K=>Ic (kT st c a) λp=>pD st r as λy t=>K (p.1,y) (p.2++t)
 |_,_,_=>False
def zD (st:St) (n:Nat) (as:List AC):List (Nat×Nat)->Prop->Prop
 | [],K=>K
 |(k,j)::r,K=>match as[j]? with
  |some (.own l _ _)=>match st.at l with
   |some (.Bu _ _ _ _ (some p))=>match Nat.beq p.1 (Em false k)&&Nat.blt k 1000 with
    |true=>n<=p.2/\zD st n as r K
    |false=>False
   |_=>False
  |_=>False
def uy (s:MSpec) (fn:Func) (x:Ins.den s.ins) (st:St) (cs:List AC) (P:CKs.den s.outs×IOs.den s.ins->Prop):Prop:=
 Ic (dE T st fn.results.toList) λl=>Ic (NW s st l) λp=>pD st s.outs (cs++p.1) λr ls=>Ic (Pg st 0 s.ins) λo=>
  match aw (p.2++ls++Qa 0 s.ins)&&Nat.blt s.ins.length 1000&&Nat.blt s.outs.length 1000&&s.Aat with
  |true=>zD st (s.Fz x) (cs++p.1) s.keeps (P (r,o))
  |false=>False
def SB (s:MSpec) (fn:Func) (x:Ins.den s.ins) (st:St) (P:CKs.den s.outs×IOs.den s.ins->Prop):Prop:=
 match s.ptr with
 |none=>uy T s fn x st [] P
 |some p=>match st.at Pp with
  |some (.var tid vs)=>match Nat.beq tid p.1&&Nat.beq vs.length p.2 with
   |true=>Ic (Jt 0 s.ins vs) λcs=>ja st (uy T s fn x st cs P) vs s.ins
   |false=>False
  |_=>False
@[irreducible] def fnMW (s:MSpec) (fn:Func) (x:Ins.den s.ins) (P:CKs.den s.outs×IOs.den s.ins->Prop):Prop:=
 match Nat.blt s.ins.length 1000&&AI s with
 |false=>False
 |true=>Ic fn.body λc=>dX T Γ (zI T.marks fn c) c {kn:= [],st:= {tmps:=aH s (bX 0 s.ins x)++List.replicate (fn.ntmps-(aH s (bX 0 s.ins x)).length) .undef,heap:=qB s x} } λe w=>match e with
  | .normal=>SB T s fn x w.st P
  | .ret=>SB T s fn x w.st P
  | .exit _=>False
@[irreducible] def fnW (s:Spec) (fn:Func) (x:s.arg.den) (P:s.res.den->Prop):Prop:=
 Ic fn.body λc=>dX T Γ (zI T.marks fn c) c {kn:= [],st:= {tmps:=Tj s.arg x++List.replicate (fn.ntmps-(Tj s.arg x).length) .undef,heap:= []} } λe w=>match e with
  | .normal=>Aid T s fn P w.st
  | .ret=>Aid T s fn P w.st
  | .exit _=>False
end Go.Proofs.Ytkkdpknjohcekaa
