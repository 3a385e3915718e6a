/-
  Part 31 of the proof that the statement FnStateClasses holds.
-/
import Derived.Test.YtkkdpknjohcekaaCFStateClasses29
namespace Go.Proofs.Ytkkdpknjohcekaa
open Go.RowKit
inductive Br (b:Bool) (A B:Prop):Prop
 |mk (t:b=true->A) (f:b=false->B)
inductive Dt {V:Type} (step:V->(V->Prop)->Prop) (v0:V):Prop
 |mk (I:V->Prop) (μ:V->Nat) (h0:I v0) (h: ∀v,I v->step v (λv'=>I v'/\μ v'<μ v))
structure WS where
 kn:List (Nat×Bool)
 st:St
def m8:List (Nat×Bool)->Nat->Option Bool
 | [],_=>none
 |(k,b)::r,t=>if k=t then some b else m8 r t
def vd:List (Nat×Bool)->Nat->List (Nat×Bool)
 | [],_=> []
 |(k,b)::r,t=>if k=t then vd r t else (k,b)::vd r t
def WS.put (w:WS) (dst:Option Tmp) (v:AV):WS:=
 match dst with
 |some d=> {kn:=vd w.kn d,st:=w.st.put (some d) v}
 |none=>w
def Vm (kn:List (Nat×Bool)):Operand->Option Bool
 | .const (.bool b)=>some b
 | .tmp t=>m8 kn t
 |_=>none
def Gq (kn:List (Nat×Bool)) (o:Oper):Option Bool:=
 match o.op with
 | .assign x=>Vm kn x
 | .move x=>Vm kn x
 | .unOp .not _ x=>(Vm kn x).map (!·)
 | .pick c a b=>match Vm kn c with
  |some true=>Vm kn a
  |some false=>Vm kn b
  |none=>none
 |_=>none
def WS.tS (w:WS) (o:Oper) (v:AV):WS:=
 match o.dst,Gq w.kn o with
 |some d,some b=>match (w.st.put (some d) v).get d with
  | .at (.data _ .bool _)=> {kn:=(d,b)::vd w.kn d,st:=w.st.put (some d) v}
  |_=>w.put (some d) v
 |dst,_=>w.put dst v
def WS.to (w:WS) (st:St):WS:= {kn:=w.kn,st:=st}
def brT (w:WS) (t:Nat) (K:Bool->WS->Prop):Prop:=
 match m8 w.kn t with
 |some b=>K b w
 |none=>match w.st.get t with
  | .at (.data _ .bool b)=>Br b (K true {kn:=(t,true)::w.kn,st:=w.st}) (K false {kn:=(t,false)::w.kn,st:=w.st})
  |_=>False
def brO (w:WS) (c:Operand) (K:Bool->WS->Prop):Prop:=
 match c with
 | .tmp t=>brT w t K
 | .const (.bool b)=>K b w
 |_=>False
def Ha {α:Type} (o:Option α) (K:α->Prop):Prop:=match o with|some x=>K x|none=>False
def Aef (T:Tab) (st:St) (t:TypeId) (x:AV) (l h:Int):Option AV:=
 match x with
 | .at (.data fr (.slice e) xs)=>if (T.elem t).bind T.ty=some e then some (.at (.data fr (.slice e) ((xs.take h.toNat).drop l.toNat))) else none
 | .at (.own k off _)=>match st.at k with
  |some (.arr _ _ e tid _)=>if T.elem t=some tid/\T.ty tid=some e then some (.at (.own k (off+l.toNat) (h.toNat-l.toNat))) else none
  |_=>none
 | .at (.data _ .str s)=>if T.ty t=some .str then some (.at (.data true .str (s.extract l.toNat h.toNat))) else none
 |_=>none
variable (T:Tab) (Γ:Env)
def Ac6 (op:BinOp) (t:TypeId) (x y:AV) (K:AV->Prop):Prop:=
 match op,x,y with
 | .quo, .at (.data _ (.int k) a), .at (.data _ (.int k') b)=>if k=k' then b≠0/\K (.at (.data true (.int k) (k.wrap (a.tdiv b)))) else False
 | .rem, .at (.data _ (.int k) a), .at (.data _ (.int k') b)=>if k=k' then b≠0/\K (.at (.data true (.int k) (a.tmod b))) else False
 | .shl, .at (.data _ (.int k) a), .at (.data _ (.int _) b)=> ¬b<0/\K (.at (.data true (.int k) (k.wrap (a*2^(min b.toNat k.bits)))))
 | .shr, .at (.data _ (.int k) a), .at (.data _ (.int _) b)=> ¬b<0/\K (.at (.data true (.int k) (a.fdiv (2^(min b.toNat k.bits)))))
 | .add, .at (.data _ .str a), .at (.data _ .str b)=>a.size+b.size<=4294967296/\K (.at (.data true .str (a++b)))
 |op,x,y=>Ha (Sy T op t x y) K
def TZ (st:St) (t:TypeId) (p:AV) (K:AV->Prop):Prop:=
 match p with
 | .at (.Jm l i)=>Ha (T.ty t) λτ=>match st.at l with
  |some (.arr fr _ e _ xs)=>if e=τ then ∃x,xs[i]?=some x/\K (.at (.data (fr||e.flat) e x)) else False
  |some (.Gg e _ xs)=>if e=τ then ∃x,xs[i]?=some x/\K (if e.Ap then .agg (eC l i 0 e x) else .at ((eC l i 0 e x).headD .undef)) else False
  |some (.Bo _ _ _ none _)=>if τ.Ap then False else K (.at (.sub l i 0))
  |_=>False
 | .at (.data fr (.optr Nx) x)=>Ha (T.ty t) λτ=>if Nx=τ then ∃y,x=some y/\K (.at (.data (fr||Nx.flat) Nx y)) else False
 |p=>Ha (Pq T st t p) K
def kv (s:TypeId) (x:AV) (f:Nat) (K:AV->Prop):Prop:=
 match x with
 | .at (.data fr (.optr τ) x)=> ∃y,x=some y/\Ha (Nr T s (.at (.data fr (.ptr τ) y)) f) K
 |x=>Ha (Nr T s x f) K
def vz (st:St) (x:Operand) (K:AV->Prop) (d:Option AV):Prop:=
 match st.ev x with
 | .at (.data fr (.optr τ) x)=> ∃y,x=some y/\K (.at (.data fr (.ptr τ) y))
 |_=>Ha d K
def IS (st:St) (t:TypeId) (x:AV) (lo hi:Option AV) (K:AV->Prop):Prop:=
 Ha (AP x) λn=>Ha (QS lo 0) λl=>Ha (QS hi n) λh=>(0<=l/\l<=h/\h<=n)/\Ha (Aef T st t x l h) K
def kC (st:St) (t:TypeId) (x i:AV) (K:AV->Prop):Prop:=
 match x,i with
 | .at (.data fr (.slice e) xs), .at (.data _ (.int _) n)=>if (T.elem t).bind T.ty=some e then ∃x,idx xs n=some x/\K (.at (.data fr (.ptr e) x)) else False
 | .at (.own l off len), .at (.data _ (.int _) n)=>match st.at l with
  |some (.arr _ _ e tid _)=>if T.elem t=some tid/\T.ty tid=some e then (0<=n/\n<len)/\K (.at (.Jm l (off+n.toNat))) else False
  |some (.Gg e tid _)=>if T.elem t=some tid/\T.ty tid=some e then (0<=n/\n<len)/\K (.at (.Jm l (off+n.toNat))) else False
  |some (.Bo _ te _ _ _)=>if T.elem t=some te/\(T.ty te).map Ty.size=some 1 then (0<=n/\n<len)/\K (.at (.Jm l (off+n.toNat))) else False
  |_=>False
 | .at (.sub l i _), .at (.data _ (.int _) n)=>match st.at l with
  |some (.Bo e _ rows none _)=>if ((T.elem t).bind T.ty).map Ty.size=some e.size then (0<=n/\n<(rows.getD i []).length)/\K (.at (.Jj l i n.toNat)) else False
  |_=>False
 |_,_=>False
def GN (t:TypeId) (x i:AV) (K:AV->Prop):Prop:=
 match x,i with
 | .at (.data _ .str s), .at (.data _ (.int _) n)=>if T.ty t=some .str then 0<=n/\ ∃b,s[n.toNat]?=some b/\K (.at (.data true (.int .u8) b.toNat)) else False
 |_,_=>False
def uC (st:St) (f:FuncId) (args:List AV) (K:AV->Prop):Prop:=
 Ha (match Γ f with|some (.q s)=>some s|_=>none) λs=>match s.fresh||s.res.flat||args.all (·.settled) with
  |true=>Ha (Dq st s.arg args) λp=> ∃y,s.fn p.2=some y/\K (if s.Gh then .ay (s.fresh||s.res.flat) s.res y else .at (.data (s.fresh||s.res.flat) s.res y))
  |false=>False
def FC (st:St) (v:AV) (args:List AV) (K:AV->Prop):Prop:=
 match v with
 | .at (.data fr (.clo f τ) x)=>match τ.chain with|true=>(match Nat.blt f 1000000000 with|true=>uC Γ st f (args++aH fr τ x) K|false=>uC Γ st (f-1000000000) (aH fr τ x++args) K)|false=>False
 | .at (.clo f Dz)=>uC Γ st f (args++Dz.map λp=> .at (.Gp p.1 p.2)) K
 |_=>False
def qW (w:WS) (o:Oper) (K:AV->WS->Prop):Prop:=
 match o.op with
 | .pick c a b=>brO w c λt w'=>match t with|true=>K (w'.st.ev a) w'|false=>K (w'.st.ev b) w'
 | .load t a=>TZ T w.st t (w.st.ev a) λv=>K v w
 | .binOp op t x y _=>Ac6 T op t (w.st.ev x) (w.st.ev y) λv=>K v w
 | .slice t x lo hi mx=>match mx with
  |none=>IS T w.st t (w.st.ev x) (lo.map w.st.ev) (hi.map w.st.ev) λv=>K v w
  |some _=>False
 | .indexAddr t x i=>kC T w.st t (nD (w.st.ev x)) (w.st.ev i) λv=>K v w
 | .index t x i=>GN T t (w.st.ev x) (w.st.ev i) λv=>K v w
 | .call {callee:= .value (.func f),args, .. } =>uC Γ w.st f (args.toList.map w.st.ev) λv=>K v w
 | .call {callee:= .value (.tmp t),args, .. } =>FC Γ w.st (w.st.get t) (args.toList.map w.st.ev) λv=>K v w
 | .fieldAddr s x f=>kv T s (w.st.ev x) f λv=>K v w
 | .nilCheck x=>vz w.st x (λv=>K v w) (Eu T Γ w.st o)
 |_=>Ha (Eu T Γ w.st o) λv=>K v w
def JB (st:St) (t:TypeId) (p v:AV) (K:St->Prop):Prop:=
 match p with
 | .at (.Jm l j)=>Ha (T.ty t) λτ=>Ha (settle st v) λq=>match q.2.at l with
  |some (.arr fr tr e tid xs)=>Ha (Ff q.2 τ q.1) λu=>if h:τ=e then j<xs.length/\K (q.2.Ji l (.arr (fr&&u.1) (tr&&(Sr st v&&e.tree)) e tid (xs.set j (h▸u.2)))) else False
  |_=>False
 |p=>Ha (Tz T st t p v) K
def LZ (st:St) (t:TypeId) (p v:AV) (K:St->Prop):Prop:=
 match p with
 | .at (.Jj l i j)=>Ha (T.ty t) λτ=>Ha (settle st v) λq=>match q.2.at l with
  |some (.Bo e te rows none kp)=>Ha (Ff q.2 τ q.1) λu=>if h:τ=e then K (q.2.Ji l (.Bo e te (rows.set i ((rows.getD i []).set j (h▸u.2))) none kp)) else False
  |_=>False
 | .at (.Jm l j)=>Ha (T.ty t) λτ=>match st.at l,v with
  |some (.Bo e te rows out kp), .at (.own m off len)=>match st.at m with
   |some (.arr _ _ e' _ xs)=>if h:e'=e/\(Nat.blt l Bl&&(!Nat.beq m l&&!τ.Ap))=true then
     off=0/\len=xs.length/\(match out with|none=>True|some i=>i=j)/\K (Sx st l j m e te rows (h.1▸xs) (aV j kp))
    else False
   |_=>False
  |_,_=>False
 |_=>False
def yt (st:St) (t:TypeId) (p v:AV) (K:St->Prop):Prop:=match KL st p with
 |true=>LZ T st t p v K
 |false=>JB T st t p v K
def l9 (st:St) (dst:Nat) (t:TypeId) (x y:Operand) (K:AV->St->Prop):Prop:=
 Ha (T.elem t) λte=>Ha (T.ty te) λe=>Ha (settle st (st.ev y)) λq=>Ha (Ff q.2 (.slice e) q.1) λu=>match q.2.ev x with
  | .at .Ln=>match Nat.blt dst Bl with
   |true=>List.length u.2<=Dd/\K (.at (.own dst 0 (List.length u.2))) ((q.2.new dst (.arr (T.sS||e.flat) T.z8 e te [])).new dst (.arr ((T.sS||e.flat)&&(u.1||e.flat)) (T.z8&&(e.flat||(Sr st (st.ev y)&&e.tree))) e te u.2))
   |false=>False
  | .at (.own l off len)=>match q.2.at l with
   |some (.arr fr tr e' tid xs)=>if h:e'=e/\tid=te/\Nat.blt l Bl=true then
     off=0/\len=xs.length/\len+List.length u.2<=Dd/\K (.at (.own l 0 (List.length ((h.1▸xs:List e.den)++u.2)))) (q.2.new l (.arr (fr&&(u.1||e.flat)) (tr&&(e.flat||(Sr st (st.ev y)&&e.tree))) e te ((h.1▸xs:List e.den)++u.2)))
    else False
   |_=>False
  |_=>False
def qa (st:St) (dst:Nat) (t:TypeId) (x y:Operand) (K:AV->St->Prop):Prop:=
 match x with
 | .tmp tx=>match st.get tx with
  | .at (.sub l i _)=>Ha (T.elem t) λtid=>match st.at l with
   |some (.Bo e te rows none kp)=>match Nat.blt l Bl&&(Nat.blt dst Bl&&!Nat.beq dst l) with
    |true=>l9 T ((Pp st l i dst e te tid rows kp).put (some tx) (.at (.own dst 0 (rows.getD i []).length))) dst t x y K
    |false=>False
   |_=>False
  |_=>l9 T st dst t x y K
 |_=>l9 T st dst t x y K
def UC (st:St) (dst:Nat) (t:TypeId) (l c:AV) (K:AV->St->Prop):Prop:=
 match l,c with
 | .at (.data _ (.int _) n), .at (.data _ (.int _) m)=>Ha (T.elem t) λte=>Ha (T.ty te) λe=>match eL e&&Nat.blt dst Bl with
  |true=>(0<=n/\n<Dd+1)/\n=m/\K (.at (.own dst 0 (List.replicate n.toNat e.zero).length)) (st.new dst (.arr (T.sS||e.flat) (T.z8&&e.tree) e te (List.replicate n.toNat e.zero)))
  |false=>False
 |_,_=>False
def HD (st:St) (dst:Nat) (t:TypeId) (l c:AV) (K:AV->St->Prop):Prop:=
 match cO T t with
 |none=>UC T st dst t l c K
 |some p=>match l,c with
  | .at (.data _ (.int _) n), .at (.data _ (.int _) m)=>match Nat.blt dst Bl with
   |true=>(0<=n/\n<Dd+1)/\n=m/\K (.at (.own dst 0 (List.replicate n.toNat ([]:List p.2.den)).length)) (Qj st dst dst (.Bo p.2 p.1 (List.replicate n.toNat []) none none))
   |false=>False
  |_,_=>False
def dF (st:St) (dst:Nat) (t:TypeId) (len:Nat) (parts:Array (Nat×Operand)) (K:AV->St->Prop):Prop:=
 match cO T t with
 |none=>Ha (Mc T st dst t len parts) λr=>K r.1 r.2
 |some p=>match parts.toList with
  | [(0,x)]=>match st.ev x with
   | .at (.own m off ln)=>match st.at m with
    |some (.arr _ _ e' _ xs)=>if h:e'=p.2/\(Nat.beq len 1&&(Nat.blt dst Bl&&Nat.blt m Bl))=true then off=0/\ln=xs.length/\K (.at (.own dst 0 1)) (Qj st dst m (.Bo p.2 p.1 [h.1▸xs] none none)) else False
    |_=>False
   |_=>False
  |_=>False
def qc (st:St) (dst:Nat) (t:TypeId) (x y:Operand) (K:AV->St->Prop):Prop:=
 match cO T t with
 |none=>qa T st dst t x y K
 |some p=>match st.ev x,st.ev y with
  | .at (.own l off len), .at (.own m UJ rj)=>match st.at l,st.at m with
   |some (.Bo e1 te1 A none _),some (.Bo e2 uc B none _)=>
    if h:(e1=p.2/\e2=p.2)/\(decide (te1=p.1)&&decide (uc=p.1)&&(Nat.blt l Bl&&(Nat.blt m Bl&&!Nat.beq m l)))=true then
     (off=0/\len=A.length)/\(UJ=0/\rj=B.length)/\0<B.length/\A.length+B.length<=Dd/\
      K (.at (.own l 0 (List.length ((h.1.1▸A:List (List p.2.den))++(h.1.2▸B:List (List p.2.den)))))) (Qj st l m (.Bo p.2 p.1 ((h.1.1▸A:List (List p.2.den))++(h.1.2▸B:List (List p.2.den))) none none))
    else False
   |_,_=>False
  |_,_=>False
def eF (st:St) (io:Bool) (k:Nat):(c:CK)->AC->(c.den->List (Nat×Loc)->Prop)->Prop
 | .Hx τ, .own l off len,K=>Ha (Dk st τ (.own l off len)) λp=>K p.2 [(Dr false k, .view l)]
 | .Hx τ, .clo g Dz,K=>match bj st (Dz.map (·.1))&&!τ.Ap with
  |true=>Ha (Jg st τ (.clo g Dz)) λp=>K p.2 (views k (Dz.map (·.1)))
  |false=>False
 | .Hx τ, .Gp l i,K=>match bj st [l]&&!τ.Ap with
  |true=>Ha (Jg st τ (.Gp l i)) λp=>K p.2 (views k [l])
  |false=>False
 | .Hx τ, .sub l i c,K=>Ha (Dk st τ (.sub l i c)) λp=>K p.2 [(Dr false k, .view l)]
 | .Hx τ,a,K=>match τ.flat||a.settled with
  |true=>Ha (Dk st τ a) λp=>K p.2 []
  |false=>False
 | .row e te, .own l off len,K=>match st.at l with
  |some (.arr _ _ e' Qr xs)=>if h:e'=e/\Qr=te then off=0/\len=xs.length/\K (h.1▸xs:List e.den) [(Dr io k, .row l)] else False
  |_=>False
 | .row e _, .sub l i c,K=>match st.at l with
  |some (.Gg e' _ xs)=>if h:e'= .slice e/\e.flat=true/\io=true/\c=0 then ∃y,xs[i]?=some y/\K (h.1▸y:(Ty.slice e).den) [(Dr io k, .sub l i c)] else False
  |_=>False
 | .row _ _, .Ln,K=>K [] []
 | .Gz e te, .own l off len,K=>match st.at l with
  |some (.Gg e' Qr xs)=>if h:e'=e/\Qr=te then off=0/\len=xs.length/\K (h.1▸xs:List e.den) [(Dr io k, .row l)] else False
  |_=>False
 | .Gz e _, .sub l i c,K=>match st.at l with
  |some (.Gg e' _ xs)=>if h:e'= .slice e/\io=true/\c=0 then ∃y,xs[i]?=some y/\K (h.1▸y:(Ty.slice e).den) [(Dr io k, .sub l i c)] else False
  |_=>False
 | .Gz _ _, .Ln,K=>K [] []
 | .part e te, .own l off len,K=>match st.at l with
  |some (.arr _ _ e' Qr xs)=>if h:e'=e/\Qr=te/\e.flat=true/\io=true then K ((h.1▸xs:List e.den),off,len) [(Dr io k, .row l)] else False
  |_=>False
 | .Bo e te _, .own l off len,K=>match st.at l with
  |some (.Bo e' Qr rows none _)=>if h:e'=e/\Qr=te/\io=false then off=0/\len=rows.length/\K (h.1▸rows:List (List e.den)) [(Dr io k, .row l)] else False
  |_=>False
 |_,_,_=>False
def yI (st:St):(k:Nat)->(cs:List (Bool×CK))->List AC->(Ins.den cs->List (Nat×Loc)->Prop)->Prop
 |_,[],[],K=>K () []
 |k,p::r,a::as,K=>eF st p.1 k p.2 a λx t1=>yI st (k+1) r as λy t2=>K (x,y) (t1++t2)
 |_,_,_,_=>False
def oG (st:St):(c:CK)->c.den->AC->(St->Prop)->Prop
 | .row e _,ys, .own l _ len,K=>match st.at l with
  |some (.arr fr tr e' te xs)=>if h:e=e' then (List.length ys=len/\xs.length=len)/\K (st.Ji l (.arr (fr&&e'.flat) (tr&&e'.flat) e' te (h▸ys))) else False
  |_=>False
 | .Gz e _,ys, .own l _ len,K=>match st.at l with
  |some (.Gg e' te xs)=>if h:e=e' then (List.length ys=len/\xs.length=len)/\K (st.Ji l (.Gg e' te (h▸ys))) else False
  |_=>False
 | .row e _,ys, .sub l i _,K=>match st.at l with
  |some (.Gg e' te xs)=>if h: .slice e=e' then ∃y,xs[i]?=some y/\List.length ys=List.length (h▸y:(Ty.slice e).den)/\K (st.Ji l (.Gg e' te (xs.set i (h▸(ys:(Ty.slice e).den))))) else False
  |_=>False
 | .Gz e _,ys, .sub l i _,K=>match st.at l with
  |some (.Gg e' te xs)=>if h: .slice e=e' then ∃y,xs[i]?=some y/\List.length ys=List.length (h▸y:(Ty.slice e).den)/\K (st.Ji l (.Gg e' te (xs.set i (h▸(ys:(Ty.slice e).den))))) else False
  |_=>False
 |_,_, .Ln,K=>K st
 |_,_,_,_=>False
def VD (st:St) (e:Ty) (ys:List e.den):AC->(St->Prop)->Prop
 | .own l _ _,K=>match st.at l with
  |some (.arr fr tr e' te xs)=>if h:e=e' then List.length ys=xs.length/\K (st.Ji l (.arr fr tr e' te (h▸ys))) else False
  |_=>False
 |_,_=>False
def gS:(cs:List (Bool×CK))->IOs.den cs->List AC->St->(St->Prop)->Prop
 | [],_,_,st,K=>K st
 |(true, .Hx _)::r,x,_::as,st,K=>gS r x as st K
 |(true, .row e te)::r,x,a::as,st,K=>oG st (.row e te) x.1 a λst'=>gS r x.2 as st' K
 |(true, .Gz e te)::r,x,a::as,st,K=>oG st (.Gz e te) x.1 a λst'=>gS r x.2 as st' K
 |(true, .part e _)::r,x,a::as,st,K=>VD st e x.1 a λst'=>gS r x.2 as st' K
 |(true, .Bo _ _ _)::r,x,_::as,st,K=>gS r x as st K
 |(false,_)::r,x,_::as,st,K=>gS r x as st K
 |_,_,_,_,_=>False
def sC (H:List (Nat×OB)) (ls:List Nat) (n:Nat):List AV->Prop->Prop
 | [],K=>K
 | .at (.sub l i _)::r,K=>match ls.contains l with
  |true=>(i<n/\i<pJ H l)/\sC H ls n r K
  |false=>sC H ls n r K
 |_::r,K=>sC H ls n r K
def FB (st:St) (dst:Option Nat) (s:MSpec) (args:List AV) (K:AV->St->Prop):Prop:=
 Ha (LR st s args) λq=>Ha (ungroup s.Ih q.2.2) λmK=>yI st 0 s.ins (q.2.1++mK) λx tks=>
  match Zc (tks.map λt=>t.2.Vx)&&xf (Rn s tks (dst.getD 0)) (s.outs.length+(kS s (dst.getD 0)).length)&&Nat.blt s.outs.length 1000&&Nat.blt s.ins.length 1000&&(Vi s.ins q.2.1&&q.1.all λl=>!((tks.map λt=>t.2.Vx)++Rn s tks (dst.getD 0)).contains l) with
  |true=> ∃p,s.fn x=some p/\gS s.ins p.2 (q.2.1++mK) st λst1=>Ha (ZQ s (dst.getD 0) ((aY (Dy (Rn s tks (dst.getD 0))) 0 s.outs p.1).drop s.Zp)) λv=>
    sC (kd st st1 (dst.getD 0) s q.1 tks p.1).heap (aT st.heap (Rn s tks (dst.getD 0)) tks s.keeps) (s.Fb x) st.tmps
     (K v (kD st (kd st st1 (dst.getD 0) s q.1 tks p.1) (aT st.heap (Rn s tks (dst.getD 0)) tks s.keeps) (s.Fb x)))
  |false=>False
def ZF (w:WS) (o:Oper) (K:AV->WS->Prop):Prop:=
 match o.op with
 | .store t p x=>yt T (Ob T w.st p x) t ((Ob T w.st p x).ev p) ((Ob T w.st p x).ev x) λs=>K .undef (w.to s)
 | .makeSlice t l c=>Ha o.dst λd=>HD T w.st d t (w.st.ev l) (w.st.ev c) λv s=>K v (w.to s)
 | .call {callee:= .builtin .append,args,argTypes} =>match o.dst,args.toList,argTypes.toList with
  |some d,[x,y],[t,t']=>if t=t' then qc T w.st d t x y λv s=>K v (w.to s) else False
  |_,_,_=>False
 | .assign _=>Ha (evalOp T Γ w.st o) λr=>K r.1 (w.to r.2)
 | .alloc _=>Ha (evalOp T Γ w.st o) λr=>K r.1 (w.to r.2)
 | .box _ _=>Ha (evalOp T Γ w.st o) λr=>K r.1 (w.to r.2)
 | .buildSlice t len parts=>Ha o.dst λd=>dF T w.st d t len parts λv s=>K v (w.to s)
 | .build _ _=>Ha (evalOp T Γ w.st o) λr=>K r.1 (w.to r.2)
 | .makeMap _ _=>Ha (evalOp T Γ w.st o) λr=>K r.1 (w.to r.2)
 | .mapUpdate _ _ _ _=>Ha (evalOp T Γ w.st o) λr=>K r.1 (w.to r.2)
 | .insert _ _ _ _=>Ha (evalOp T Γ w.st o) λr=>K r.1 (w.to r.2)
 | .call {callee:= .builtin .copy, .. } =>Ha (evalOp T Γ w.st o) λr=>K r.1 (w.to r.2)
 | .call {callee:= .builtin .clear, .. } =>Ha (evalOp T Γ w.st o) λr=>K r.1 (w.to r.2)
 | .call {callee:= .value (.func f),args, .. } =>match Γ f with
  |some (.m s)=>FB w.st o.dst s (args.toList.map w.st.ev) λv s'=>K v (w.to s')
  |some (.q s)=>match dZ s (args.toList.map w.st.ev) with
   |true=>Ha (Mx args.toList w.st) λst1=>qW T Γ (w.to st1) o K
   |false=>qW T Γ w o K
  |_=>qW T Γ w o K
 |_=>qW T Γ w o K
def AV.TV:AV->Bool
 | .at .skip=>true
 |_=>false
def bW (w:WS) (o:Oper) (K:AV->WS->Prop):Prop:=
 match o.op with
 | .buildSlice t len parts=>Ha (aJ T w.st t len parts) λv=>K v w
 | .build t parts=>Ha (Wq T w.st t parts) λv=>K v w
 |_=>qW T Γ w o K
def im (ops:Array Oper) (w:WS) (o:Oper) (run:(AV->WS->Prop)->WS->Prop) (K:WS->Prop):Prop:=
 match o.guard with
 |none=>run (λv w'=>K (w'.tS o v)) w
 |some (j,want)=>Ha ((ops[j]?).bind (·.dst)) λt=>match (w.st.get t).TV with
  |true=>K (w.put o.dst (.at .skip))
  |false=>brT w t λb w'=>match b,want with
   |true,true=>run (λv oW=>K (oW.tS o v)) w'
   |false,false=>run (λv oW=>K (oW.tS o v)) w'
   |_,_=>K (w'.put o.dst (.at .skip))
def Ae2 (ops:Array Oper):List Oper->WS->(WS->Prop)->Prop
 | [],w,K=>K w
 |o::r,w,K=>im ops w o (λk w'=>ZF T Γ w' o k) λw'=>Ae2 ops r w' K
def TN (ops:Array Oper):List Nat->WS->(WS->Prop)->Prop
 | [],w,K=>K w
 |i::r,w,K=>Ha ops[i]? λo=>im ops w o (λk w'=>ZF T Γ w' o k) λw'=>TN ops r w' K
def jv (ops:Array Oper):List Nat->WS->(WS->Prop)->Prop
 | [],w,K=>K w
 |i::r,w,K=>Ha ops[i]? λo=>im ops w o (λk w'=>bW T Γ w' o k) λw'=>jv ops r w' K
def RK:List Nat->(Nat->Prop)->Prop
 | [],_=>True
 | [i],P=>P i
 |i::j::r,P=>P i/\RK (j::r) P
def MI (ops:Array Oper):Nat->Array Bool->WS->(WS->Prop)->Prop
 |0,Af,w,K=>match Region.ready .any ops Af with
  | []=>K w
  |_::_=>False
 |f+1,Af,w,K=>match Region.ready .any ops Af with
  | []=>False
  |i::r=>RK (i::r) λk=>Ha ops[k]? λo=>im ops w o (λkk w'=>ZF T Γ w' o kk) λw'=>MI ops f (Af.setIfInBounds k true) w' K
def acV:AC->Type->Type
 | .data _ τ _,R=>τ.den×R
 | .sub _ _ _,R=>Nat×R
 | .Jm _ _,R=>Nat×R
 | .Jj _ _ _,R=>Nat×Nat×R
 |_,R=>R
def ET:List AC->Type->Type
 | [],R=>R
 |c::r,R=>acV c (ET r R)
def avV:AV->Type->Type
 | .at a,R=>acV a R
 | .agg cs,R=>ET cs R
 | .ay _ τ _,R=>τ.den×R
 | .Mh _,R=>R
def obV:OB->Type->Type
 | .arr _ _ e _ _,R=>List e.den×R
 | .Gg e _ _,R=>List e.den×R
 | .var _ vs,R=>ET vs R
 | .Bo e _ _ _ none,R=>List (List e.den)×R
 | .Bo e _ _ _ (some _),R=>List (List e.den)×(Nat×R)
 | .Ur v _,R=>(ByteArray->Option v.den)×R
def oU:List AV->Type->Type
 | [],R=>R
 |v::r,R=>avV v (oU r R)
def uN:List (Nat×OB)->Type->Type
 | [],R=>R
 |p::r,R=>obV p.2 (uN r R)
def stV (s:St):Type:=oU s.tmps (uN s.heap Unit)
def JY:(c:AC)-> {R:Type} ->R->acV c R
 | .data _ _ x,_,r=>(x,r)
 | .undef,_,r=>r
 | .skip,_,r=>r
 | .Ln,_,r=>r
 | .Up,_,r=>r
 | .own _ _ _,_,r=>r
 | .Gp _ _,_,r=>r
 | .Jm _ i,_,r=>(i,r)
 | .clo _ _,_,r=>r
 | .Jt _,_,r=>r
 | .sub _ i _,_,r=>(i,r)
 | .Jj _ i j,_,r=>(i,j,r)
def q7:(l:List AC)-> {R:Type} ->R->ET l R
 | [],_,r=>r
 |c::l,_,r=>JY c (q7 l r)
def Aaf:(c:AV)-> {R:Type} ->R->avV c R
 | .at a,_,r=>JY a r
 | .agg cs,_,r=>q7 cs r
 | .ay _ _ x,_,r=>(x,r)
 | .Mh _,_,r=>r
def Abs:(b:OB)-> {R:Type} ->R->obV b R
 | .arr _ _ _ _ xs,_,r=>(xs,r)
 | .Gg _ _ xs,_,r=>(xs,r)
 | .var _ vs,_,r=>q7 vs r
 | .Bo _ _ rows _ none,_,r=>(rows,r)
 | .Bo _ _ rows _ (some p),_,r=>(rows,p.2,r)
 | .Ur _ m,_,r=>(m,r)
def pS:(l:List AV)-> {R:Type} ->R->oU l R
 | [],_,r=>r
 |c::l,_,r=>Aaf c (pS l r)
def pL:(l:List (Nat×OB))-> {R:Type} ->R->uN l R
 | [],_,r=>r
 |p::l,_,r=>Abs p.2 (pL l r)
def LX (s:St):stV s:=pS s.tmps (pL s.heap ())
def mO:(c d:AC)-> {R:Type} ->R->Option (acV c R)
 | .data fr τ _, .data Vc Nx x,_,r=>if h:Nx=τ/\Vc=fr then some (h.1▸x,r) else none
 | .undef, .undef,_,r=>some r
 | .skip, .skip,_,r=>some r
 | .Ln, .Ln,_,r=>some r
 | .Up, .Up,_,r=>some r
 | .own l _ _, .own l' _ _,_,r=>if l=l' then some r else none
 | .Gp l i, .Gp l' i',_,r=>if l=l'/\i=i' then some r else none
 | .Jm l _, .Jm l' i',_,r=>if l=l' then some (i',r) else none
 | .clo f c, .clo f' c',_,r=>if f=f'/\c=c' then some r else none
 | .Jt l, .Jt l',_,r=>if l=l' then some r else none
 | .sub l _ c, .sub l' i' c',_,r=>if l=l'/\c=c' then some (i',r) else none
 | .Jj l _ _, .Jj l' i' j',_,r=>if l=l' then some (i',j',r) else none
 |_,_,_,_=>none
def Rl:(l m:List AC)-> {R:Type} ->R->Option (ET l R)
 | [],[],_,r=>some r
 |c::l,d::m,_,r=>(Rl l m r).bind λr'=>mO c d r'
 |_,_,_,_=>none
def ki:(c d:AV)-> {R:Type} ->R->Option (avV c R)
 | .at a, .at b,_,r=>mO a b r
 | .agg cs, .agg ds,_,r=>Rl cs ds r
 | .ay fr τ _, .ay Vc Nx x,_,r=>if h:Nx=τ/\Vc=fr then some (h.1▸x,r) else none
 |_,_,_,_=>none
def Sl:(b d:OB)-> {R:Type} ->R->Option (obV b R)
 | .arr fr tr e tid _, .arr Vc WG e' Tw xs,_,r=>if h:e'=e/\Vc=fr/\WG=tr/\Tw=tid then some (h.1▸xs,r) else none
 | .Gg e tid _, .Gg e' Tw xs,_,r=>if h:e'=e/\Tw=tid then some (h.1▸xs,r) else none
 | .Ur v _, .Ur v' m,_,r=>if h:v'=v then some (h▸m,r) else none
 | .var t vs, .var t' us,_,r=>if t'=t then Rl vs us r else none
 | .Bo e te _ out none, .Bo e' Qr rows Uq none,_,r=>if h:e'=e/\Qr=te/\Uq=out then some (h.1▸rows,r) else none
 | .Bo e te _ out (some p), .Bo e' Qr rows Uq (some p'),_,r=>if h:e'=e/\Qr=te/\Uq=out/\p'.1=p.1 then some (h.1▸rows,p'.2,r) else none
 |_,_,_,_=>none
def On:(l m:List AV)-> {R:Type} ->R->Option (oU l R)
 | [],[],_,r=>some r
 |c::l,d::m,_,r=>(On l m r).bind λr'=>ki c d r'
 |_,_,_,_=>none
def Pr:(l m:List (Nat×OB))-> {R:Type} ->R->Option (uN l R)
 | [],[],_,r=>some r
 |p::l,q::m,_,r=>if q.1=p.1 then (Pr l m r).bind λr'=>Sl p.2 q.2 r' else none
 |_,_,_,_=>none
def ik (s t:St):Option (stV s):=(Pr s.heap t.heap ()).bind λr=>On s.tmps t.tmps r
def kc:(c:AC)-> {R:Type} ->acV c R->AC×R
 | .data fr τ _,_,v=>(.data fr τ v.1,v.2)
 | .undef,_,r=>(.undef,r)
 | .skip,_,r=>(.skip,r)
 | .Ln,_,r=>(.Ln,r)
 | .Up,_,r=>(.Up,r)
 | .own l off len,_,r=>(.own l off len,r)
 | .Gp l i,_,r=>(.Gp l i,r)
 | .Jm l _,_,v=>(.Jm l v.1,v.2)
 | .clo f c,_,r=>(.clo f c,r)
 | .Jt l,_,r=>(.Jt l,r)
 | .sub l _ c,_,v=>(.sub l v.1 c,v.2)
 | .Jj l _ _,_,v=>(.Jj l v.1 v.2.1,v.2.2)
def Zr:(l:List AC)-> {R:Type} ->ET l R->List AC×R
 | [],_,r=>([],r)
 |c::l,_,v=>((kc c v).1::(Zr l (kc c v).2).1,(Zr l (kc c v).2).2)
def qf:(c:AV)-> {R:Type} ->avV c R->AV×R
 | .at a,_,v=>(.at (kc a v).1,(kc a v).2)
 | .agg cs,_,v=>(.agg (Zr cs v).1,(Zr cs v).2)
 | .ay fr τ _,_,v=>(.ay fr τ v.1,v.2)
 | .Mh l,_,r=>(.Mh l,r)
def rK:(b:OB)-> {R:Type} ->obV b R->OB×R
 | .arr fr tr e tid _,_,v=>(.arr fr tr e tid v.1,v.2)
 | .Gg e tid _,_,v=>(.Gg e tid v.1,v.2)
 | .Ur w _,_,v=>(.Ur w v.1,v.2)
 | .var t vs,_,v=>(.var t (Zr vs v).1,(Zr vs v).2)
 | .Bo e te _ out none,_,v=>(.Bo e te v.1 out none,v.2)
 | .Bo e te _ out (some p),_,v=>(.Bo e te v.1 out (some (p.1,v.2.1)),v.2.2)
def Vr:(l:List AV)-> {R:Type} ->oU l R->List AV×R
 | [],_,r=>([],r)
 |c::l,_,v=>((qf c v).1::(Vr l (qf c v).2).1,(Vr l (qf c v).2).2)
def cR:(l:List (Nat×OB))-> {R:Type} ->uN l R->List (Nat×OB)×R
 | [],_,r=>([],r)
 |p::l,_,v=>((p.1,(rK p.2 v).1)::(cR l (rK p.2 v).2).1,(cR l (rK p.2 v).2).2)
def ij (s:St) (v:stV s):St:= {tmps:=(Vr s.tmps v).1,heap:=(cR s.heap (Vr s.tmps v).2).1}
def lenOf (H:List (Nat×OB)) (l:Nat):Nat:=match At H l with|some (.arr _ _ _ _ xs)=>xs.length|some (.Gg _ _ xs)=>xs.length|some (.Bo _ _ rows _ _)=>rows.length|_=>0
def Yy (ps:List Nat):List AV->List (Nat×Nat×Nat)
 | []=> []
 | .at (.own l off len)::r=>if ps.contains l then (l,off,len)::Yy ps r else Yy ps r
 |_::r=>Yy ps r
def Ae0:List (Nat×Nat×Nat)->Nat->Nat
 | [],_=>0
 |(k,o,_)::r,l=>if k=l then o else Ae0 r l
def NP:List (Nat×Nat×Nat)->List (Nat×OB)->Nat->Nat
 | [],H,l=>lenOf H l
 |(k,_,n)::r,H,l=>if k=l then n else NP r H l
def eK (B:List (Nat×Nat×Nat)) (H:List (Nat×OB)):AC->AC
 | .own l _ _=> .own l (Ae0 B l) (NP B H l)
 |c=>c
def St.whole (B:List (Nat×Nat×Nat)) (s:St):St:=s.Km (eK B s.heap)
def wu (B:List (Nat×Nat×Nat)) (H:List (Nat×OB)) (c:AC) (K:Prop):Prop:=match c with
 | .own l off len=>off=Ae0 B l/\len=NP B H l/\K
 |_=>K
def cC (B:List (Nat×Nat×Nat)) (H:List (Nat×OB)):List AC->Prop->Prop
 | [],K=>K
 |c::r,K=>wu B H c (cC B H r K)
def KA (B:List (Nat×Nat×Nat)) (H:List (Nat×OB)) (c:AV) (K:Prop):Prop:=match c with
 | .at a=>wu B H a K
 | .agg cs=>cC B H cs K
 | .ay _ _ _=>K
 | .Mh _=>False
def aw (B:List (Nat×Nat×Nat)) (H:List (Nat×OB)):List AV->Prop->Prop
 | [],K=>K
 |c::r,K=>KA B H c (aw B H r K)
def iI (B:List (Nat×Nat×Nat)) (H:List (Nat×OB)):List (Nat×OB)->Prop->Prop
 | [],K=>K
 |p::r,K=>match p.2 with
  | .var _ vs=>cC B H vs (iI B H r K)
  |_=>iI B H r K
def yo (B:List (Nat×Nat×Nat)) (s:St) (K:Prop):Prop:=aw B s.heap s.tmps (iI B s.heap s.heap K)
def AV.Xb:AV->Bool
 | .at (.data _ _ _)=>true
 |_=>false
def Js (p:Nat->Bool):Nat->List AV->List Bool
 |_,[]=> []
 |i,v::r=>(v.Xb&&p i)::Js p (i+1) r
def stays (live:Nat->List Nat) (c:Code) (t:Nat):Bool:=!(writes c).contains t&&aS live c t
def Ta:List Bool->List AV->List AV
 |true::f,_::r=> .undef::Ta f r
 |false::f,v::r=>v::Ta f r
 |_,l=>l
def Uf:List Bool->List AV->List AV->List AV
 |true::f,a::s,_::r=>a::Uf f s r
 |false::f,_::s,v::r=>v::Uf f s r
 |_,_,l=>l
def St.mask (fx:List Bool) (s:St):St:= {tmps:=Ta fx s.tmps,heap:=s.heap}
def St.tH (fx:List Bool) (s0 s:St):St:= {tmps:=Uf fx s0.tmps s.tmps,heap:=s.heap}
def pG (c:AC) (k:AC->Prop):Prop:=match c with
 | .undef=>k .undef
 | .skip=>k .skip
 | .Ln=>k .Ln
 | .Up=>k .Up
 | .data fr τ x=>match fr with
  |true=>k (.data true τ x)
  |false=>k (.data false τ x)
 | .own l off len=>k (.own l off len)
 | .Gp l i=>k (.Gp l i)
 | .Jm l i=>k (.Jm l i)
 | .clo f c=>k (.clo f c)
 | .Jt l=>k (.Jt l)
 | .sub l i c=>k (.sub l i c)
 | .Jj l i c=>k (.Jj l i c)
def gu:List AC->(List AC->Prop)->Prop
 | [],k=>k []
 |c::r,k=>pG c λc'=>gu r λr'=>k (c'::r')
def wR (c:AV) (k:AV->Prop):Prop:=match c with
 | .at a=>pG a λa'=>k (.at a')
 | .agg cs=>gu cs λgh=>k (.agg gh)
 | .ay fr τ x=>k (.ay fr τ x)
 | .Mh l=>k (.Mh l)
def gw:List AV->(List AV->Prop)->Prop
 | [],k=>k []
 |c::r,k=>wR c λc'=>gw r λr'=>k (c'::r')
def wS (b:OB) (k:OB->Prop):Prop:=match b with
 | .arr fr tr e tid xs=>match fr,tr with
  |true,true=>k (.arr true true e tid xs)
  |true,false=>k (.arr true false e tid xs)
  |false,true=>k (.arr false true e tid xs)
  |false,false=>k (.arr false false e tid xs)
 | .Gg e tid xs=>k (.Gg e tid xs)
 | .var t vs=>gu vs λvs'=>k (.var t vs')
 | .Bo e te rows out kp=>match out,kp with
  |none,none=>k (.Bo e te rows none none)
  |none,some (l,n)=>k (.Bo e te rows none (some (l,n)))
  |some i,none=>k (.Bo e te rows (some i) none)
  |some i,some (l,n)=>k (.Bo e te rows (some i) (some (l,n)))
 | .Ur v m=>k (.Ur v m)
def qI:List (Nat×OB)->(List (Nat×OB)->Prop)->Prop
 | [],k=>k []
 |(l,b)::r,k=>wS b λb'=>qI r λr'=>k ((l,b')::r')
def Zb (w:WS) (k:WS->Prop):Prop:=gw w.st.tmps λt=>qI w.st.heap λh=>k {kn:=w.kn,st:= {tmps:=t,heap:=h} }
def mZ (s:St) (k:St->Prop):Prop:=gw s.tmps λt=>qI s.heap λh=>k {tmps:=t,heap:=h}
def dM:List Bool->(List Bool->Prop)->Prop
 | [],k=>k []
 |true::r,k=>dM r λr'=>k (true::r')
 |false::r,k=>dM r λr'=>k (false::r')
theorem oc {c:AC} {k:AC->Prop} :pG c k↔k c:=by
 cases c<;>simp only [pG]
 split<;>rfl
theorem dK: ∀ {l:List AC} {k:List AC->Prop},gu l k↔k l
 | [],k=>Iff.rfl
 |c::r,k=>by simp only [gu];rw [oc,dK]
theorem zT {c:AV} {k:AV->Prop} :wR c k↔k c:=by
 cases c<;>simp only [wR]
 ·exact oc
 ·exact dK
theorem dL: ∀ {l:List AV} {k:List AV->Prop},gw l k↔k l
 | [],k=>Iff.rfl
 |c::r,k=>by simp only [gw];rw [zT,dL]
theorem zU {b:OB} {k:OB->Prop} :wS b k↔k b:=by
 cases b<;>simp only [wS]
 ·split<;>rfl
 ·exact dK
 ·split<;>rfl
theorem ky: ∀ {l:List (Nat×OB)} {k:List (Nat×OB)->Prop},qI l k↔k l
 | [],k=>Iff.rfl
 |(l,b)::r,k=>by simp only [qI];rw [zU,ky]
theorem MX {s:St} {k:St->Prop} :mZ s k=k s:=by
 unfold mZ
 exact propext (by rw [dL,ky])
theorem dN: ∀ {l:List Bool} {k:List Bool->Prop},dM l k=k l
 | [],k=>rfl
 |true::r,k=>by simp only [dM];rw [dN]
 |false::r,k=>by simp only [dM];rw [dN]
theorem Ns {w:WS} {k:WS->Prop} :Zb w k↔k w:=by
 unfold Zb
 rw [dL,ky]
def aD:AC->List (Nat×Nat)
 | .own _ off len=> [(off,len)]
 |_=> []
def aF:AV->List (Nat×Nat)
 | .at a=>aD a
 | .agg cs=>cs.flatMap aD
 |_=> []
def kL:OB->List (Nat×Nat)
 | .var _ vs=>vs.flatMap aD
 |_=> []
def IZ (s:St):List (Nat×Nat):=s.tmps.flatMap aF++s.heap.flatMap λp=>kL p.2
def eqW (s0 s:St):Prop:=IZ s=IZ s0/\Ha (ik s0 s) λv=>v=LX s0
def aN (ops:Array Oper):Nat->Array Bool->WS->(WS->Prop)->Prop
 |0,Af,w,K=>match Region.ready .any ops Af with
  | []=>K w
  |_::_=>False
 |f+1,Af,w,K=>match Region.ready .any ops Af with
  | []=>False
  |k::_=>Ha ops[k]? λo=>im ops w o (λkk w'=>ZF T Γ w' o kk) λw'=>aN ops f (Af.setIfInBounds k true) w' K
def zh (P:List (Nat×Nat×AV×OB)) (ops:Array Oper):Nat->Array Bool->WS->(WS->Prop)->Prop
 |0,Af,w,K=>match Region.ready .any ops Af with
  | []=>K w
  |_::_=>False
 |f+1,Af,w,K=>match Region.ready .any ops Af with
  | []=>False
  |i::r=>RK (i::r) λk=>Ha ops[k]? λo=>match HJ P Γ ops w.st o k with
   |true=>im ops w o (λkk w'=>ZF T Γ w' o kk) λw'=>zh P ops f (Af.setIfInBounds k true) w' K
   |false=>False
def vZ (ops:Array Oper) (E:List Nat) (Af:Array Bool) (w:WS):List Nat->Prop->Prop
 | [],K=>K
 |r::R,K=>match pT ops E Af r with
  |true=>vZ ops E Af w R K
  |false=>(jv T Γ ops [r] w λw'=>Ha ((ops[r]?).bind (·.dst)) λd=>match Nat.blt d w.st.tmps.length with
    |true=>eqW ⟨[w.st.get d],[]⟩ ⟨[w'.st.get d],[]⟩
    |false=>False)/\vZ ops E Af w R K
def q8 (ops:Array Oper) (E:List Nat):Nat->Array Bool->WS->(WS->Prop)->Prop
 |0,Af,w,K=>vZ T Γ ops E Af w E (match Region.ready .any ops Af with
  | []=>K w
  |_::_=>False)
 |f+1,Af,w,K=>vZ T Γ ops E Af w E (match Region.ready .any ops Af with
  | []=>False
  |i::r=>RK (i::r) λk=>Ha ops[k]? λo=>im ops w o (λkk w'=>ZF T Γ w' o kk) λw'=>q8 ops E f (Af.setIfInBounds k true) w' K)
def ID (E:List Nat) (n:Nat) (L0:Array Bool) (ops:Array Oper) (w:WS) (K:WS->Prop):Prop:=
 match bM ops E L0&&(Nat.ble E.length n&&Nat.ble (n-E.length) 10) with
 |true=>jv T Γ ops E w λw1=>Zb w1 λw1=>aN T Γ ops (n-E.length) (Ef E L0) w1 λw0=>Zb w0 λw0=>K w0/\q8 T Γ ops E (n-E.length) (Ef E L0) w1 λw2=>Zb w2 λw2=>eqW w0.st w2.st
 |false=>False
def wB (P:List (Nat×Nat×AV×OB)) (n:Nat) (L0:Array Bool) (ops:Array Oper) (w:WS) (K:WS->Prop):Prop:=
 match (Zc (P.map (·.1))&&Zc (P.map (·.2.1)))&&((P.all λa=>nv a.2.1 w.st)&&(Nat.ble P.length n&&Nat.ble (n-P.length) 10)) with
 |true=>TN T Γ ops (P.map (·.1)) w λw1=>Zb w1 λw1=>aN T Γ ops (n-P.length) (Ef (P.map (·.1)) L0) w1 λw0=>Zb w0 λw0=>K w0/\zh T Γ P ops (n-P.length) (Ef (P.map (·.1)) L0) w1 λw2=>eqW w0.st w2.st
 |false=>ID T Γ (iO ops (List.range ops.size) L0) n L0 ops w K
def gN:Nat:=800000000
def BR (ops:Array Oper):Nat->Array Bool->Bool
 |0,Af=>(Region.ready .any ops Af).isEmpty
 |f+1,Af=>match Region.ready .any ops Af with
  | [i]=>BR ops f (Af.setIfInBounds i true)
  |_=>false
def LQ (ops:Array Oper) (L0:Array Bool):List Nat:=iO ops (List.range ops.size) L0
def vA (ops:Array Oper):Array Bool:=Ef (Ju ops) (Array.replicate ops.size false)
def UK (ops:Array Oper):Bool:=Region.noSelect ops&&(bM ops (LQ ops (vA ops)) (vA ops)&&(Nat.ble (LQ ops (vA ops)).length (ops.size-(Ju ops).length)&&Nat.ble ((ops.size-(Ju ops).length)-(LQ ops (vA ops)).length) 10))
def eqM (fx:List Bool) (s0 s:St):Prop:=eqW (s0.mask fx) (s.mask fx)
def Sa (ops:Array Oper) (t:Nat):Bool:=!Xs ops t
def sM (ops:Array Oper):List Nat:=(ops.toList.filterMap λo=>match o.op with
 | .alloc _=>none
 | .box _ _=>none
 | .assign _=>none
 |_=>o.dst).filter λd=>ops.toList.any λo=>(o.looksAt ops).contains d
def WS.Pv (dead:List Nat) (w:WS):WS:= {kn:=w.kn.filter λp=>!dead.contains p.1,st:=w.st.Pv dead}
def UL (dead E:List Nat) (n:Nat) (L0:Array Bool) (ops:Array Oper) (w:WS) (K:WS->Prop):Prop:=
 match bM ops E L0&&Nat.ble E.length n with
 |true=>jv T Γ ops E w λw1=>Zb w1 λw1=>match BR ops (n-E.length) (Ef E L0) with
  |true=>q8 T Γ ops E (n-E.length) (Ef E L0) w1 λw2=>K (w2.Pv dead)
  |false=>dM (Js (Sa ops) 0 w1.st.tmps) λfx=>aN T Γ ops (n-E.length) (Ef E L0) w1 λw0=>Zb (w0.Pv dead) λw0=>K w0/\q8 T Γ ops E (n-E.length) (Ef E L0) w1 λw2=>Zb (w2.Pv dead) λw2=>eqM fx w0.st w2.st
 |false=>False
def pQ (ops:Array Oper) (draw:Bool) (w:WS) (K:WS->Prop):Prop:=
 match draw with
 |true=>match bL false Γ ops with
  |true=>jv T Γ ops (iH false Γ ops) w λw'=>TN T Γ ops (Iy false Γ ops) w' K
  |false=>match bL true Γ ops with
   |true=>jv T Γ ops (iH true Γ ops) w λw'=>TN T Γ ops (Iy true Γ ops) w' K
   |false=>match Region.noSelect ops&&Nat.ble (ops.size-(Ju ops).length) 8 with
    |true=>jv T Γ ops (Ju ops) w λw'=>match iF false ops&&!T.marks.contains gN with
     |true=>MI T Γ ops (ops.size-(Ju ops).length) (Ef (Ju ops) (Array.replicate ops.size false)) w' K
     |false=>aN T Γ ops (ops.size-(Ju ops).length) (Ef (Ju ops) (Array.replicate ops.size false)) w' λw0=>Zb w0 λw0=>K w0/\MI T Γ ops (ops.size-(Ju ops).length) (Ef (Ju ops) (Array.replicate ops.size false)) w' λw1=>eqW w0.st w1.st
    |false=>match Region.noSelect ops with
     |true=>jv T Γ ops (Ju ops) w λw'=>wB T Γ (Yg T ops (Ef (Ju ops) (Array.replicate ops.size false))) (ops.size-(Ju ops).length) (Ef (Ju ops) (Array.replicate ops.size false)) ops w' K
     |false=>False
 |false=>Ae2 T Γ ops ops.toList w K
def xR (ops:Array Oper) (draw:Bool) (w:WS) (K:WS->Prop):Prop:=
 match T.marks.contains gN&&(sM ops).all (Xs ops) with
 |true=>match draw&&(!(bL false Γ ops||bL true Γ ops)&&UK ops) with
  |true=>jv T Γ ops (Ju ops) w λw'=>UL T Γ (sM ops) (LQ ops (vA ops)) (ops.size-(Ju ops).length) (vA ops) ops w' K
  |false=>pQ T Γ ops draw w λw'=>K (w'.Pv (sM ops))
 |false=>pQ T Γ ops draw w K
def cF (live:Nat->List Nat):Code->WS->(Lc->WS->Prop)->Prop
 | .skip,w,Q=>Q .normal w
 | .label _,w,Q=>Q .normal w
 | .region _ ops draw,w,Q=>xR T (xQ Γ draw) ops draw {w with st:=w.st.lp ops} λw'=>Zb w' (Q .normal)
 | .seq a b,w,Q=>cF live a w λe w'=>match e with
  | .normal=>cF live b w' Q
  | .exit id=>Q (.exit id) w'
  | .ret=>Q .ret w'
 | .cond c a b,w,Q=>brO w c λt w'=>match t with
  |true=>cF live a w' Q
  |false=>cF live b w' Q
 | .block id c,w,Q=>cF live c w λe w'=>match e with
  | .normal=>Q .normal w'
  | .exit NK=>if NK=id then Q .normal w' else Q (.exit NK) w'
  | .ret=>Q .ret w'
 | .loop c,w,Q=>
  mZ (w.st.clean (live (Es c))) λs0=>dM (Js (stays live c) 0 s0.tmps) λfx=>mZ (s0.mask fx) λm=>
  yo (Yy T.parts s0.tmps) s0 (Dt (V:=stV m) (λv k=>mZ ((St.tH fx s0 (ij m v)).whole (Yy T.parts s0.tmps)) λsb=>cF live c ⟨[],sb⟩ λe w'=>match e with
   | .normal=>mZ (w'.st.clean (live (Es c))) λs1=>yo (Yy T.parts s0.tmps) s1 (Ha (ik m (s1.mask fx)) k)
   | .exit id=>Q (.exit id) w'
   | .ret=>Q .ret w') (LX m))
 | .exit id,w,Q=>Q (.exit id) w
 | .ret,w,Q=>Q .ret w
 |_,_,_=>False
def Ac9 (s:Spec) (fn:Func) (P:s.res.den->Prop) (st:St):Prop:=
 Ha (lD T s fn st) λp=>match p.1||!s.fresh with|true=>P p.2|false=>False
def gJ (st:St) (K:Prop):List AC->List (Bool×CK)->Prop
 | .own l off len::as,(true,_)::r=>match st.at l with
  |some (.arr _ _ _ _ xs)=>(off=0/\len=xs.length)/\gJ st K as r
  |some (.Gg _ _ xs)=>(off=0/\len=xs.length)/\gJ st K as r
  |_=>False
 |_::as,(false,_)::r=>gJ st K as r
 |_,_=>K
def ny (st:St):(cs:List CK)->List AC->(CKs.den cs->List Nat->Prop)->Prop
 | [],[],K=>K () []
 | .Bo e te _::r, .own l off len::as,K=>match st.at l with
  |some (.Bo e' Qr rows none _)=>if h:e'=e/\Qr=te then (off=0/\len=rows.length)/\ny st r as λy t=>K ((h.1▸rows:List (List e.den)),y) (l::t) else False
  |_=>False
 |c::r,a::as,K=>Ha (jd st c a) λp=>ny st r as λy t=>K (p.1,y) (p.2++t)
 |_,_,_=>False
def xe (st:St) (n:Nat) (as:List AC):List (Nat×Nat)->Prop->Prop
 | [],K=>K
 |(k,j)::r,K=>match as[j]? with
  |some (.own l _ _)=>match st.at l with
   |some (.Bo _ _ _ _ (some p))=>match Nat.beq p.1 (Dr false k)&&Nat.blt k 1000 with
    |true=>n<=p.2/\xe st n as r K
    |false=>False
   |_=>False
  |_=>False
def s6 (s:MSpec) (fn:Func) (x:Ins.den s.ins) (st:St) (cs:List AC) (P:CKs.den s.outs×IOs.den s.ins->Prop):Prop:=
 Ha (ck T st fn.results.toList) λl=>Ha (IH s st l) λp=>ny st s.outs (cs++p.1) λr ls=>Ha (Od st 0 s.ins) λo=>
  match Zc (p.2++ls++Pg 0 s.ins)&&Nat.blt s.ins.length 1000&&Nat.blt s.outs.length 1000&&s.UE with
  |true=>xe st (s.Fb x) (cs++p.1) s.keeps (P (r,o))
  |false=>False
def LS (s:MSpec) (fn:Func) (x:Ins.den s.ins) (st:St) (P:CKs.den s.outs×IOs.den s.ins->Prop):Prop:=
 match s.ptr with
 |none=>s6 T s fn x st [] P
 |some p=>match st.at Oo with
  |some (.var tid vs)=>match Nat.beq tid p.1&&Nat.beq vs.length p.2 with
   |true=>Ha (Is 0 s.ins vs) λcs=>gJ st (s6 T s fn x st cs P) vs s.ins
   |false=>False
  |_=>False
@[irreducible] def fnMW (s:MSpec) (fn:Func) (x:Ins.den s.ins) (P:CKs.den s.outs×IOs.den s.ins->Prop):Prop:=
 match Nat.blt s.ins.length 1000&&xK s with
 |false=>False
 |true=>Ha fn.body λc=>cF T Γ (xl T.marks fn c) c {kn:= [],st:= {tmps:=Zm s (aR 0 s.ins x)++List.replicate (fn.ntmps-(Zm s (aR 0 s.ins x)).length) .undef,heap:=ou s x} } λe w=>match e with
  | .normal=>LS T s fn x w.st P
  | .ret=>LS T s fn x w.st P
  | .exit _=>False
@[irreducible] def fnW (s:Spec) (fn:Func) (x:s.arg.den) (P:s.res.den->Prop):Prop:=
 Ha fn.body λc=>cF T Γ (xl T.marks fn c) c {kn:= [],st:= {tmps:=Sf s.arg x++List.replicate (fn.ntmps-(Sf s.arg x).length) .undef,heap:= []} } λe w=>match e with
  | .normal=>Ac9 T s fn P w.st
  | .ret=>Ac9 T s fn P w.st
  | .exit _=>False
end Go.Proofs.Ytkkdpknjohcekaa
