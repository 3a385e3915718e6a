/-
  Part 31 of the proof that the statement FnMethods holds.
-/
import Derived.Test.YtkkdpknjohcekaaGreatCFMethods29
namespace Go.Proofs.YtkkdpknjohcekaaGreat
open Go.RowKit
inductive Br (b:Bool) (A B:Prop):Prop
 |mk (t:b=true->A) (f:b=false->B)
inductive Dn {V:Type} (step:V->(V->Prop)->Prop) (v0:V):Prop
 |mk (I:V->Prop) (μ:V->Nat) (h0:I v0) (h: ∀v,I v->step v (λv'=>I v'/\μ v'<μ v))
structure WS where
 kn:List (Nat×Bool)
 st:St
def oa:List (Nat×Bool)->Nat->Option Bool
 | [],_=>none
 |(k,b)::r,t=>if k=t then some b else oa r t
def xV:List (Nat×Bool)->Nat->List (Nat×Bool)
 | [],_=> []
 |(k,b)::r,t=>if k=t then xV r t else (k,b)::xV r t
def WS.put (w:WS) (dst:Option Tmp) (v:AV):WS:=
 match dst with
 |some d=> {kn:=xV w.kn d,st:=w.st.put (some d) v}
 |none=>w
def Xe (kn:List (Nat×Bool)):Operand->Option Bool
 | .const (.bool b)=>some b
 | .tmp t=>oa kn t
 |_=>none
def Ij (kn:List (Nat×Bool)) (o:Oper):Option Bool:=
 match o.op with
 | .assign x=>Xe kn x
 | .move x=>Xe kn x
 | .unOp .not _ x=>(Xe kn x).map (!·)
 | .pick c a b=>match Xe kn c with
  |some true=>Xe kn a
  |some false=>Xe kn b
  |none=>none
 |_=>none
def WS.wM (w:WS) (o:Oper) (v:AV):WS:=
 match o.dst,Ij w.kn o with
 |some d,some b=>match (w.st.put (some d) v).get d with
  | .at (.data _ .bool _)=> {kn:=(d,b)::xV w.kn d,st:=w.st.put (some d) v}
  |_=>w.put (some d) v
 |dst,_=>w.put dst v
def WS.to (w:WS) (st:St):WS:= {kn:=w.kn,st:=st}
def brT (w:WS) (t:Nat) (K:Bool->WS->Prop):Prop:=
 match oa w.kn t with
 |some b=>K b w
 |none=>match w.st.get t with
  | .at (.data _ .bool b)=>Br b (K true {kn:=(t,true)::w.kn,st:=w.st}) (K false {kn:=(t,false)::w.kn,st:=w.st})
  |_=>False
def brO (w:WS) (c:Operand) (K:Bool->WS->Prop):Prop:=
 match c with
 | .tmp t=>brT w t K
 | .const (.bool b)=>K b w
 |_=>False
def Iv {α:Type} (o:Option α) (K:α->Prop):Prop:=match o with|some x=>K x|none=>False
def Ale (T:Tab) (st:St) (t:TypeId) (x:AV) (l h:Int):Option AV:=
 match x with
 | .at (.data fr (.slice e) xs)=>if (T.elem t).bind T.ty=some e then some (.at (.data fr (.slice e) ((xs.take h.toNat).drop l.toNat))) else none
 | .at (.own k off _)=>match st.at k with
  |some (.arr _ _ e tid _)=>if T.elem t=some tid/\T.ty tid=some e then some (.at (.own k (off+l.toNat) (h.toNat-l.toNat))) else none
  |_=>none
 | .at (.data _ .str s)=>if T.ty t=some .str then some (.at (.data true .str (s.extract l.toNat h.toNat))) else none
 |_=>none
variable (T:Tab) (Γ:Env)
def Aix (op:BinOp) (t:TypeId) (x y:AV) (K:AV->Prop):Prop:=
 match op,x,y with
 | .quo, .at (.data _ (.int k) a), .at (.data _ (.int k') b)=>if k=k' then b≠0/\K (.at (.data true (.int k) (k.wrap (a.tdiv b)))) else False
 | .rem, .at (.data _ (.int k) a), .at (.data _ (.int k') b)=>if k=k' then b≠0/\K (.at (.data true (.int k) (a.tmod b))) else False
 | .shl, .at (.data _ (.int k) a), .at (.data _ (.int _) b)=> ¬b<0/\K (.at (.data true (.int k) (k.wrap (a*2^(min b.toNat k.bits)))))
 | .shr, .at (.data _ (.int k) a), .at (.data _ (.int _) b)=> ¬b<0/\K (.at (.data true (.int k) (a.fdiv (2^(min b.toNat k.bits)))))
 | .add, .at (.data _ .str a), .at (.data _ .str b)=>a.size+b.size<=4294967296/\K (.at (.data true .str (a++b)))
 |op,x,y=>Iv (Uk T op t x y) K
def Ab2 (st:St) (t:TypeId) (p:AV) (K:AV->Prop):Prop:=
 match p with
 | .at (.Ld l i)=>Iv (T.ty t) λτ=>match st.at l with
  |some (.arr fr _ e _ xs)=>if e=τ then ∃x,xs[i]?=some x/\K (.at (.data (fr||e.flat) e x)) else False
  |some (.Hs e _ xs)=>if e=τ then ∃x,xs[i]?=some x/\K (if e.Ar then .agg (gn l i 0 e x) else .at ((gn l i 0 e x).headD .undef)) else False
  |some (.Bu _ _ _ none _)=>if τ.Ar then False else K (.at (.sub l i 0))
  |_=>False
 | .at (.data fr (.optr Pj) x)=>Iv (T.ty t) λτ=>if Pj=τ then ∃y,x=some y/\K (.at (.data (fr||Pj.flat) Pj y)) else False
 |p=>Iv (Qx T st t p) K
def me (s:TypeId) (x:AV) (f:Nat) (K:AV->Prop):Prop:=
 match x with
 | .at (.data fr (.optr τ) x)=> ∃y,x=some y/\Iv (Pd T s (.at (.data fr (.ptr τ) y)) f) K
 |x=>Iv (Pd T s x f) K
def yh (st:St) (x:Operand) (K:AV->Prop) (d:Option AV):Prop:=
 match st.ev x with
 | .at (.data fr (.optr τ) x)=> ∃y,x=some y/\K (.at (.data fr (.ptr τ) y))
 |_=>Iv d K
def OT (st:St) (t:TypeId) (x:AV) (lo hi:Option AV) (K:AV->Prop):Prop:=
 Iv (GK x) λn=>Iv (YH lo 0) λl=>Iv (YH hi n) λh=>(0<=l/\l<=h/\h<=n)/\Iv (Ale T st t x l h) K
def mq (st:St) (t:TypeId) (x i:AV) (K:AV->Prop):Prop:=
 match x,i with
 | .at (.data fr (.slice e) xs), .at (.data _ (.int _) n)=>if (T.elem t).bind T.ty=some e then ∃x,idx xs n=some x/\K (.at (.data fr (.ptr e) x)) else False
 | .at (.own l off len), .at (.data _ (.int _) n)=>match st.at l with
  |some (.arr _ _ e tid _)=>if T.elem t=some tid/\T.ty tid=some e then (0<=n/\n<len)/\K (.at (.Ld l (off+n.toNat))) else False
  |some (.Hs e tid _)=>if T.elem t=some tid/\T.ty tid=some e then (0<=n/\n<len)/\K (.at (.Ld l (off+n.toNat))) else False
  |some (.Bu _ te _ _ _)=>if T.elem t=some te/\(T.ty te).map Ty.size=some 1 then (0<=n/\n<len)/\K (.at (.Ld l (off+n.toNat))) else False
  |_=>False
 | .at (.sub l i _), .at (.data _ (.int _) n)=>match st.at l with
  |some (.Bu e _ rows none _)=>if ((T.elem t).bind T.ty).map Ty.size=some e.size then (0<=n/\n<(rows.getD i []).length)/\K (.at (.Ky l i n.toNat)) else False
  |_=>False
 |_,_=>False
def MN (t:TypeId) (x i:AV) (K:AV->Prop):Prop:=
 match x,i with
 | .at (.data _ .str s), .at (.data _ (.int _) n)=>if T.ty t=some .str then 0<=n/\ ∃b,s[n.toNat]?=some b/\K (.at (.data true (.int .u8) b.toNat)) else False
 |_,_=>False
def xx (st:St) (f:FuncId) (args:List AV) (K:AV->Prop):Prop:=
 Iv (match Γ f with|some (.q s)=>some s|_=>none) λs=>match s.fresh||s.res.flat||args.all (·.settled) with
  |true=>Iv (Eg st s.arg args) λp=> ∃y,s.fn p.2=some y/\K (if s.Jy then .bH (s.fresh||s.res.flat) s.res y else .at (.data (s.fresh||s.res.flat) s.res y))
  |false=>False
def LF (st:St) (v:AV) (args:List AV) (K:AV->Prop):Prop:=
 match v with
 | .at (.data fr (.clo f τ) x)=>match τ.chain with|true=>(match Nat.blt f 1000000000 with|true=>xx Γ st f (args++bS fr τ x) K|false=>xx Γ st (f-1000000000) (bS fr τ x++args) K)|false=>False
 | .at (.clo f Ev)=>xx Γ st f (args++Ev.map λp=> .at (.Ii p.1 p.2)) K
 |_=>False
def qW (w:WS) (o:Oper) (K:AV->WS->Prop):Prop:=
 match o.op with
 | .pick c a b=>brO w c λt w'=>match t with|true=>K (w'.st.ev a) w'|false=>K (w'.st.ev b) w'
 | .load t a=>Ab2 T w.st t (w.st.ev a) λv=>K v w
 | .binOp op t x y _=>Aix T op t (w.st.ev x) (w.st.ev y) λv=>K v w
 | .slice t x lo hi mx=>match mx with
  |none=>OT T w.st t (w.st.ev x) (lo.map w.st.ev) (hi.map w.st.ev) λv=>K v w
  |some _=>False
 | .indexAddr t x i=>mq T w.st t (q7 (w.st.ev x)) (w.st.ev i) λv=>K v w
 | .index t x i=>MN T t (w.st.ev x) (w.st.ev i) λv=>K v w
 | .call {callee:= .value (.func f),args, .. } =>xx Γ w.st f (args.toList.map w.st.ev) λv=>K v w
 | .call {callee:= .value (.tmp t),args, .. } =>LF Γ w.st (w.st.get t) (args.toList.map w.st.ev) λv=>K v w
 | .fieldAddr s x f=>me T s (w.st.ev x) f λv=>K v w
 | .nilCheck x=>yh w.st x (λv=>K v w) (Gf T Γ w.st o)
 |_=>Iv (Gf T Γ w.st o) λv=>K v w
def PK (st:St) (t:TypeId) (p v:AV) (K:St->Prop):Prop:=
 match p with
 | .at (.Ld l j)=>Iv (T.ty t) λτ=>Iv (settle st v) λq=>match q.2.at l with
  |some (.arr fr tr e tid xs)=>Iv (Gt q.2 τ q.1) λu=>if h:τ=e then j<xs.length/\K (q.2.Kx l (.arr (fr&&u.1) (tr&&(Ua st v&&e.tree)) e tid (xs.set j (h▸u.2)))) else False
  |_=>False
 |p=>Iv (Vq T st t p v) K
def TF (st:St) (t:TypeId) (p v:AV) (K:St->Prop):Prop:=
 match p with
 | .at (.Ky l i j)=>Iv (T.ty t) λτ=>Iv (settle st v) λq=>match q.2.at l with
  |some (.Bu e te rows none kp)=>Iv (Gt q.2 τ q.1) λu=>if h:τ=e then K (q.2.Kx l (.Bu e te (rows.set i ((rows.getD i []).set j (h▸u.2))) none kp)) else False
  |_=>False
 | .at (.Ld l j)=>Iv (T.ty t) λτ=>match st.at l,v with
  |some (.Bu e te rows out kp), .at (.own m off len)=>match st.at m with
   |some (.arr _ _ e' _ xs)=>if h:e'=e/\(Nat.blt l Bk&&(!Nat.beq m l&&!τ.Ar))=true then
     off=0/\len=xs.length/\(match out with|none=>True|some i=>i=j)/\K (Uj st l j m e te rows (h.1▸xs) (cj j kp))
    else False
   |_=>False
  |_,_=>False
 |_=>False
def CJ (st:St) (t:TypeId) (p v:AV) (K:St->Prop):Prop:=match RR st p with
 |true=>TF T st t p v K
 |false=>PK T st t p v K
def np (st:St) (dst:Nat) (t:TypeId) (x y:Operand) (K:AV->St->Prop):Prop:=
 Iv (T.elem t) λte=>Iv (T.ty te) λe=>Iv (settle st (st.ev y)) λq=>Iv (Gt q.2 (.slice e) q.1) λu=>match q.2.ev x with
  | .at .Mx=>match Nat.blt dst Bk with
   |true=>List.length u.2<=Ea/\K (.at (.own dst 0 (List.length u.2))) ((q.2.new dst (.arr (T.tq||e.flat) T.CY e te [])).new dst (.arr ((T.tq||e.flat)&&(u.1||e.flat)) (T.CY&&(e.flat||(Ua st (st.ev y)&&e.tree))) e te u.2))
   |false=>False
  | .at (.own l off len)=>match q.2.at l with
   |some (.arr fr tr e' tid xs)=>if h:e'=e/\tid=te/\Nat.blt l Bk=true then
     off=0/\len=xs.length/\len+List.length u.2<=Ea/\K (.at (.own l 0 (List.length ((h.1▸xs:List e.den)++u.2)))) (q.2.new l (.arr (fr&&(u.1||e.flat)) (tr&&(e.flat||(Ua st (st.ev y)&&e.tree))) e te ((h.1▸xs:List e.den)++u.2)))
    else False
   |_=>False
  |_=>False
def sM (st:St) (dst:Nat) (t:TypeId) (x y:Operand) (K:AV->St->Prop):Prop:=
 match x with
 | .tmp tx=>match st.get tx with
  | .at (.sub l i _)=>Iv (T.elem t) λtid=>match st.at l with
   |some (.Bu e te rows none kp)=>match Nat.blt l Bk&&(Nat.blt dst Bk&&!Nat.beq dst l) with
    |true=>np T ((Qw st l i dst e te tid rows kp).put (some tx) (.at (.own dst 0 (rows.getD i []).length))) dst t x y K
    |false=>False
   |_=>False
  |_=>np T st dst t x y K
 |_=>np T st dst t x y K
def Ab8 (st:St) (dst:Nat) (t:TypeId) (l c:AV) (K:AV->St->Prop):Prop:=
 match l,c with
 | .at (.data _ (.int _) n), .at (.data _ (.int _) m)=>Iv (T.elem t) λte=>Iv (T.ty te) λe=>match gB e&&Nat.blt dst Bk with
  |true=>(0<=n/\n<Ea+1)/\n=m/\K (.at (.own dst 0 (List.replicate n.toNat e.zero).length)) (st.new dst (.arr (T.tq||e.flat) (T.CY&&e.tree) e te (List.replicate n.toNat e.zero)))
  |false=>False
 |_,_=>False
def MY (st:St) (dst:Nat) (t:TypeId) (l c:AV) (K:AV->St->Prop):Prop:=
 match eu T t with
 |none=>Ab8 T st dst t l c K
 |some p=>match l,c with
  | .at (.data _ (.int _) n), .at (.data _ (.int _) m)=>match Nat.blt dst Bk with
   |true=>(0<=n/\n<Ea+1)/\n=m/\K (.at (.own dst 0 (List.replicate n.toNat ([]:List p.2.den)).length)) (Ry st dst dst (.Bu p.2 p.1 (List.replicate n.toNat []) none none))
   |false=>False
  |_,_=>False
def fo (st:St) (dst:Nat) (t:TypeId) (len:Nat) (parts:Array (Nat×Operand)) (K:AV->St->Prop):Prop:=
 match eu T t with
 |none=>Iv (Nj T st dst t len parts) λr=>K r.1 r.2
 |some p=>match parts.toList with
  | [(0,x)]=>match st.ev x with
   | .at (.own m off ln)=>match st.at m with
    |some (.arr _ _ e' _ xs)=>if h:e'=p.2/\(Nat.beq len 1&&(Nat.blt dst Bk&&Nat.blt m Bk))=true then off=0/\ln=xs.length/\K (.at (.own dst 0 1)) (Ry st dst m (.Bu p.2 p.1 [h.1▸xs] none none)) else False
    |_=>False
   |_=>False
  |_=>False
def sO (st:St) (dst:Nat) (t:TypeId) (x y:Operand) (K:AV->St->Prop):Prop:=
 match eu T t with
 |none=>sM T st dst t x y K
 |some p=>match st.ev x,st.ev y with
  | .at (.own l off len), .at (.own m Abg u9)=>match st.at l,st.at m with
   |some (.Bu e1 te1 A none _),some (.Bu e2 x5 B none _)=>
    if h:(e1=p.2/\e2=p.2)/\(decide (te1=p.1)&&decide (x5=p.1)&&(Nat.blt l Bk&&(Nat.blt m Bk&&!Nat.beq m l)))=true then
     (off=0/\len=A.length)/\(Abg=0/\u9=B.length)/\0<B.length/\A.length+B.length<=Ea/\
      K (.at (.own l 0 (List.length ((h.1.1▸A:List (List p.2.den))++(h.1.2▸B:List (List p.2.den)))))) (Ry st l m (.Bu p.2 p.1 ((h.1.1▸A:List (List p.2.den))++(h.1.2▸B:List (List p.2.den))) none none))
    else False
   |_,_=>False
  |_,_=>False
def gr (st:St) (io:Bool) (k:Nat):(c:CK)->AC->(c.den->List (Nat×Loc)->Prop)->Prop
 | .Hw τ, .own l off len,K=>Iv (Ec st τ (.own l off len)) λp=>K p.2 [(Ee false k, .view l)]
 | .Hw τ, .clo g Ev,K=>match cE st (Ev.map (·.1))&&!τ.Ar with
  |true=>Iv (Kw st τ (.clo g Ev)) λp=>K p.2 (views k (Ev.map (·.1)))
  |false=>False
 | .Hw τ, .Ii l i,K=>match cE st [l]&&!τ.Ar with
  |true=>Iv (Kw st τ (.Ii l i)) λp=>K p.2 (views k [l])
  |false=>False
 | .Hw τ, .sub l i c,K=>Iv (Ec st τ (.sub l i c)) λp=>K p.2 [(Ee false k, .view l)]
 | .Hw τ,a,K=>match τ.flat||a.settled with
  |true=>Iv (Ec st τ a) λp=>K p.2 []
  |false=>False
 | .row e te, .own l off len,K=>match st.at l with
  |some (.arr _ _ e' Se xs)=>if h:e'=e/\Se=te then off=0/\len=xs.length/\K (h.1▸xs:List e.den) [(Ee io k, .row l)] else False
  |_=>False
 | .row e _, .sub l i c,K=>match st.at l with
  |some (.Hs e' _ xs)=>if h:e'= .slice e/\e.flat=true/\io=true/\c=0 then ∃y,xs[i]?=some y/\K (h.1▸y:(Ty.slice e).den) [(Ee io k, .sub l i c)] else False
  |_=>False
 | .row _ _, .Mx,K=>K [] []
 | .Iu e te, .own l off len,K=>match st.at l with
  |some (.Hs e' Se xs)=>if h:e'=e/\Se=te then off=0/\len=xs.length/\K (h.1▸xs:List e.den) [(Ee io k, .row l)] else False
  |_=>False
 | .Iu e _, .sub l i c,K=>match st.at l with
  |some (.Hs e' _ xs)=>if h:e'= .slice e/\io=true/\c=0 then ∃y,xs[i]?=some y/\K (h.1▸y:(Ty.slice e).den) [(Ee io k, .sub l i c)] else False
  |_=>False
 | .Iu _ _, .Mx,K=>K [] []
 | .part e te, .own l off len,K=>match st.at l with
  |some (.arr _ _ e' Se xs)=>if h:e'=e/\Se=te/\e.flat=true/\io=true then K ((h.1▸xs:List e.den),off,len) [(Ee io k, .row l)] else False
  |_=>False
 | .Bu e te _, .own l off len,K=>match st.at l with
  |some (.Bu e' Se rows none _)=>if h:e'=e/\Se=te/\io=false then off=0/\len=rows.length/\K (h.1▸rows:List (List e.den)) [(Ee io k, .row l)] else False
  |_=>False
 |_,_,_=>False
def CX (st:St):(k:Nat)->(cs:List (Bool×CK))->List AC->(Ins.den cs->List (Nat×Loc)->Prop)->Prop
 |_,[],[],K=>K () []
 |k,p::r,a::as,K=>gr st p.1 k p.2 a λx t1=>CX st (k+1) r as λy t2=>K (x,y) (t1++t2)
 |_,_,_,_=>False
def rf (st:St):(c:CK)->c.den->AC->(St->Prop)->Prop
 | .row e _,ys, .own l _ len,K=>match st.at l with
  |some (.arr fr tr e' te xs)=>if h:e=e' then (List.length ys=len/\xs.length=len)/\K (st.Kx l (.arr (fr&&e'.flat) (tr&&e'.flat) e' te (h▸ys))) else False
  |_=>False
 | .Iu e _,ys, .own l _ len,K=>match st.at l with
  |some (.Hs e' te xs)=>if h:e=e' then (List.length ys=len/\xs.length=len)/\K (st.Kx l (.Hs e' te (h▸ys))) else False
  |_=>False
 | .row e _,ys, .sub l i _,K=>match st.at l with
  |some (.Hs e' te xs)=>if h: .slice e=e' then ∃y,xs[i]?=some y/\List.length ys=List.length (h▸y:(Ty.slice e).den)/\K (st.Kx l (.Hs e' te (xs.set i (h▸(ys:(Ty.slice e).den))))) else False
  |_=>False
 | .Iu e _,ys, .sub l i _,K=>match st.at l with
  |some (.Hs e' te xs)=>if h: .slice e=e' then ∃y,xs[i]?=some y/\List.length ys=List.length (h▸y:(Ty.slice e).den)/\K (st.Kx l (.Hs e' te (xs.set i (h▸(ys:(Ty.slice e).den))))) else False
  |_=>False
 |_,_, .Mx,K=>K st
 |_,_,_,_=>False
def Ac6 (st:St) (e:Ty) (ys:List e.den):AC->(St->Prop)->Prop
 | .own l _ _,K=>match st.at l with
  |some (.arr fr tr e' te xs)=>if h:e=e' then List.length ys=xs.length/\K (st.Kx l (.arr fr tr e' te (h▸ys))) else False
  |_=>False
 |_,_=>False
def jB:(cs:List (Bool×CK))->IOs.den cs->List AC->St->(St->Prop)->Prop
 | [],_,_,st,K=>K st
 |(true, .Hw _)::r,x,_::as,st,K=>jB r x as st K
 |(true, .row e te)::r,x,a::as,st,K=>rf st (.row e te) x.1 a λst'=>jB r x.2 as st' K
 |(true, .Iu e te)::r,x,a::as,st,K=>rf st (.Iu e te) x.1 a λst'=>jB r x.2 as st' K
 |(true, .part e _)::r,x,a::as,st,K=>Ac6 st e x.1 a λst'=>jB r x.2 as st' K
 |(true, .Bu _ _ _)::r,x,_::as,st,K=>jB r x as st K
 |(false,_)::r,x,_::as,st,K=>jB r x as st K
 |_,_,_,_,_=>False
def vE (H:List (Nat×OB)) (ls:List Nat) (n:Nat):List AV->Prop->Prop
 | [],K=>K
 | .at (.sub l i _)::r,K=>match ls.contains l with
  |true=>(i<n/\i<sm H l)/\vE H ls n r K
  |false=>vE H ls n r K
 |_::r,K=>vE H ls n r K
def LD (st:St) (dst:Option Nat) (s:MSpec) (args:List AV) (K:AV->St->Prop):Prop:=
 Iv (SZ st s args) λq=>Iv (ungroup s.Kn q.2.2) λp7=>CX st 0 s.ins (q.2.1++p7) λx tks=>
  match aD (tks.map λt=>t.2.Xu)&&AA (Tc s tks (dst.getD 0)) (s.outs.length+(mJ s (dst.getD 0)).length)&&Nat.blt s.outs.length 1000&&Nat.blt s.ins.length 1000&&(Wz s.ins q.2.1&&q.1.all λl=>!((tks.map λt=>t.2.Xu)++Tc s tks (dst.getD 0)).contains l) with
  |true=> ∃p,s.fn x=some p/\jB s.ins p.2 (q.2.1++p7) st λst1=>Iv (Agb s (dst.getD 0) ((cn (Er (Tc s tks (dst.getD 0))) 0 s.outs p.1).drop s.Yc)) λv=>
    vE (lX st st1 (dst.getD 0) s q.1 tks p.1).heap (cg st.heap (Tc s tks (dst.getD 0)) tks s.keeps) (s.Gj x) st.tmps
     (K v (mr st (lX st st1 (dst.getD 0) s q.1 tks p.1) (cg st.heap (Tc s tks (dst.getD 0)) tks s.keeps) (s.Gj x)))
  |false=>False
def opW (w:WS) (o:Oper) (K:AV->WS->Prop):Prop:=
 match o.op with
 | .store t p x=>CJ T (Pp T w.st p x) t ((Pp T w.st p x).ev p) ((Pp T w.st p x).ev x) λs=>K .undef (w.to s)
 | .makeSlice t l c=>Iv o.dst λd=>MY T w.st d t (w.st.ev l) (w.st.ev c) λv s=>K v (w.to s)
 | .call {callee:= .builtin .append,args,argTypes} =>match o.dst,args.toList,argTypes.toList with
  |some d,[x,y],[t,t']=>if t=t' then sO T w.st d t x y λv s=>K v (w.to s) else False
  |_,_,_=>False
 | .assign _=>Iv (evalOp T Γ w.st o) λr=>K r.1 (w.to r.2)
 | .alloc _=>Iv (evalOp T Γ w.st o) λr=>K r.1 (w.to r.2)
 | .box _ _=>Iv (evalOp T Γ w.st o) λr=>K r.1 (w.to r.2)
 | .buildSlice t len parts=>Iv o.dst λd=>fo T w.st d t len parts λv s=>K v (w.to s)
 | .build _ _=>Iv (evalOp T Γ w.st o) λr=>K r.1 (w.to r.2)
 | .makeMap _ _=>Iv (evalOp T Γ w.st o) λr=>K r.1 (w.to r.2)
 | .mapUpdate _ _ _ _=>Iv (evalOp T Γ w.st o) λr=>K r.1 (w.to r.2)
 | .insert _ _ _ _=>Iv (evalOp T Γ w.st o) λr=>K r.1 (w.to r.2)
 | .call {callee:= .builtin .copy, .. } =>Iv (evalOp T Γ w.st o) λr=>K r.1 (w.to r.2)
 | .call {callee:= .builtin .clear, .. } =>Iv (evalOp T Γ w.st o) λr=>K r.1 (w.to r.2)
 | .call {callee:= .value (.func f),args, .. } =>match Γ f with
  |some (.m s)=>LD w.st o.dst s (args.toList.map w.st.ev) λv s'=>K v (w.to s')
  |some (.q s)=>match fN s (args.toList.map w.st.ev) with
   |true=>Iv (Oi args.toList w.st) λst1=>qW T Γ (w.to st1) o K
   |false=>qW T Γ w o K
  |_=>qW T Γ w o K
 |_=>qW T Γ w o K
def AV.Aax:AV->Bool
 | .at .skip=>true
 |_=>false
def bW (w:WS) (o:Oper) (K:AV->WS->Prop):Prop:=
 match o.op with
 | .buildSlice t len parts=>Iv (bX T w.st t len parts) λv=>K v w
 | .build t parts=>Iv (Yk T w.st t parts) λv=>K v w
 |_=>qW T Γ w o K
def jW (ops:Array Oper) (w:WS) (o:Oper) (run:(AV->WS->Prop)->WS->Prop) (K:WS->Prop):Prop:=
 match o.guard with
 |none=>run (λv w'=>K (w'.wM o v)) w
 |some (j,want)=>Iv ((ops[j]?).bind (·.dst)) λt=>match (w.st.get t).Aax with
  |true=>K (w.put o.dst (.at .skip))
  |false=>brT w t λb w'=>match b,want with
   |true,true=>run (λv rG=>K (rG.wM o v)) w'
   |false,false=>run (λv rG=>K (rG.wM o v)) w'
   |_,_=>K (w'.put o.dst (.at .skip))
def Akx (ops:Array Oper):List Oper->WS->(WS->Prop)->Prop
 | [],w,K=>K w
 |o::r,w,K=>jW ops w o (λk w'=>opW T Γ w' o k) λw'=>Akx ops r w' K
def Aao (ops:Array Oper):List Nat->WS->(WS->Prop)->Prop
 | [],w,K=>K w
 |i::r,w,K=>Iv ops[i]? λo=>jW ops w o (λk w'=>opW T Γ w' o k) λw'=>Aao ops r w' K
def ll (ops:Array Oper):List Nat->WS->(WS->Prop)->Prop
 | [],w,K=>K w
 |i::r,w,K=>Iv ops[i]? λo=>jW ops w o (λk w'=>bW T Γ w' o k) λw'=>ll ops r w' K
def ZB:List Nat->(Nat->Prop)->Prop
 | [],_=>True
 | [i],P=>P i
 |i::j::r,P=>P i/\ZB (j::r) P
def TO (ops:Array Oper):Nat->Array Bool->WS->(WS->Prop)->Prop
 |0,Ag,w,K=>match Region.ready .any ops Ag with
  | []=>K w
  |_::_=>False
 |f+1,Ag,w,K=>match Region.ready .any ops Ag with
  | []=>False
  |i::r=>ZB (i::r) λk=>Iv ops[k]? λo=>jW ops w o (λkk w'=>opW T Γ w' o kk) λw'=>TO ops f (Ag.setIfInBounds k true) w' K
def acV:AC->Type->Type
 | .data _ τ _,R=>τ.den×R
 | .sub _ _ _,R=>Nat×R
 | .Ld _ _,R=>Nat×R
 | .Ky _ _ _,R=>Nat×Nat×R
 |_,R=>R
def KT:List AC->Type->Type
 | [],R=>R
 |c::r,R=>acV c (KT r R)
def avV:AV->Type->Type
 | .at a,R=>acV a R
 | .agg cs,R=>KT cs R
 | .bH _ τ _,R=>τ.den×R
 | .Nr _,R=>R
def obV:OB->Type->Type
 | .arr _ _ e _ _,R=>List e.den×R
 | .Hs e _ _,R=>List e.den×R
 | .var _ vs,R=>KT vs R
 | .Bu e _ _ _ none,R=>List (List e.den)×R
 | .Bu e _ _ _ (some _),R=>List (List e.den)×(Nat×R)
 | .Wi v _,R=>(ByteArray->Option v.den)×R
def rE:List AV->Type->Type
 | [],R=>R
 |v::r,R=>avV v (rE r R)
def xH:List (Nat×OB)->Type->Type
 | [],R=>R
 |p::r,R=>obV p.2 (xH r R)
def stV (s:St):Type:=rE s.tmps (xH s.heap Unit)
def QT:(c:AC)-> {R:Type} ->R->acV c R
 | .data _ _ x,_,r=>(x,r)
 | .undef,_,r=>r
 | .skip,_,r=>r
 | .Mx,_,r=>r
 | .Wh,_,r=>r
 | .own _ _ _,_,r=>r
 | .Ii _ _,_,r=>r
 | .Ld _ i,_,r=>(i,r)
 | .clo _ _,_,r=>r
 | .Lk _,_,r=>r
 | .sub _ i _,_,r=>(i,r)
 | .Ky _ i j,_,r=>(i,j,r)
def sJ:(l:List AC)-> {R:Type} ->R->KT l R
 | [],_,r=>r
 |c::l,_,r=>QT c (sJ l r)
def Ah6:(c:AV)-> {R:Type} ->R->avV c R
 | .at a,_,r=>QT a r
 | .agg cs,_,r=>sJ cs r
 | .bH _ _ x,_,r=>(x,r)
 | .Nr _,_,r=>r
def Aik:(b:OB)-> {R:Type} ->R->obV b R
 | .arr _ _ _ _ xs,_,r=>(xs,r)
 | .Hs _ _ xs,_,r=>(xs,r)
 | .var _ vs,_,r=>sJ vs r
 | .Bu _ _ rows _ none,_,r=>(rows,r)
 | .Bu _ _ rows _ (some p),_,r=>(rows,p.2,r)
 | .Wi _ m,_,r=>(m,r)
def sy:(l:List AV)-> {R:Type} ->R->rE l R
 | [],_,r=>r
 |c::l,_,r=>Ah6 c (sy l r)
def sn:(l:List (Nat×OB))-> {R:Type} ->R->xH l R
 | [],_,r=>r
 |p::l,_,r=>Aik p.2 (sn l r)
def TD (s:St):stV s:=sy s.tmps (sn s.heap ())
def pj:(c d:AC)-> {R:Type} ->R->Option (acV c R)
 | .data fr τ _, .data Wt Pj x,_,r=>if h:Pj=τ/\Wt=fr then some (h.1▸x,r) else none
 | .undef, .undef,_,r=>some r
 | .skip, .skip,_,r=>some r
 | .Mx, .Mx,_,r=>some r
 | .Wh, .Wh,_,r=>some r
 | .own l _ _, .own l' _ _,_,r=>if l=l' then some r else none
 | .Ii l i, .Ii l' i',_,r=>if l=l'/\i=i' then some r else none
 | .Ld l _, .Ld l' i',_,r=>if l=l' then some (i',r) else none
 | .clo f c, .clo f' c',_,r=>if f=f'/\c=c' then some r else none
 | .Lk l, .Lk l',_,r=>if l=l' then some r else none
 | .sub l _ c, .sub l' i' c',_,r=>if l=l'/\c=c' then some (i',r) else none
 | .Ky l _ _, .Ky l' i' j',_,r=>if l=l' then some (i',j',r) else none
 |_,_,_,_=>none
def Tb:(l m:List AC)-> {R:Type} ->R->Option (KT l R)
 | [],[],_,r=>some r
 |c::l,d::m,_,r=>(Tb l m r).bind λr'=>pj c d r'
 |_,_,_,_=>none
def m6:(c d:AV)-> {R:Type} ->R->Option (avV c R)
 | .at a, .at b,_,r=>pj a b r
 | .agg cs, .agg ds,_,r=>Tb cs ds r
 | .bH fr τ _, .bH Wt Pj x,_,r=>if h:Pj=τ/\Wt=fr then some (h.1▸x,r) else none
 |_,_,_,_=>none
def Tv:(b d:OB)-> {R:Type} ->R->Option (obV b R)
 | .arr fr tr e tid _, .arr Wt tr' e' Vo xs,_,r=>if h:e'=e/\Wt=fr/\tr'=tr/\Vo=tid then some (h.1▸xs,r) else none
 | .Hs e tid _, .Hs e' Vo xs,_,r=>if h:e'=e/\Vo=tid then some (h.1▸xs,r) else none
 | .Wi v _, .Wi v' m,_,r=>if h:v'=v then some (h▸m,r) else none
 | .var t vs, .var t' us,_,r=>if t'=t then Tb vs us r else none
 | .Bu e te _ out none, .Bu e' Se rows iy none,_,r=>if h:e'=e/\Se=te/\iy=out then some (h.1▸rows,r) else none
 | .Bu e te _ out (some p), .Bu e' Se rows iy (some p'),_,r=>if h:e'=e/\Se=te/\iy=out/\p'.1=p.1 then some (h.1▸rows,p'.2,r) else none
 |_,_,_,_=>none
def Py:(l m:List AV)-> {R:Type} ->R->Option (rE l R)
 | [],[],_,r=>some r
 |c::l,d::m,_,r=>(Py l m r).bind λr'=>m6 c d r'
 |_,_,_,_=>none
def Qy:(l m:List (Nat×OB))-> {R:Type} ->R->Option (xH l R)
 | [],[],_,r=>some r
 |p::l,q::m,_,r=>if q.1=p.1 then (Qy l m r).bind λr'=>Tv p.2 q.2 r' else none
 |_,_,_,_=>none
def jU (s t:St):Option (stV s):=(Qy s.heap t.heap ()).bind λr=>Py s.tmps t.tmps r
def lW:(c:AC)-> {R:Type} ->acV c R->AC×R
 | .data fr τ _,_,v=>(.data fr τ v.1,v.2)
 | .undef,_,r=>(.undef,r)
 | .skip,_,r=>(.skip,r)
 | .Mx,_,r=>(.Mx,r)
 | .Wh,_,r=>(.Wh,r)
 | .own l off len,_,r=>(.own l off len,r)
 | .Ii l i,_,r=>(.Ii l i,r)
 | .Ld l _,_,v=>(.Ld l v.1,v.2)
 | .clo f c,_,r=>(.clo f c,r)
 | .Lk l,_,r=>(.Lk l,r)
 | .sub l _ c,_,v=>(.sub l v.1 c,v.2)
 | .Ky l _ _,_,v=>(.Ky l v.1 v.2.1,v.2.2)
def aS:(l:List AC)-> {R:Type} ->KT l R->List AC×R
 | [],_,r=>([],r)
 |c::l,_,v=>((lW c v).1::(aS l (lW c v).2).1,(aS l (lW c v).2).2)
def sR:(c:AV)-> {R:Type} ->avV c R->AV×R
 | .at a,_,v=>(.at (lW a v).1,(lW a v).2)
 | .agg cs,_,v=>(.agg (aS cs v).1,(aS cs v).2)
 | .bH fr τ _,_,v=>(.bH fr τ v.1,v.2)
 | .Nr l,_,r=>(.Nr l,r)
def uu:(b:OB)-> {R:Type} ->obV b R->OB×R
 | .arr fr tr e tid _,_,v=>(.arr fr tr e tid v.1,v.2)
 | .Hs e tid _,_,v=>(.Hs e tid v.1,v.2)
 | .Wi w _,_,v=>(.Wi w v.1,v.2)
 | .var t vs,_,v=>(.var t (aS vs v).1,(aS vs v).2)
 | .Bu e te _ out none,_,v=>(.Bu e te v.1 out none,v.2)
 | .Bu e te _ out (some p),_,v=>(.Bu e te v.1 out (some (p.1,v.2.1)),v.2.2)
def Xn:(l:List AV)-> {R:Type} ->rE l R->List AV×R
 | [],_,r=>([],r)
 |c::l,_,v=>((sR c v).1::(Xn l (sR c v).2).1,(Xn l (sR c v).2).2)
def eB:(l:List (Nat×OB))-> {R:Type} ->xH l R->List (Nat×OB)×R
 | [],_,r=>([],r)
 |p::l,_,v=>((p.1,(uu p.2 v).1)::(eB l (uu p.2 v).2).1,(eB l (uu p.2 v).2).2)
def jT (s:St) (v:stV s):St:= {tmps:=(Xn s.tmps v).1,heap:=(eB s.heap (Xn s.tmps v).2).1}
def lenOf (H:List (Nat×OB)) (l:Nat):Nat:=match Av H l with|some (.arr _ _ _ _ xs)=>xs.length|some (.Hs _ _ xs)=>xs.length|some (.Bu _ _ rows _ _)=>rows.length|_=>0
def ay (ps:List Nat):List AV->List (Nat×Nat×Nat)
 | []=> []
 | .at (.own l off len)::r=>if ps.contains l then (l,off,len)::ay ps r else ay ps r
 |_::r=>ay ps r
def Akv:List (Nat×Nat×Nat)->Nat->Nat
 | [],_=>0
 |(k,o,_)::r,l=>if k=l then o else Akv r l
def UT:List (Nat×Nat×Nat)->List (Nat×OB)->Nat->Nat
 | [],H,l=>lenOf H l
 |(k,_,n)::r,H,l=>if k=l then n else UT r H l
def gz (B:List (Nat×Nat×Nat)) (H:List (Nat×OB)):AC->AC
 | .own l _ _=> .own l (Akv B l) (UT B H l)
 |c=>c
def St.whole (B:List (Nat×Nat×Nat)) (s:St):St:=s.Lx (gz B s.heap)
def zc (B:List (Nat×Nat×Nat)) (H:List (Nat×OB)) (c:AC) (K:Prop):Prop:=match c with
 | .own l off len=>off=Akv B l/\len=UT B H l/\K
 |_=>K
def dX (B:List (Nat×Nat×Nat)) (H:List (Nat×OB)):List AC->Prop->Prop
 | [],K=>K
 |c::r,K=>zc B H c (dX B H r K)
def QV (B:List (Nat×Nat×Nat)) (H:List (Nat×OB)) (c:AV) (K:Prop):Prop:=match c with
 | .at a=>zc B H a K
 | .agg cs=>dX B H cs K
 | .bH _ _ _=>K
 | .Nr _=>False
def bG (B:List (Nat×Nat×Nat)) (H:List (Nat×OB)):List AV->Prop->Prop
 | [],K=>K
 |c::r,K=>QV B H c (bG B H r K)
def ky (B:List (Nat×Nat×Nat)) (H:List (Nat×OB)):List (Nat×OB)->Prop->Prop
 | [],K=>K
 |p::r,K=>match p.2 with
  | .var _ vs=>dX B H vs (ky B H r K)
  |_=>ky B H r K
def CH (B:List (Nat×Nat×Nat)) (s:St) (K:Prop):Prop:=bG B s.heap s.tmps (ky B s.heap s.heap K)
def AV.Yu:AV->Bool
 | .at (.data _ _ _)=>true
 |_=>false
def Lj (p:Nat->Bool):Nat->List AV->List Bool
 |_,[]=> []
 |i,v::r=>(v.Yu&&p i)::Lj p (i+1) r
def stays (live:Nat->List Nat) (c:Code) (t:Nat):Bool:=!(writes c).contains t&&cf live c t
def Uo:List Bool->List AV->List AV
 |true::f,_::r=> .undef::Uo f r
 |false::f,v::r=>v::Uo f r
 |_,l=>l
def Wa:List Bool->List AV->List AV->List AV
 |true::f,a::s,_::r=>a::Wa f s r
 |false::f,_::s,v::r=>v::Wa f s r
 |_,_,l=>l
def St.mask (fx:List Bool) (s:St):St:= {tmps:=Uo fx s.tmps,heap:=s.heap}
def St.wA (fx:List Bool) (s0 s:St):St:= {tmps:=Wa fx s0.tmps s.tmps,heap:=s.heap}
def sj (c:AC) (k:AC->Prop):Prop:=match c with
 | .undef=>k .undef
 | .skip=>k .skip
 | .Mx=>k .Mx
 | .Wh=>k .Wh
 | .data fr τ x=>match fr with
  |true=>k (.data true τ x)
  |false=>k (.data false τ x)
 | .own l off len=>k (.own l off len)
 | .Ii l i=>k (.Ii l i)
 | .Ld l i=>k (.Ld l i)
 | .clo f c=>k (.clo f c)
 | .Lk l=>k (.Lk l)
 | .sub l i c=>k (.sub l i c)
 | .Ky l i c=>k (.Ky l i c)
def ja:List AC->(List AC->Prop)->Prop
 | [],k=>k []
 |c::r,k=>sj c λc'=>ja r λr'=>k (c'::r')
def zC (c:AV) (k:AV->Prop):Prop:=match c with
 | .at a=>sj a λa'=>k (.at a')
 | .agg cs=>ja cs λiX=>k (.agg iX)
 | .bH fr τ x=>k (.bH fr τ x)
 | .Nr l=>k (.Nr l)
def jb:List AV->(List AV->Prop)->Prop
 | [],k=>k []
 |c::r,k=>zC c λc'=>jb r λr'=>k (c'::r')
def zD (b:OB) (k:OB->Prop):Prop:=match b with
 | .arr fr tr e tid xs=>match fr,tr with
  |true,true=>k (.arr true true e tid xs)
  |true,false=>k (.arr true false e tid xs)
  |false,true=>k (.arr false true e tid xs)
  |false,false=>k (.arr false false e tid xs)
 | .Hs e tid xs=>k (.Hs e tid xs)
 | .var t vs=>ja vs λvs'=>k (.var t vs')
 | .Bu e te rows out kp=>match out,kp with
  |none,none=>k (.Bu e te rows none none)
  |none,some (l,n)=>k (.Bu e te rows none (some (l,n)))
  |some i,none=>k (.Bu e te rows (some i) none)
  |some i,some (l,n)=>k (.Bu e te rows (some i) (some (l,n)))
 | .Wi v m=>k (.Wi v m)
def tp:List (Nat×OB)->(List (Nat×OB)->Prop)->Prop
 | [],k=>k []
 |(l,b)::r,k=>zD b λb'=>tp r λr'=>k ((l,b')::r')
def aB (w:WS) (k:WS->Prop):Prop:=jb w.st.tmps λt=>tp w.st.heap λh=>k {kn:=w.kn,st:= {tmps:=t,heap:=h} }
def pC (s:St) (k:St->Prop):Prop:=jb s.tmps λt=>tp s.heap λh=>k {tmps:=t,heap:=h}
def fy:List Bool->(List Bool->Prop)->Prop
 | [],k=>k []
 |true::r,k=>fy r λr'=>k (true::r')
 |false::r,k=>fy r λr'=>k (false::r')
theorem qK {c:AC} {k:AC->Prop} :sj c k↔k c:=by
 cases c<;>simp only [sj]
 split<;>rfl
theorem fv: ∀ {l:List AC} {k:List AC->Prop},ja l k↔k l
 | [],k=>Iff.rfl
 |c::r,k=>by simp only [ja];rw [qK,fv]
theorem FJ {c:AV} {k:AV->Prop} :zC c k↔k c:=by
 cases c<;>simp only [zC]
 ·exact qK
 ·exact fv
theorem fw: ∀ {l:List AV} {k:List AV->Prop},jb l k↔k l
 | [],k=>Iff.rfl
 |c::r,k=>by simp only [jb];rw [FJ,fw]
theorem FK {b:OB} {k:OB->Prop} :zD b k↔k b:=by
 cases b<;>simp only [zD]
 ·split<;>rfl
 ·exact fv
 ·split<;>rfl
theorem mg: ∀ {l:List (Nat×OB)} {k:List (Nat×OB)->Prop},tp l k↔k l
 | [],k=>Iff.rfl
 |(l,b)::r,k=>by simp only [tp];rw [FK,mg]
theorem UG {s:St} {k:St->Prop} :pC s k=k s:=by
 unfold pC
 exact propext (by rw [fw,mg])
theorem fz: ∀ {l:List Bool} {k:List Bool->Prop},fy l k=k l
 | [],k=>rfl
 |true::r,k=>by simp only [fy];rw [fz]
 |false::r,k=>by simp only [fy];rw [fz]
theorem Pe {w:WS} {k:WS->Prop} :aB w k↔k w:=by
 unfold aB
 rw [fw,mg]
def bN:AC->List (Nat×Nat)
 | .own _ off len=> [(off,len)]
 |_=> []
def bP:AV->List (Nat×Nat)
 | .at a=>bN a
 | .agg cs=>cs.flatMap bN
 |_=> []
def mD:OB->List (Nat×Nat)
 | .var _ vs=>vs.flatMap bN
 |_=> []
def PF (s:St):List (Nat×Nat):=s.tmps.flatMap bP++s.heap.flatMap λp=>mD p.2
def eqW (s0 s:St):Prop:=PF s=PF s0/\Iv (jU s0 s) λv=>v=TD s0
def c7 (ops:Array Oper):Nat->Array Bool->WS->(WS->Prop)->Prop
 |0,Ag,w,K=>match Region.ready .any ops Ag with
  | []=>K w
  |_::_=>False
 |f+1,Ag,w,K=>match Region.ready .any ops Ag with
  | []=>False
  |k::_=>Iv ops[k]? λo=>jW ops w o (λkk w'=>opW T Γ w' o kk) λw'=>c7 ops f (Ag.setIfInBounds k true) w' K
def EC (P:List (Nat×Nat×AV×OB)) (ops:Array Oper):Nat->Array Bool->WS->(WS->Prop)->Prop
 |0,Ag,w,K=>match Region.ready .any ops Ag with
  | []=>K w
  |_::_=>False
 |f+1,Ag,w,K=>match Region.ready .any ops Ag with
  | []=>False
  |i::r=>ZB (i::r) λk=>Iv ops[k]? λo=>match NH P Γ ops w.st o k with
   |true=>jW ops w o (λkk w'=>opW T Γ w' o kk) λw'=>EC P ops f (Ag.setIfInBounds k true) w' K
   |false=>False
def yT (ops:Array Oper) (E:List Nat) (Ag:Array Bool) (w:WS):List Nat->Prop->Prop
 | [],K=>K
 |r::R,K=>match sA ops E Ag r with
  |true=>yT ops E Ag w R K
  |false=>(ll T Γ ops [r] w λw'=>Iv ((ops[r]?).bind (·.dst)) λd=>match Nat.blt d w.st.tmps.length with
    |true=>eqW ⟨[w.st.get d],[]⟩ ⟨[w'.st.get d],[]⟩
    |false=>False)/\yT ops E Ag w R K
def sK (ops:Array Oper) (E:List Nat):Nat->Array Bool->WS->(WS->Prop)->Prop
 |0,Ag,w,K=>yT T Γ ops E Ag w E (match Region.ready .any ops Ag with
  | []=>K w
  |_::_=>False)
 |f+1,Ag,w,K=>yT T Γ ops E Ag w E (match Region.ready .any ops Ag with
  | []=>False
  |i::r=>ZB (i::r) λk=>Iv ops[k]? λo=>jW ops w o (λkk w'=>opW T Γ w' o kk) λw'=>sK ops E f (Ag.setIfInBounds k true) w' K)
def OE (E:List Nat) (n:Nat) (L0:Array Bool) (ops:Array Oper) (w:WS) (K:WS->Prop):Prop:=
 match df ops E L0&&(Nat.ble E.length n&&Nat.ble (n-E.length) 10) with
 |true=>ll T Γ ops E w λw1=>aB w1 λw1=>c7 T Γ ops (n-E.length) (Fb E L0) w1 λw0=>aB w0 λw0=>K w0/\sK T Γ ops E (n-E.length) (Fb E L0) w1 λw2=>aB w2 λw2=>eqW w0.st w2.st
 |false=>False
def zj (P:List (Nat×Nat×AV×OB)) (n:Nat) (L0:Array Bool) (ops:Array Oper) (w:WS) (K:WS->Prop):Prop:=
 match (aD (P.map (·.1))&&aD (P.map (·.2.1)))&&((P.all λa=>pU a.2.1 w.st)&&(Nat.ble P.length n&&Nat.ble (n-P.length) 10)) with
 |true=>Aao T Γ ops (P.map (·.1)) w λw1=>aB w1 λw1=>c7 T Γ ops (n-P.length) (Fb (P.map (·.1)) L0) w1 λw0=>aB w0 λw0=>K w0/\EC T Γ P ops (n-P.length) (Fb (P.map (·.1)) L0) w1 λw2=>eqW w0.st w2.st
 |false=>OE T Γ (kI ops (List.range ops.size) L0) n L0 ops w K
def jy:Nat:=800000000
def HO (ops:Array Oper):Nat->Array Bool->Bool
 |0,Ag=>(Region.ready .any ops Ag).isEmpty
 |f+1,Ag=>match Region.ready .any ops Ag with
  | [i]=>HO ops f (Ag.setIfInBounds i true)
  |_=>false
def SX (ops:Array Oper) (L0:Array Bool):List Nat:=kI ops (List.range ops.size) L0
def yi (ops:Array Oper):Array Bool:=Fb (Ll ops) (Array.replicate ops.size false)
def Abh (ops:Array Oper):Bool:=Region.noSelect ops&&(df ops (SX ops (yi ops)) (yi ops)&&(Nat.ble (SX ops (yi ops)).length (ops.size-(Ll ops).length)&&Nat.ble ((ops.size-(Ll ops).length)-(SX ops (yi ops)).length) 10))
def eqM (fx:List Bool) (s0 s:St):Prop:=eqW (s0.mask fx) (s.mask fx)
def Tm (ops:Array Oper) (t:Nat):Bool:=!Zj ops t
def vL (ops:Array Oper):List Nat:=(ops.toList.filterMap λo=>match o.op with
 | .alloc _=>none
 | .box _ _=>none
 | .assign _=>none
 |_=>o.dst).filter λd=>ops.toList.any λo=>(o.looksAt ops).contains d
def WS.Re (dead:List Nat) (w:WS):WS:= {kn:=w.kn.filter λp=>!dead.contains p.1,st:=w.st.Re dead}
def Abi (dead E:List Nat) (n:Nat) (L0:Array Bool) (ops:Array Oper) (w:WS) (K:WS->Prop):Prop:=
 match df ops E L0&&Nat.ble E.length n with
 |true=>ll T Γ ops E w λw1=>aB w1 λw1=>match HO ops (n-E.length) (Fb E L0) with
  |true=>sK T Γ ops E (n-E.length) (Fb E L0) w1 λw2=>K (w2.Re dead)
  |false=>fy (Lj (Tm ops) 0 w1.st.tmps) λfx=>c7 T Γ ops (n-E.length) (Fb E L0) w1 λw0=>aB (w0.Re dead) λw0=>K w0/\sK T Γ ops E (n-E.length) (Fb E L0) w1 λw2=>aB (w2.Re dead) λw2=>eqM fx w0.st w2.st
 |false=>False
def sx (ops:Array Oper) (draw:Bool) (w:WS) (K:WS->Prop):Prop:=
 match draw with
 |true=>match de false Γ ops with
  |true=>ll T Γ ops (kx false Γ ops) w λw'=>Aao T Γ ops (Kk false Γ ops) w' K
  |false=>match de true Γ ops with
   |true=>ll T Γ ops (kx true Γ ops) w λw'=>Aao T Γ ops (Kk true Γ ops) w' K
   |false=>match Region.noSelect ops&&Nat.ble (ops.size-(Ll ops).length) 8 with
    |true=>ll T Γ ops (Ll ops) w λw'=>match kq false ops&&!T.marks.contains jy with
     |true=>TO T Γ ops (ops.size-(Ll ops).length) (Fb (Ll ops) (Array.replicate ops.size false)) w' K
     |false=>c7 T Γ ops (ops.size-(Ll ops).length) (Fb (Ll ops) (Array.replicate ops.size false)) w' λw0=>aB w0 λw0=>K w0/\TO T Γ ops (ops.size-(Ll ops).length) (Fb (Ll ops) (Array.replicate ops.size false)) w' λw1=>eqW w0.st w1.st
    |false=>match Region.noSelect ops with
     |true=>ll T Γ ops (Ll ops) w λw'=>zj T Γ (Zy T ops (Fb (Ll ops) (Array.replicate ops.size false))) (ops.size-(Ll ops).length) (Fb (Ll ops) (Array.replicate ops.size false)) ops w' K
     |false=>False
 |false=>Akx T Γ ops ops.toList w K
def BN (ops:Array Oper) (draw:Bool) (w:WS) (K:WS->Prop):Prop:=
 match T.marks.contains jy&&(vL ops).all (Zj ops) with
 |true=>match draw&&(!(de false Γ ops||de true Γ ops)&&Abh ops) with
  |true=>ll T Γ ops (Ll ops) w λw'=>Abi T Γ (vL ops) (SX ops (yi ops)) (ops.size-(Ll ops).length) (yi ops) ops w' K
  |false=>sx T Γ ops draw w λw'=>K (w'.Re (vL ops))
 |false=>sx T Γ ops draw w K
def eb (live:Nat->List Nat):Code->WS->(Mn->WS->Prop)->Prop
 | .skip,w,Q=>Q .normal w
 | .label _,w,Q=>Q .normal w
 | .region _ ops draw,w,Q=>BN T (BM Γ draw) ops draw {w with st:=w.st.nB ops} λw'=>aB w' (Q .normal)
 | .seq a b,w,Q=>eb live a w λe w'=>match e with
  | .normal=>eb live b w' Q
  | .exit id=>Q (.exit id) w'
  | .ret=>Q .ret w'
 | .cond c a b,w,Q=>brO w c λt w'=>match t with
  |true=>eb live a w' Q
  |false=>eb live b w' Q
 | .block id c,w,Q=>eb live c w λe w'=>match e with
  | .normal=>Q .normal w'
  | .exit UP=>if UP=id then Q .normal w' else Q (.exit UP) w'
  | .ret=>Q .ret w'
 | .loop c,w,Q=>
  pC (w.st.clean (live (Ga c))) λs0=>fy (Lj (stays live c) 0 s0.tmps) λfx=>pC (s0.mask fx) λm=>
  CH (ay T.parts s0.tmps) s0 (Dn (V:=stV m) (λv k=>pC ((St.wA fx s0 (jT m v)).whole (ay T.parts s0.tmps)) λsb=>eb live c ⟨[],sb⟩ λe w'=>match e with
   | .normal=>pC (w'.st.clean (live (Ga c))) λs1=>CH (ay T.parts s0.tmps) s1 (Iv (jU m (s1.mask fx)) k)
   | .exit id=>Q (.exit id) w'
   | .ret=>Q .ret w') (TD m))
 | .exit id,w,Q=>Q (.exit id) w
 | .ret,w,Q=>Q .ret w
 |_,_,_=>False
def Aiz (s:Spec) (fn:Func) (P:s.res.den->Prop) (st:St):Prop:=
 Iv (nM T s fn st) λp=>match p.1||!s.fresh with|true=>P p.2|false=>False
def jq (st:St) (K:Prop):List AC->List (Bool×CK)->Prop
 | .own l off len::as,(true,_)::r=>match st.at l with
  |some (.arr _ _ _ _ xs)=>(off=0/\len=xs.length)/\jq st K as r
  |some (.Hs _ _ xs)=>(off=0/\len=xs.length)/\jq st K as r
  |_=>False
 |_::as,(false,_)::r=>jq st K as r
 |_,_=>K
def pW (st:St):(cs:List CK)->List AC->(CKs.den cs->List Nat->Prop)->Prop
 | [],[],K=>K () []
 | .Bu e te _::r, .own l off len::as,K=>match st.at l with
  |some (.Bu e' Se rows none _)=>if h:e'=e/\Se=te then (off=0/\len=rows.length)/\pW st r as λy t=>K ((h.1▸rows:List (List e.den)),y) (l::t) else False
  |_=>False
 |c::r,a::as,K=>Iv (kX st c a) λp=>pW st r as λy t=>K (p.1,y) (p.2++t)
 |_,_,_=>False
def zZ (st:St) (n:Nat) (as:List AC):List (Nat×Nat)->Prop->Prop
 | [],K=>K
 |(k,j)::r,K=>match as[j]? with
  |some (.own l _ _)=>match st.at l with
   |some (.Bu _ _ _ _ (some p))=>match Nat.beq p.1 (Ee false k)&&Nat.blt k 1000 with
    |true=>n<=p.2/\zZ st n as r K
    |false=>False
   |_=>False
  |_=>False
def uR (s:MSpec) (fn:Func) (x:Ins.den s.ins) (st:St) (cs:List AC) (P:CKs.den s.outs×IOs.den s.ins->Prop):Prop:=
 Iv (dL T st fn.results.toList) λl=>Iv (OI s st l) λp=>pW st s.outs (cs++p.1) λr ls=>Iv (Pr st 0 s.ins) λo=>
  match aD (p.2++ls++Qk 0 s.ins)&&Nat.blt s.ins.length 1000&&Nat.blt s.outs.length 1000&&s.Ab9 with
  |true=>zZ st (s.Gj x) (cs++p.1) s.keeps (P (r,o))
  |false=>False
def TA (s:MSpec) (fn:Func) (x:Ins.den s.ins) (st:St) (P:CKs.den s.outs×IOs.den s.ins->Prop):Prop:=
 match s.ptr with
 |none=>uR T s fn x st [] P
 |some p=>match st.at Pz with
  |some (.var tid vs)=>match Nat.beq tid p.1&&Nat.beq vs.length p.2 with
   |true=>Iv (Kd 0 s.ins vs) λcs=>jq st (uR T s fn x st cs P) vs s.ins
   |false=>False
  |_=>False
@[irreducible] def fnMW (s:MSpec) (fn:Func) (x:Ins.den s.ins) (P:CKs.den s.outs×IOs.den s.ins->Prop):Prop:=
 match Nat.blt s.ins.length 1000&&BH s with
 |false=>False
 |true=>Iv fn.body λc=>eb T Γ (AF T.marks fn c) c {kn:= [],st:= {tmps:=aO s (cc 0 s.ins x)++List.replicate (fn.ntmps-(aO s (cc 0 s.ins x)).length) .undef,heap:=qS s x} } λe w=>match e with
  | .normal=>TA T s fn x w.st P
  | .ret=>TA T s fn x w.st P
  | .exit _=>False
@[irreducible] def fnW (s:Spec) (fn:Func) (x:s.arg.den) (P:s.res.den->Prop):Prop:=
 Iv fn.body λc=>eb T Γ (AF T.marks fn c) c {kn:= [],st:= {tmps:=Tq s.arg x++List.replicate (fn.ntmps-(Tq s.arg x).length) .undef,heap:= []} } λe w=>match e with
  | .normal=>Aiz T s fn P w.st
  | .ret=>Aiz T s fn P w.st
  | .exit _=>False
end Go.Proofs.YtkkdpknjohcekaaGreat
