/-
  Part 31 of the proof that the statement FnLowerBounds holds.
-/
import Derived.Test.YtkkdpknjohcekaaGreatCFLowerBounds29
namespace Go.Proofs.YtkkdpknjohcekaaGreat
open Go.RowKit
inductive Br (b:Bool) (A B:Prop):Prop
 |mk (t:b=true->A) (f:b=false->B)
inductive Dl {V:Type} (step:V->(V->Prop)->Prop) (v0:V):Prop
 |mk (I:V->Prop) (μ:V->Nat) (h0:I v0) (h: ∀v,I v->step v (λv'=>I v'/\μ v'<μ v))
structure WS where
 kn:List (Nat×Bool)
 st:St
def nN:List (Nat×Bool)->Nat->Option Bool
 | [],_=>none
 |(k,b)::r,t=>if k=t then some b else nN r t
def xj:List (Nat×Bool)->Nat->List (Nat×Bool)
 | [],_=> []
 |(k,b)::r,t=>if k=t then xj r t else (k,b)::xj r t
def WS.put (w:WS) (dst:Option Tmp) (v:AV):WS:=
 match dst with
 |some d=> {kn:=xj w.kn d,st:=w.st.put (some d) v}
 |none=>w
def Xg (kn:List (Nat×Bool)):Operand->Option Bool
 | .const (.bool b)=>some b
 | .tmp t=>nN kn t
 |_=>none
def Hw (kn:List (Nat×Bool)) (o:Oper):Option Bool:=
 match o.op with
 | .assign x=>Xg kn x
 | .move x=>Xg kn x
 | .unOp .not _ x=>(Xg kn x).map (!·)
 | .pick c a b=>match Xg kn c with
  |some true=>Xg kn a
  |some false=>Xg kn b
  |none=>none
 |_=>none
def WS.w5 (w:WS) (o:Oper) (v:AV):WS:=
 match o.dst,Hw w.kn o with
 |some d,some b=>match (w.st.put (some d) v).get d with
  | .at (.data _ .bool _)=> {kn:=(d,b)::xj w.kn d,st:=w.st.put (some d) v}
  |_=>w.put (some d) v
 |dst,_=>w.put dst v
def WS.to (w:WS) (st:St):WS:= {kn:=w.kn,st:=st}
def brT (w:WS) (t:Nat) (K:Bool->WS->Prop):Prop:=
 match nN w.kn t with
 |some b=>K b w
 |none=>match w.st.get t with
  | .at (.data _ .bool b)=>Br b (K true {kn:=(t,true)::w.kn,st:=w.st}) (K false {kn:=(t,false)::w.kn,st:=w.st})
  |_=>False
def brO (w:WS) (c:Operand) (K:Bool->WS->Prop):Prop:=
 match c with
 | .tmp t=>brT w t K
 | .const (.bool b)=>K b w
 |_=>False
def Io {α:Type} (o:Option α) (K:α->Prop):Prop:=match o with|some x=>K x|none=>False
def Aih (T:Tab) (st:St) (t:TypeId) (x:AV) (l h:Int):Option AV:=
 match x with
 | .at (.data fr (.slice e) xs)=>if (T.elem t).bind T.ty=some e then some (.at (.data fr (.slice e) ((xs.take h.toNat).drop l.toNat))) else none
 | .at (.own k off _)=>match st.at k with
  |some (.arr _ _ e tid _)=>if T.elem t=some tid/\T.ty tid=some e then some (.at (.own k (off+l.toNat) (h.toNat-l.toNat))) else none
  |_=>none
 | .at (.data _ .str s)=>if T.ty t=some .str then some (.at (.data true .str (s.extract l.toNat h.toNat))) else none
 |_=>none
variable (T:Tab) (Γ:Env)
def Ag1 (op:BinOp) (t:TypeId) (x y:AV) (K:AV->Prop):Prop:=
 match op,x,y with
 | .quo, .at (.data _ (.int k) a), .at (.data _ (.int k') b)=>if k=k' then b≠0/\K (.at (.data true (.int k) (k.wrap (a.tdiv b)))) else False
 | .rem, .at (.data _ (.int k) a), .at (.data _ (.int k') b)=>if k=k' then b≠0/\K (.at (.data true (.int k) (a.tmod b))) else False
 | .shl, .at (.data _ (.int k) a), .at (.data _ (.int _) b)=> ¬b<0/\K (.at (.data true (.int k) (k.wrap (a*2^(min b.toNat k.bits)))))
 | .shr, .at (.data _ (.int k) a), .at (.data _ (.int _) b)=> ¬b<0/\K (.at (.data true (.int k) (a.fdiv (2^(min b.toNat k.bits)))))
 | .add, .at (.data _ .str a), .at (.data _ .str b)=>a.size+b.size<=4294967296/\K (.at (.data true .str (a++b)))
 |op,x,y=>Io (Ut T op t x y) K
def YM (st:St) (t:TypeId) (p:AV) (K:AV->Prop):Prop:=
 match p with
 | .at (.Kw l i)=>Io (T.ty t) λτ=>match st.at l with
  |some (.arr fr _ e _ xs)=>if e=τ then ∃x,xs[i]?=some x/\K (.at (.data (fr||e.flat) e x)) else False
  |some (.Hi e _ xs)=>if e=τ then ∃x,xs[i]?=some x/\K (if e.Ao then .agg (ga l i 0 e x) else .at ((ga l i 0 e x).headD .undef)) else False
  |some (.Bp _ _ _ none _)=>if τ.Ao then False else K (.at (.sub l i 0))
  |_=>False
 | .at (.data fr (.optr Pb) x)=>Io (T.ty t) λτ=>if Pb=τ then ∃y,x=some y/\K (.at (.data (fr||Pb.flat) Pb y)) else False
 |p=>Io (Re T st t p) K
def lZ (s:TypeId) (x:AV) (f:Nat) (K:AV->Prop):Prop:=
 match x with
 | .at (.data fr (.optr τ) x)=> ∃y,x=some y/\Io (Ot T s (.at (.data fr (.ptr τ) y)) f) K
 |x=>Io (Ot T s x f) K
def xw (st:St) (x:Operand) (K:AV->Prop) (d:Option AV):Prop:=
 match st.ev x with
 | .at (.data fr (.optr τ) x)=> ∃y,x=some y/\K (.at (.data fr (.ptr τ) y))
 |_=>Io d K
def MM (st:St) (t:TypeId) (x:AV) (lo hi:Option AV) (K:AV->Prop):Prop:=
 Io (DZ x) λn=>Io (VJ lo 0) λl=>Io (VJ hi n) λh=>(0<=l/\l<=h/\h<=n)/\Io (Aih T st t x l h) K
def ma (st:St) (t:TypeId) (x i:AV) (K:AV->Prop):Prop:=
 match x,i with
 | .at (.data fr (.slice e) xs), .at (.data _ (.int _) n)=>if (T.elem t).bind T.ty=some e then ∃x,idx xs n=some x/\K (.at (.data fr (.ptr e) x)) else False
 | .at (.own l off len), .at (.data _ (.int _) n)=>match st.at l with
  |some (.arr _ _ e tid _)=>if T.elem t=some tid/\T.ty tid=some e then (0<=n/\n<len)/\K (.at (.Kw l (off+n.toNat))) else False
  |some (.Hi e tid _)=>if T.elem t=some tid/\T.ty tid=some e then (0<=n/\n<len)/\K (.at (.Kw l (off+n.toNat))) else False
  |some (.Bp _ te _ _ _)=>if T.elem t=some te/\(T.ty te).map Ty.size=some 1 then (0<=n/\n<len)/\K (.at (.Kw l (off+n.toNat))) else False
  |_=>False
 | .at (.sub l i _), .at (.data _ (.int _) n)=>match st.at l with
  |some (.Bp e _ rows none _)=>if ((T.elem t).bind T.ty).map Ty.size=some e.size then (0<=n/\n<(rows.getD i []).length)/\K (.at (.Ks l i n.toNat)) else False
  |_=>False
 |_,_=>False
def KC (t:TypeId) (x i:AV) (K:AV->Prop):Prop:=
 match x,i with
 | .at (.data _ .str s), .at (.data _ (.int _) n)=>if T.ty t=some .str then 0<=n/\ ∃b,s[n.toNat]?=some b/\K (.at (.data true (.int .u8) b.toNat)) else False
 |_,_=>False
def wX (st:St) (f:FuncId) (args:List AV) (K:AV->Prop):Prop:=
 Io (match Γ f with|some (.q s)=>some s|_=>none) λs=>match s.fresh||s.res.flat||args.all (·.settled) with
  |true=>Io (Dz st s.arg args) λp=> ∃y,s.fn p.2=some y/\K (if s.Im then .bF (s.fresh||s.res.flat) s.res y else .at (.data (s.fresh||s.res.flat) s.res y))
  |false=>False
def IW (st:St) (v:AV) (args:List AV) (K:AV->Prop):Prop:=
 match v with
 | .at (.data fr (.clo f τ) x)=>match τ.chain with|true=>(match Nat.blt f 1000000000 with|true=>wX Γ st f (args++bO fr τ x) K|false=>wX Γ st (f-1000000000) (bO fr τ x++args) K)|false=>False
 | .at (.clo f Eh)=>wX Γ st f (args++Eh.map λp=> .at (.Hv p.1 p.2)) K
 |_=>False
def qW (w:WS) (o:Oper) (K:AV->WS->Prop):Prop:=
 match o.op with
 | .pick c a b=>brO w c λt w'=>match t with|true=>K (w'.st.ev a) w'|false=>K (w'.st.ev b) w'
 | .load t a=>YM T w.st t (w.st.ev a) λv=>K v w
 | .binOp op t x y _=>Ag1 T op t (w.st.ev x) (w.st.ev y) λv=>K v w
 | .slice t x lo hi mx=>match mx with
  |none=>MM T w.st t (w.st.ev x) (lo.map w.st.ev) (hi.map w.st.ev) λv=>K v w
  |some _=>False
 | .indexAddr t x i=>ma T w.st t (px (w.st.ev x)) (w.st.ev i) λv=>K v w
 | .index t x i=>KC T t (w.st.ev x) (w.st.ev i) λv=>K v w
 | .call {callee:= .value (.func f),args, .. } =>wX Γ w.st f (args.toList.map w.st.ev) λv=>K v w
 | .call {callee:= .value (.tmp t),args, .. } =>IW Γ w.st (w.st.get t) (args.toList.map w.st.ev) λv=>K v w
 | .fieldAddr s x f=>lZ T s (w.st.ev x) f λv=>K v w
 | .nilCheck x=>xw w.st x (λv=>K v w) (Fh T Γ w.st o)
 |_=>Io (Fh T Γ w.st o) λv=>K v w
def MZ (st:St) (t:TypeId) (p v:AV) (K:St->Prop):Prop:=
 match p with
 | .at (.Kw l j)=>Io (T.ty t) λτ=>Io (settle st v) λq=>match q.2.at l with
  |some (.arr fr tr e tid xs)=>Io (Gc q.2 τ q.1) λu=>if h:τ=e then j<xs.length/\K (q.2.Kr l (.arr (fr&&u.1) (tr&&(Um st v&&e.tree)) e tid (xs.set j (h▸u.2)))) else False
  |_=>False
 |p=>Io (Vs T st t p v) K
def QJ (st:St) (t:TypeId) (p v:AV) (K:St->Prop):Prop:=
 match p with
 | .at (.Ks l i j)=>Io (T.ty t) λτ=>Io (settle st v) λq=>match q.2.at l with
  |some (.Bp e te rows none kp)=>Io (Gc q.2 τ q.1) λu=>if h:τ=e then K (q.2.Kr l (.Bp e te (rows.set i ((rows.getD i []).set j (h▸u.2))) none kp)) else False
  |_=>False
 | .at (.Kw l j)=>Io (T.ty t) λτ=>match st.at l,v with
  |some (.Bp e te rows out kp), .at (.own m off len)=>match st.at m with
   |some (.arr _ _ e' _ xs)=>if h:e'=e/\(Nat.blt l Bk&&(!Nat.beq m l&&!τ.Ao))=true then
     off=0/\len=xs.length/\(match out with|none=>True|some i=>i=j)/\K (Us st l j m e te rows (h.1▸xs) (ca j kp))
    else False
   |_=>False
  |_,_=>False
 |_=>False
def AF (st:St) (t:TypeId) (p v:AV) (K:St->Prop):Prop:=match OU st p with
 |true=>QJ T st t p v K
 |false=>MZ T st t p v K
def mN (st:St) (dst:Nat) (t:TypeId) (x y:Operand) (K:AV->St->Prop):Prop:=
 Io (T.elem t) λte=>Io (T.ty te) λe=>Io (settle st (st.ev y)) λq=>Io (Gc q.2 (.slice e) q.1) λu=>match q.2.ev x with
  | .at .Mm=>match Nat.blt dst Bk with
   |true=>List.length u.2<=Cn/\K (.at (.own dst 0 (List.length u.2))) ((q.2.new dst (.arr (T.vd||e.flat) T.BI e te [])).new dst (.arr ((T.vd||e.flat)&&(u.1||e.flat)) (T.BI&&(e.flat||(Um st (st.ev y)&&e.tree))) e te u.2))
   |false=>False
  | .at (.own l off len)=>match q.2.at l with
   |some (.arr fr tr e' tid xs)=>if h:e'=e/\tid=te/\Nat.blt l Bk=true then
     off=0/\len=xs.length/\len+List.length u.2<=Cn/\K (.at (.own l 0 (List.length ((h.1▸xs:List e.den)++u.2)))) (q.2.new l (.arr (fr&&(u.1||e.flat)) (tr&&(e.flat||(Um st (st.ev y)&&e.tree))) e te ((h.1▸xs:List e.den)++u.2)))
    else False
   |_=>False
  |_=>False
def sm (st:St) (dst:Nat) (t:TypeId) (x y:Operand) (K:AV->St->Prop):Prop:=
 match x with
 | .tmp tx=>match st.get tx with
  | .at (.sub l i _)=>Io (T.elem t) λtid=>match st.at l with
   |some (.Bp e te rows none kp)=>match Nat.blt l Bk&&(Nat.blt dst Bk&&!Nat.beq dst l) with
    |true=>mN T ((Rd st l i dst e te tid rows kp).put (some tx) (.at (.own dst 0 (rows.getD i []).length))) dst t x y K
    |false=>False
   |_=>False
  |_=>mN T st dst t x y K
 |_=>mN T st dst t x y K
def YU (st:St) (dst:Nat) (t:TypeId) (l c:AV) (K:AV->St->Prop):Prop:=
 match l,c with
 | .at (.data _ (.int _) n), .at (.data _ (.int _) m)=>Io (T.elem t) λte=>Io (T.ty te) λe=>match gn e&&Nat.blt dst Bk with
  |true=>(0<=n/\n<Cn+1)/\n=m/\K (.at (.own dst 0 (List.replicate n.toNat e.zero).length)) (st.new dst (.arr (T.vd||e.flat) (T.BI&&e.tree) e te (List.replicate n.toNat e.zero)))
  |false=>False
 |_,_=>False
def KR (st:St) (dst:Nat) (t:TypeId) (l c:AV) (K:AV->St->Prop):Prop:=
 match ej T t with
 |none=>YU T st dst t l c K
 |some p=>match l,c with
  | .at (.data _ (.int _) n), .at (.data _ (.int _) m)=>match Nat.blt dst Bk with
   |true=>(0<=n/\n<Cn+1)/\n=m/\K (.at (.own dst 0 (List.replicate n.toNat ([]:List p.2.den)).length)) (Rz st dst dst (.Bp p.2 p.1 (List.replicate n.toNat []) none none))
   |false=>False
  |_,_=>False
def fg (st:St) (dst:Nat) (t:TypeId) (len:Nat) (parts:Array (Nat×Operand)) (K:AV->St->Prop):Prop:=
 match ej T t with
 |none=>Io (My T st dst t len parts) λr=>K r.1 r.2
 |some p=>match parts.toList with
  | [(0,x)]=>match st.ev x with
   | .at (.own m off ln)=>match st.at m with
    |some (.arr _ _ e' _ xs)=>if h:e'=p.2/\(Nat.beq len 1&&(Nat.blt dst Bk&&Nat.blt m Bk))=true then off=0/\ln=xs.length/\K (.at (.own dst 0 1)) (Rz st dst m (.Bp p.2 p.1 [h.1▸xs] none none)) else False
    |_=>False
   |_=>False
  |_=>False
def so (st:St) (dst:Nat) (t:TypeId) (x y:Operand) (K:AV->St->Prop):Prop:=
 match ej T t with
 |none=>sm T st dst t x y K
 |some p=>match st.ev x,st.ev y with
  | .at (.own l off len), .at (.own m ZB tu)=>match st.at l,st.at m with
   |some (.Bp e1 te1 A none _),some (.Bp e2 wv B none _)=>
    if h:(e1=p.2/\e2=p.2)/\(decide (te1=p.1)&&decide (wv=p.1)&&(Nat.blt l Bk&&(Nat.blt m Bk&&!Nat.beq m l)))=true then
     (off=0/\len=A.length)/\(ZB=0/\tu=B.length)/\0<B.length/\A.length+B.length<=Cn/\
      K (.at (.own l 0 (List.length ((h.1.1▸A:List (List p.2.den))++(h.1.2▸B:List (List p.2.den)))))) (Rz st l m (.Bp p.2 p.1 ((h.1.1▸A:List (List p.2.den))++(h.1.2▸B:List (List p.2.den))) none none))
    else False
   |_,_=>False
  |_,_=>False
def gh (st:St) (io:Bool) (k:Nat):(c:CK)->AC->(c.den->List (Nat×Loc)->Prop)->Prop
 | .Ft τ, .own l off len,K=>Io (Dr st τ (.own l off len)) λp=>K p.2 [(Ea false k, .view l)]
 | .Ft τ, .clo g Eh,K=>match cz st (Eh.map (·.1))&&!τ.Ao with
  |true=>Io (Kp st τ (.clo g Eh)) λp=>K p.2 (views k (Eh.map (·.1)))
  |false=>False
 | .Ft τ, .Hv l i,K=>match cz st [l]&&!τ.Ao with
  |true=>Io (Kp st τ (.Hv l i)) λp=>K p.2 (views k [l])
  |false=>False
 | .Ft τ, .sub l i c,K=>Io (Dr st τ (.sub l i c)) λp=>K p.2 [(Ea false k, .view l)]
 | .Ft τ,a,K=>match τ.flat||a.settled with
  |true=>Io (Dr st τ a) λp=>K p.2 []
  |false=>False
 | .row e te, .own l off len,K=>match st.at l with
  |some (.arr _ _ e' Sj xs)=>if h:e'=e/\Sj=te then off=0/\len=xs.length/\K (h.1▸xs:List e.den) [(Ea io k, .row l)] else False
  |_=>False
 | .row e _, .sub l i c,K=>match st.at l with
  |some (.Hi e' _ xs)=>if h:e'= .slice e/\e.flat=true/\io=true/\c=0 then ∃y,xs[i]?=some y/\K (h.1▸y:(Ty.slice e).den) [(Ea io k, .sub l i c)] else False
  |_=>False
 | .row _ _, .Mm,K=>K [] []
 | .Ii e te, .own l off len,K=>match st.at l with
  |some (.Hi e' Sj xs)=>if h:e'=e/\Sj=te then off=0/\len=xs.length/\K (h.1▸xs:List e.den) [(Ea io k, .row l)] else False
  |_=>False
 | .Ii e _, .sub l i c,K=>match st.at l with
  |some (.Hi e' _ xs)=>if h:e'= .slice e/\io=true/\c=0 then ∃y,xs[i]?=some y/\K (h.1▸y:(Ty.slice e).den) [(Ea io k, .sub l i c)] else False
  |_=>False
 | .Ii _ _, .Mm,K=>K [] []
 | .part e te, .own l off len,K=>match st.at l with
  |some (.arr _ _ e' Sj xs)=>if h:e'=e/\Sj=te/\e.flat=true/\io=true then K ((h.1▸xs:List e.den),off,len) [(Ea io k, .row l)] else False
  |_=>False
 | .Bp e te _, .own l off len,K=>match st.at l with
  |some (.Bp e' Sj rows none _)=>if h:e'=e/\Sj=te/\io=false then off=0/\len=rows.length/\K (h.1▸rows:List (List e.den)) [(Ea io k, .row l)] else False
  |_=>False
 |_,_,_=>False
def AQ (st:St):(k:Nat)->(cs:List (Bool×CK))->List AC->(Ins.den cs->List (Nat×Loc)->Prop)->Prop
 |_,[],[],K=>K () []
 |k,p::r,a::as,K=>gh st p.1 k p.2 a λx t1=>AQ st (k+1) r as λy t2=>K (x,y) (t1++t2)
 |_,_,_,_=>False
def qy (st:St):(c:CK)->c.den->AC->(St->Prop)->Prop
 | .row e _,ys, .own l _ len,K=>match st.at l with
  |some (.arr fr tr e' te xs)=>if h:e=e' then (List.length ys=len/\xs.length=len)/\K (st.Kr l (.arr (fr&&e'.flat) (tr&&e'.flat) e' te (h▸ys))) else False
  |_=>False
 | .Ii e _,ys, .own l _ len,K=>match st.at l with
  |some (.Hi e' te xs)=>if h:e=e' then (List.length ys=len/\xs.length=len)/\K (st.Kr l (.Hi e' te (h▸ys))) else False
  |_=>False
 | .row e _,ys, .sub l i _,K=>match st.at l with
  |some (.Hi e' te xs)=>if h: .slice e=e' then ∃y,xs[i]?=some y/\List.length ys=List.length (h▸y:(Ty.slice e).den)/\K (st.Kr l (.Hi e' te (xs.set i (h▸(ys:(Ty.slice e).den))))) else False
  |_=>False
 | .Ii e _,ys, .sub l i _,K=>match st.at l with
  |some (.Hi e' te xs)=>if h: .slice e=e' then ∃y,xs[i]?=some y/\List.length ys=List.length (h▸y:(Ty.slice e).den)/\K (st.Kr l (.Hi e' te (xs.set i (h▸(ys:(Ty.slice e).den))))) else False
  |_=>False
 |_,_, .Mm,K=>K st
 |_,_,_,_=>False
def ZV (st:St) (e:Ty) (ys:List e.den):AC->(St->Prop)->Prop
 | .own l _ _,K=>match st.at l with
  |some (.arr fr tr e' te xs)=>if h:e=e' then List.length ys=xs.length/\K (st.Kr l (.arr fr tr e' te (h▸ys))) else False
  |_=>False
 |_,_=>False
def jg:(cs:List (Bool×CK))->IOs.den cs->List AC->St->(St->Prop)->Prop
 | [],_,_,st,K=>K st
 |(true, .Ft _)::r,x,_::as,st,K=>jg r x as st K
 |(true, .row e te)::r,x,a::as,st,K=>qy st (.row e te) x.1 a λst'=>jg r x.2 as st' K
 |(true, .Ii e te)::r,x,a::as,st,K=>qy st (.Ii e te) x.1 a λst'=>jg r x.2 as st' K
 |(true, .part e _)::r,x,a::as,st,K=>ZV st e x.1 a λst'=>jg r x.2 as st' K
 |(true, .Bp _ _ _)::r,x,_::as,st,K=>jg r x as st K
 |(false,_)::r,x,_::as,st,K=>jg r x as st K
 |_,_,_,_,_=>False
def uJ (H:List (Nat×OB)) (ls:List Nat) (n:Nat):List AV->Prop->Prop
 | [],K=>K
 | .at (.sub l i _)::r,K=>match ls.contains l with
  |true=>(i<n/\i<rR H l)/\uJ H ls n r K
  |false=>uJ H ls n r K
 |_::r,K=>uJ H ls n r K
def IV (st:St) (dst:Option Nat) (s:MSpec) (args:List AV) (K:AV->St->Prop):Prop:=
 Io (QD st s args) λq=>Io (ungroup s.Jl q.2.2) λoF=>AQ st 0 s.ins (q.2.1++oF) λx tks=>
  match aC (tks.map λt=>t.2.Xy)&&z8 (Tl s tks (dst.getD 0)) (s.outs.length+(my s (dst.getD 0)).length)&&Nat.blt s.outs.length 1000&&Nat.blt s.ins.length 1000&&(Xa s.ins q.2.1&&q.1.all λl=>!((tks.map λt=>t.2.Xy)++Tl s tks (dst.getD 0)).contains l) with
  |true=> ∃p,s.fn x=some p/\jg s.ins p.2 (q.2.1++oF) st λst1=>Io (Adl s (dst.getD 0) ((cf (Ef (Tl s tks (dst.getD 0))) 0 s.outs p.1).drop s.aQ)) λv=>
    uJ (lN st st1 (dst.getD 0) s q.1 tks p.1).heap (c9 st.heap (Tl s tks (dst.getD 0)) tks s.keeps) (s.Fw x) st.tmps
     (K v (mb st (lN st st1 (dst.getD 0) s q.1 tks p.1) (c9 st.heap (Tl s tks (dst.getD 0)) tks s.keeps) (s.Fw x)))
  |false=>False
def opW (w:WS) (o:Oper) (K:AV->WS->Prop):Prop:=
 match o.op with
 | .store t p x=>AF T (Pk T w.st p x) t ((Pk T w.st p x).ev p) ((Pk T w.st p x).ev x) λs=>K .undef (w.to s)
 | .makeSlice t l c=>Io o.dst λd=>KR T w.st d t (w.st.ev l) (w.st.ev c) λv s=>K v (w.to s)
 | .call {callee:= .builtin .append,args,argTypes} =>match o.dst,args.toList,argTypes.toList with
  |some d,[x,y],[t,t']=>if t=t' then so T w.st d t x y λv s=>K v (w.to s) else False
  |_,_,_=>False
 | .assign _=>Io (evalOp T Γ w.st o) λr=>K r.1 (w.to r.2)
 | .alloc _=>Io (evalOp T Γ w.st o) λr=>K r.1 (w.to r.2)
 | .box _ _=>Io (evalOp T Γ w.st o) λr=>K r.1 (w.to r.2)
 | .buildSlice t len parts=>Io o.dst λd=>fg T w.st d t len parts λv s=>K v (w.to s)
 | .build _ _=>Io (evalOp T Γ w.st o) λr=>K r.1 (w.to r.2)
 | .makeMap _ _=>Io (evalOp T Γ w.st o) λr=>K r.1 (w.to r.2)
 | .mapUpdate _ _ _ _=>Io (evalOp T Γ w.st o) λr=>K r.1 (w.to r.2)
 | .insert _ _ _ _=>Io (evalOp T Γ w.st o) λr=>K r.1 (w.to r.2)
 | .call {callee:= .builtin .copy, .. } =>Io (evalOp T Γ w.st o) λr=>K r.1 (w.to r.2)
 | .call {callee:= .builtin .clear, .. } =>Io (evalOp T Γ w.st o) λr=>K r.1 (w.to r.2)
 | .call {callee:= .value (.func f),args, .. } =>match Γ f with
  |some (.m s)=>IV w.st o.dst s (args.toList.map w.st.ev) λv s'=>K v (w.to s')
  |some (.q s)=>match fG s (args.toList.map w.st.ev) with
   |true=>Io (Ny args.toList w.st) λst1=>qW T Γ (w.to st1) o K
   |false=>qW T Γ w o K
  |_=>qW T Γ w o K
 |_=>qW T Γ w o K
def AV.YI:AV->Bool
 | .at .skip=>true
 |_=>false
def bW (w:WS) (o:Oper) (K:AV->WS->Prop):Prop:=
 match o.op with
 | .buildSlice t len parts=>Io (bS T w.st t len parts) λv=>K v w
 | .build t parts=>Io (Yp T w.st t parts) λv=>K v w
 |_=>qW T Γ w o K
def jC (ops:Array Oper) (w:WS) (o:Oper) (run:(AV->WS->Prop)->WS->Prop) (K:WS->Prop):Prop:=
 match o.guard with
 |none=>run (λv w'=>K (w'.w5 o v)) w
 |some (j,want)=>Io ((ops[j]?).bind (·.dst)) λt=>match (w.st.get t).YI with
  |true=>K (w.put o.dst (.at .skip))
  |false=>brT w t λb w'=>match b,want with
   |true,true=>run (λv qP=>K (qP.w5 o v)) w'
   |false,false=>run (λv qP=>K (qP.w5 o v)) w'
   |_,_=>K (w'.put o.dst (.at .skip))
def Ai1 (ops:Array Oper):List Oper->WS->(WS->Prop)->Prop
 | [],w,K=>K w
 |o::r,w,K=>jC ops w o (λk w'=>opW T Γ w' o k) λw'=>Ai1 ops r w' K
def YA (ops:Array Oper):List Nat->WS->(WS->Prop)->Prop
 | [],w,K=>K w
 |i::r,w,K=>Io ops[i]? λo=>jC ops w o (λk w'=>opW T Γ w' o k) λw'=>YA ops r w' K
def kX (ops:Array Oper):List Nat->WS->(WS->Prop)->Prop
 | [],w,K=>K w
 |i::r,w,K=>Io ops[i]? λo=>jC ops w o (λk w'=>bW T Γ w' o k) λw'=>kX ops r w' K
def VY:List Nat->(Nat->Prop)->Prop
 | [],_=>True
 | [i],P=>P i
 |i::j::r,P=>P i/\VY (j::r) P
def QW (ops:Array Oper):Nat->Array Bool->WS->(WS->Prop)->Prop
 |0,Ag,w,K=>match Region.ready .any ops Ag with
  | []=>K w
  |_::_=>False
 |f+1,Ag,w,K=>match Region.ready .any ops Ag with
  | []=>False
  |i::r=>VY (i::r) λk=>Io ops[k]? λo=>jC ops w o (λkk w'=>opW T Γ w' o kk) λw'=>QW ops f (Ag.setIfInBounds k true) w' K
def acV:AC->Type->Type
 | .data _ τ _,R=>τ.den×R
 | .sub _ _ _,R=>Nat×R
 | .Kw _ _,R=>Nat×R
 | .Ks _ _ _,R=>Nat×Nat×R
 |_,R=>R
def IJ:List AC->Type->Type
 | [],R=>R
 |c::r,R=>acV c (IJ r R)
def avV:AV->Type->Type
 | .at a,R=>acV a R
 | .agg cs,R=>IJ cs R
 | .bF _ τ _,R=>τ.den×R
 | .Ng _,R=>R
def obV:OB->Type->Type
 | .arr _ _ e _ _,R=>List e.den×R
 | .Hi e _ _,R=>List e.den×R
 | .var _ vs,R=>IJ vs R
 | .Bp e _ _ _ none,R=>List (List e.den)×R
 | .Bp e _ _ _ (some _),R=>List (List e.den)×(Nat×R)
 | .Wm v _,R=>(ByteArray->Option v.den)×R
def qN:List AV->Type->Type
 | [],R=>R
 |v::r,R=>avV v (qN r R)
def xa:List (Nat×OB)->Type->Type
 | [],R=>R
 |p::r,R=>obV p.2 (xa r R)
def stV (s:St):Type:=qN s.tmps (xa s.heap Unit)
def OD:(c:AC)-> {R:Type} ->R->acV c R
 | .data _ _ x,_,r=>(x,r)
 | .undef,_,r=>r
 | .skip,_,r=>r
 | .Mm,_,r=>r
 | .Wl,_,r=>r
 | .own _ _ _,_,r=>r
 | .Hv _ _,_,r=>r
 | .Kw _ i,_,r=>(i,r)
 | .clo _ _,_,r=>r
 | .Ld _,_,r=>r
 | .sub _ i _,_,r=>(i,r)
 | .Ks _ i j,_,r=>(i,j,r)
def sj:(l:List AC)-> {R:Type} ->R->IJ l R
 | [],_,r=>r
 |c::l,_,r=>OD c (sj l r)
def Aeb:(c:AV)-> {R:Type} ->R->avV c R
 | .at a,_,r=>OD a r
 | .agg cs,_,r=>sj cs r
 | .bF _ _ x,_,r=>(x,r)
 | .Ng _,_,r=>r
def Afm:(b:OB)-> {R:Type} ->R->obV b R
 | .arr _ _ _ _ xs,_,r=>(xs,r)
 | .Hi _ _ xs,_,r=>(xs,r)
 | .var _ vs,_,r=>sj vs r
 | .Bp _ _ rows _ none,_,r=>(rows,r)
 | .Bp _ _ rows _ (some p),_,r=>(rows,p.2,r)
 | .Wm _ m,_,r=>(m,r)
def s7:(l:List AV)-> {R:Type} ->R->qN l R
 | [],_,r=>r
 |c::l,_,r=>Aeb c (s7 l r)
def rS:(l:List (Nat×OB))-> {R:Type} ->R->xa l R
 | [],_,r=>r
 |p::l,_,r=>Afm p.2 (rS l r)
def QH (s:St):stV s:=s7 s.tmps (rS s.heap ())
def oL:(c d:AC)-> {R:Type} ->R->Option (acV c R)
 | .data fr τ _, .data Ww Pb x,_,r=>if h:Pb=τ/\Ww=fr then some (h.1▸x,r) else none
 | .undef, .undef,_,r=>some r
 | .skip, .skip,_,r=>some r
 | .Mm, .Mm,_,r=>some r
 | .Wl, .Wl,_,r=>some r
 | .own l _ _, .own l' _ _,_,r=>if l=l' then some r else none
 | .Hv l i, .Hv l' i',_,r=>if l=l'/\i=i' then some r else none
 | .Kw l _, .Kw l' i',_,r=>if l=l' then some (i',r) else none
 | .clo f c, .clo f' c',_,r=>if f=f'/\c=c' then some r else none
 | .Ld l, .Ld l',_,r=>if l=l' then some r else none
 | .sub l _ c, .sub l' i' c',_,r=>if l=l'/\c=c' then some (i',r) else none
 | .Ks l _ _, .Ks l' i' j',_,r=>if l=l' then some (i',j',r) else none
 |_,_,_,_=>none
def Tk:(l m:List AC)-> {R:Type} ->R->Option (IJ l R)
 | [],[],_,r=>some r
 |c::l,d::m,_,r=>(Tk l m r).bind λr'=>oL c d r'
 |_,_,_,_=>none
def lR:(c d:AV)-> {R:Type} ->R->Option (avV c R)
 | .at a, .at b,_,r=>oL a b r
 | .agg cs, .agg ds,_,r=>Tk cs ds r
 | .bF fr τ _, .bF Ww Pb x,_,r=>if h:Pb=τ/\Ww=fr then some (h.1▸x,r) else none
 |_,_,_,_=>none
def Ug:(b d:OB)-> {R:Type} ->R->Option (obV b R)
 | .arr fr tr e tid _, .arr Ww tr' e' Vq xs,_,r=>if h:e'=e/\Ww=fr/\tr'=tr/\Vq=tid then some (h.1▸xs,r) else none
 | .Hi e tid _, .Hi e' Vq xs,_,r=>if h:e'=e/\Vq=tid then some (h.1▸xs,r) else none
 | .Wm v _, .Wm v' m,_,r=>if h:v'=v then some (h▸m,r) else none
 | .var t vs, .var t' us,_,r=>if t'=t then Tk vs us r else none
 | .Bp e te _ out none, .Bp e' Sj rows hY none,_,r=>if h:e'=e/\Sj=te/\hY=out then some (h.1▸rows,r) else none
 | .Bp e te _ out (some p), .Bp e' Sj rows hY (some p'),_,r=>if h:e'=e/\Sj=te/\hY=out/\p'.1=p.1 then some (h.1▸rows,p'.2,r) else none
 |_,_,_,_=>none
def Py:(l m:List AV)-> {R:Type} ->R->Option (qN l R)
 | [],[],_,r=>some r
 |c::l,d::m,_,r=>(Py l m r).bind λr'=>lR c d r'
 |_,_,_,_=>none
def Rf:(l m:List (Nat×OB))-> {R:Type} ->R->Option (xa l R)
 | [],[],_,r=>some r
 |p::l,q::m,_,r=>if q.1=p.1 then (Rf l m r).bind λr'=>Ug p.2 q.2 r' else none
 |_,_,_,_=>none
def jz (s t:St):Option (stV s):=(Rf s.heap t.heap ()).bind λr=>Py s.tmps t.tmps r
def lM:(c:AC)-> {R:Type} ->acV c R->AC×R
 | .data fr τ _,_,v=>(.data fr τ v.1,v.2)
 | .undef,_,r=>(.undef,r)
 | .skip,_,r=>(.skip,r)
 | .Mm,_,r=>(.Mm,r)
 | .Wl,_,r=>(.Wl,r)
 | .own l off len,_,r=>(.own l off len,r)
 | .Hv l i,_,r=>(.Hv l i,r)
 | .Kw l _,_,v=>(.Kw l v.1,v.2)
 | .clo f c,_,r=>(.clo f c,r)
 | .Ld l,_,r=>(.Ld l,r)
 | .sub l _ c,_,v=>(.sub l v.1 c,v.2)
 | .Ks l _ _,_,v=>(.Ks l v.1 v.2.1,v.2.2)
def aS:(l:List AC)-> {R:Type} ->IJ l R->List AC×R
 | [],_,r=>([],r)
 |c::l,_,v=>((lM c v).1::(aS l (lM c v).2).1,(aS l (lM c v).2).2)
def su:(c:AV)-> {R:Type} ->avV c R->AV×R
 | .at a,_,v=>(.at (lM a v).1,(lM a v).2)
 | .agg cs,_,v=>(.agg (aS cs v).1,(aS cs v).2)
 | .bF fr τ _,_,v=>(.bF fr τ v.1,v.2)
 | .Ng l,_,r=>(.Ng l,r)
def tK:(b:OB)-> {R:Type} ->obV b R->OB×R
 | .arr fr tr e tid _,_,v=>(.arr fr tr e tid v.1,v.2)
 | .Hi e tid _,_,v=>(.Hi e tid v.1,v.2)
 | .Wm w _,_,v=>(.Wm w v.1,v.2)
 | .var t vs,_,v=>(.var t (aS vs v).1,(aS vs v).2)
 | .Bp e te _ out none,_,v=>(.Bp e te v.1 out none,v.2)
 | .Bp e te _ out (some p),_,v=>(.Bp e te v.1 out (some (p.1,v.2.1)),v.2.2)
def Xr:(l:List AV)-> {R:Type} ->qN l R->List AV×R
 | [],_,r=>([],r)
 |c::l,_,v=>((su c v).1::(Xr l (su c v).2).1,(Xr l (su c v).2).2)
def er:(l:List (Nat×OB))-> {R:Type} ->xa l R->List (Nat×OB)×R
 | [],_,r=>([],r)
 |p::l,_,v=>((p.1,(tK p.2 v).1)::(er l (tK p.2 v).2).1,(er l (tK p.2 v).2).2)
def jy (s:St) (v:stV s):St:= {tmps:=(Xr s.tmps v).1,heap:=(er s.heap (Xr s.tmps v).2).1}
def lenOf (H:List (Nat×OB)) (l:Nat):Nat:=match At H l with|some (.arr _ _ _ _ xs)=>xs.length|some (.Hi _ _ xs)=>xs.length|some (.Bp _ _ rows _ _)=>rows.length|_=>0
def ay (ps:List Nat):List AV->List (Nat×Nat×Nat)
 | []=> []
 | .at (.own l off len)::r=>if ps.contains l then (l,off,len)::ay ps r else ay ps r
 |_::r=>ay ps r
def Ahz:List (Nat×Nat×Nat)->Nat->Nat
 | [],_=>0
 |(k,o,_)::r,l=>if k=l then o else Ahz r l
def RZ:List (Nat×Nat×Nat)->List (Nat×OB)->Nat->Nat
 | [],H,l=>lenOf H l
 |(k,_,n)::r,H,l=>if k=l then n else RZ r H l
def gm (B:List (Nat×Nat×Nat)) (H:List (Nat×OB)):AC->AC
 | .own l _ _=> .own l (Ahz B l) (RZ B H l)
 |c=>c
def St.whole (B:List (Nat×Nat×Nat)) (s:St):St:=s.Ln (gm B s.heap)
def ym (B:List (Nat×Nat×Nat)) (H:List (Nat×OB)) (c:AC) (K:Prop):Prop:=match c with
 | .own l off len=>off=Ahz B l/\len=RZ B H l/\K
 |_=>K
def dS (B:List (Nat×Nat×Nat)) (H:List (Nat×OB)):List AC->Prop->Prop
 | [],K=>K
 |c::r,K=>ym B H c (dS B H r K)
def OF (B:List (Nat×Nat×Nat)) (H:List (Nat×OB)) (c:AV) (K:Prop):Prop:=match c with
 | .at a=>ym B H a K
 | .agg cs=>dS B H cs K
 | .bF _ _ _=>K
 | .Ng _=>False
def bE (B:List (Nat×Nat×Nat)) (H:List (Nat×OB)):List AV->Prop->Prop
 | [],K=>K
 |c::r,K=>OF B H c (bE B H r K)
def jT (B:List (Nat×Nat×Nat)) (H:List (Nat×OB)):List (Nat×OB)->Prop->Prop
 | [],K=>K
 |p::r,K=>match p.2 with
  | .var _ vs=>dS B H vs (jT B H r K)
  |_=>jT B H r K
def AD (B:List (Nat×Nat×Nat)) (s:St) (K:Prop):Prop:=bE B s.heap s.tmps (jT B s.heap s.heap K)
def AV.Yz:AV->Bool
 | .at (.data _ _ _)=>true
 |_=>false
def Lb (p:Nat->Bool):Nat->List AV->List Bool
 |_,[]=> []
 |i,v::r=>(v.Yz&&p i)::Lb p (i+1) r
def stays (live:Nat->List Nat) (c:Code) (t:Nat):Bool:=!(writes c).contains t&&c8 live c t
def Uw:List Bool->List AV->List AV
 |true::f,_::r=> .undef::Uw f r
 |false::f,v::r=>v::Uw f r
 |_,l=>l
def Vz:List Bool->List AV->List AV->List AV
 |true::f,a::s,_::r=>a::Vz f s r
 |false::f,_::s,v::r=>v::Vz f s r
 |_,_,l=>l
def St.mask (fx:List Bool) (s:St):St:= {tmps:=Uw fx s.tmps,heap:=s.heap}
def St.vO (fx:List Bool) (s0 s:St):St:= {tmps:=Vz fx s0.tmps s.tmps,heap:=s.heap}
def rO (c:AC) (k:AC->Prop):Prop:=match c with
 | .undef=>k .undef
 | .skip=>k .skip
 | .Mm=>k .Mm
 | .Wl=>k .Wl
 | .data fr τ x=>match fr with
  |true=>k (.data true τ x)
  |false=>k (.data false τ x)
 | .own l off len=>k (.own l off len)
 | .Hv l i=>k (.Hv l i)
 | .Kw l i=>k (.Kw l i)
 | .clo f c=>k (.clo f c)
 | .Ld l=>k (.Ld l)
 | .sub l i c=>k (.sub l i c)
 | .Ks l i c=>k (.Ks l i c)
def iO:List AC->(List AC->Prop)->Prop
 | [],k=>k []
 |c::r,k=>rO c λc'=>iO r λr'=>k (c'::r')
def yJ (c:AV) (k:AV->Prop):Prop:=match c with
 | .at a=>rO a λa'=>k (.at a')
 | .agg cs=>iO cs λiG=>k (.agg iG)
 | .bF fr τ x=>k (.bF fr τ x)
 | .Ng l=>k (.Ng l)
def iP:List AV->(List AV->Prop)->Prop
 | [],k=>k []
 |c::r,k=>yJ c λc'=>iP r λr'=>k (c'::r')
def yK (b:OB) (k:OB->Prop):Prop:=match b with
 | .arr fr tr e tid xs=>match fr,tr with
  |true,true=>k (.arr true true e tid xs)
  |true,false=>k (.arr true false e tid xs)
  |false,true=>k (.arr false true e tid xs)
  |false,false=>k (.arr false false e tid xs)
 | .Hi e tid xs=>k (.Hi e tid xs)
 | .var t vs=>iO vs λvs'=>k (.var t vs')
 | .Bp e te rows out kp=>match out,kp with
  |none,none=>k (.Bp e te rows none none)
  |none,some (l,n)=>k (.Bp e te rows none (some (l,n)))
  |some i,none=>k (.Bp e te rows (some i) none)
  |some i,some (l,n)=>k (.Bp e te rows (some i) (some (l,n)))
 | .Wm v m=>k (.Wm v m)
def sM:List (Nat×OB)->(List (Nat×OB)->Prop)->Prop
 | [],k=>k []
 |(l,b)::r,k=>yK b λb'=>sM r λr'=>k ((l,b')::r')
def aB (w:WS) (k:WS->Prop):Prop:=iP w.st.tmps λt=>sM w.st.heap λh=>k {kn:=w.kn,st:= {tmps:=t,heap:=h} }
def oX (s:St) (k:St->Prop):Prop:=iP s.tmps λt=>sM s.heap λh=>k {tmps:=t,heap:=h}
def fo:List Bool->(List Bool->Prop)->Prop
 | [],k=>k []
 |true::r,k=>fo r λr'=>k (true::r')
 |false::r,k=>fo r λr'=>k (false::r')
theorem q9 {c:AC} {k:AC->Prop} :rO c k↔k c:=by
 cases c<;>simp only [rO]
 split<;>rfl
theorem fk: ∀ {l:List AC} {k:List AC->Prop},iO l k↔k l
 | [],k=>Iff.rfl
 |c::r,k=>by simp only [iO];rw [q9,fk]
theorem CX {c:AV} {k:AV->Prop} :yJ c k↔k c:=by
 cases c<;>simp only [yJ]
 ·exact q9
 ·exact fk
theorem fm: ∀ {l:List AV} {k:List AV->Prop},iP l k↔k l
 | [],k=>Iff.rfl
 |c::r,k=>by simp only [iP];rw [CX,fm]
theorem CY {b:OB} {k:OB->Prop} :yK b k↔k b:=by
 cases b<;>simp only [yK]
 ·split<;>rfl
 ·exact fk
 ·split<;>rfl
theorem m5: ∀ {l:List (Nat×OB)} {k:List (Nat×OB)->Prop},sM l k↔k l
 | [],k=>Iff.rfl
 |(l,b)::r,k=>by simp only [sM];rw [CY,m5]
theorem RM {s:St} {k:St->Prop} :oX s k=k s:=by
 unfold oX
 exact propext (by rw [fm,m5])
theorem fp: ∀ {l:List Bool} {k:List Bool->Prop},fo l k=k l
 | [],k=>rfl
 |true::r,k=>by simp only [fo];rw [fp]
 |false::r,k=>by simp only [fo];rw [fp]
theorem Ou {w:WS} {k:WS->Prop} :aB w k↔k w:=by
 unfold aB
 rw [fm,m5]
def bL:AC->List (Nat×Nat)
 | .own _ off len=> [(off,len)]
 |_=> []
def bN:AV->List (Nat×Nat)
 | .at a=>bL a
 | .agg cs=>cs.flatMap bL
 |_=> []
def mn:OB->List (Nat×Nat)
 | .var _ vs=>vs.flatMap bL
 |_=> []
def MY (s:St):List (Nat×Nat):=s.tmps.flatMap bN++s.heap.flatMap λp=>mn p.2
def eqW (s0 s:St):Prop:=MY s=MY s0/\Io (jz s0 s) λv=>v=QH s0
def bX (ops:Array Oper):Nat->Array Bool->WS->(WS->Prop)->Prop
 |0,Ag,w,K=>match Region.ready .any ops Ag with
  | []=>K w
  |_::_=>False
 |f+1,Ag,w,K=>match Region.ready .any ops Ag with
  | []=>False
  |k::_=>Io ops[k]? λo=>jC ops w o (λkk w'=>opW T Γ w' o kk) λw'=>bX ops f (Ag.setIfInBounds k true) w' K
def BR (P:List (Nat×Nat×AV×OB)) (ops:Array Oper):Nat->Array Bool->WS->(WS->Prop)->Prop
 |0,Ag,w,K=>match Region.ready .any ops Ag with
  | []=>K w
  |_::_=>False
 |f+1,Ag,w,K=>match Region.ready .any ops Ag with
  | []=>False
  |i::r=>VY (i::r) λk=>Io ops[k]? λo=>match KX P Γ ops w.st o k with
   |true=>jC ops w o (λkk w'=>opW T Γ w' o kk) λw'=>BR P ops f (Ag.setIfInBounds k true) w' K
   |false=>False
def ya (ops:Array Oper) (E:List Nat) (Ag:Array Bool) (w:WS):List Nat->Prop->Prop
 | [],K=>K
 |r::R,K=>match s8 ops E Ag r with
  |true=>ya ops E Ag w R K
  |false=>(kX T Γ ops [r] w λw'=>Io ((ops[r]?).bind (·.dst)) λd=>match Nat.blt d w.st.tmps.length with
    |true=>eqW ⟨[w.st.get d],[]⟩ ⟨[w'.st.get d],[]⟩
    |false=>False)/\ya ops E Ag w R K
def sk (ops:Array Oper) (E:List Nat):Nat->Array Bool->WS->(WS->Prop)->Prop
 |0,Ag,w,K=>ya T Γ ops E Ag w E (match Region.ready .any ops Ag with
  | []=>K w
  |_::_=>False)
 |f+1,Ag,w,K=>ya T Γ ops E Ag w E (match Region.ready .any ops Ag with
  | []=>False
  |i::r=>VY (i::r) λk=>Io ops[k]? λo=>jC ops w o (λkk w'=>opW T Γ w' o kk) λw'=>sk ops E f (Ag.setIfInBounds k true) w' K)
def LZ (E:List Nat) (n:Nat) (L0:Array Bool) (ops:Array Oper) (w:WS) (K:WS->Prop):Prop:=
 match cY ops E L0&&(Nat.ble E.length n&&Nat.ble (n-E.length) 10) with
 |true=>kX T Γ ops E w λw1=>aB w1 λw1=>bX T Γ ops (n-E.length) (Em E L0) w1 λw0=>aB w0 λw0=>K w0/\sk T Γ ops E (n-E.length) (Em E L0) w1 λw2=>aB w2 λw2=>eqW w0.st w2.st
 |false=>False
def yw (P:List (Nat×Nat×AV×OB)) (n:Nat) (L0:Array Bool) (ops:Array Oper) (w:WS) (K:WS->Prop):Prop:=
 match (aC (P.map (·.1))&&aC (P.map (·.2.1)))&&((P.all λa=>pj a.2.1 w.st)&&(Nat.ble P.length n&&Nat.ble (n-P.length) 10)) with
 |true=>YA T Γ ops (P.map (·.1)) w λw1=>aB w1 λw1=>bX T Γ ops (n-P.length) (Em (P.map (·.1)) L0) w1 λw0=>aB w0 λw0=>K w0/\BR T Γ P ops (n-P.length) (Em (P.map (·.1)) L0) w1 λw2=>eqW w0.st w2.st
 |false=>LZ T Γ (kh ops (List.range ops.size) L0) n L0 ops w K
def jb:Nat:=800000000
def FD (ops:Array Oper):Nat->Array Bool->Bool
 |0,Ag=>(Region.ready .any ops Ag).isEmpty
 |f+1,Ag=>match Region.ready .any ops Ag with
  | [i]=>FD ops f (Ag.setIfInBounds i true)
  |_=>false
def QC (ops:Array Oper) (L0:Array Bool):List Nat:=kh ops (List.range ops.size) L0
def xx (ops:Array Oper):Array Bool:=Em (Le ops) (Array.replicate ops.size false)
def ZC (ops:Array Oper):Bool:=Region.noSelect ops&&(cY ops (QC ops (xx ops)) (xx ops)&&(Nat.ble (QC ops (xx ops)).length (ops.size-(Le ops).length)&&Nat.ble ((ops.size-(Le ops).length)-(QC ops (xx ops)).length) 10))
def eqM (fx:List Bool) (s0 s:St):Prop:=eqW (s0.mask fx) (s.mask fx)
def Tv (ops:Array Oper) (t:Nat):Bool:=!Zp ops t
def uU (ops:Array Oper):List Nat:=(ops.toList.filterMap λo=>match o.op with
 | .alloc _=>none
 | .box _ _=>none
 | .assign _=>none
 |_=>o.dst).filter λd=>ops.toList.any λo=>(o.looksAt ops).contains d
def WS.Ri (dead:List Nat) (w:WS):WS:= {kn:=w.kn.filter λp=>!dead.contains p.1,st:=w.st.Ri dead}
def ZD (dead E:List Nat) (n:Nat) (L0:Array Bool) (ops:Array Oper) (w:WS) (K:WS->Prop):Prop:=
 match cY ops E L0&&Nat.ble E.length n with
 |true=>kX T Γ ops E w λw1=>aB w1 λw1=>match FD ops (n-E.length) (Em E L0) with
  |true=>sk T Γ ops E (n-E.length) (Em E L0) w1 λw2=>K (w2.Ri dead)
  |false=>fo (Lb (Tv ops) 0 w1.st.tmps) λfx=>bX T Γ ops (n-E.length) (Em E L0) w1 λw0=>aB (w0.Ri dead) λw0=>K w0/\sk T Γ ops E (n-E.length) (Em E L0) w1 λw2=>aB (w2.Ri dead) λw2=>eqM fx w0.st w2.st
 |false=>False
def s6 (ops:Array Oper) (draw:Bool) (w:WS) (K:WS->Prop):Prop:=
 match draw with
 |true=>match cX false Γ ops with
  |true=>kX T Γ ops (jS false Γ ops) w λw'=>YA T Γ ops (Kc false Γ ops) w' K
  |false=>match cX true Γ ops with
   |true=>kX T Γ ops (jS true Γ ops) w λw'=>YA T Γ ops (Kc true Γ ops) w' K
   |false=>match Region.noSelect ops&&Nat.ble (ops.size-(Le ops).length) 8 with
    |true=>kX T Γ ops (Le ops) w λw'=>match jO false ops&&!T.marks.contains jb with
     |true=>QW T Γ ops (ops.size-(Le ops).length) (Em (Le ops) (Array.replicate ops.size false)) w' K
     |false=>bX T Γ ops (ops.size-(Le ops).length) (Em (Le ops) (Array.replicate ops.size false)) w' λw0=>aB w0 λw0=>K w0/\QW T Γ ops (ops.size-(Le ops).length) (Em (Le ops) (Array.replicate ops.size false)) w' λw1=>eqW w0.st w1.st
    |false=>match Region.noSelect ops with
     |true=>kX T Γ ops (Le ops) w λw'=>yw T Γ (a7 T ops (Em (Le ops) (Array.replicate ops.size false))) (ops.size-(Le ops).length) (Em (Le ops) (Array.replicate ops.size false)) ops w' K
     |false=>False
 |false=>Ai1 T Γ ops ops.toList w K
def zJ (ops:Array Oper) (draw:Bool) (w:WS) (K:WS->Prop):Prop:=
 match T.marks.contains jb&&(uU ops).all (Zp ops) with
 |true=>match draw&&(!(cX false Γ ops||cX true Γ ops)&&ZC ops) with
  |true=>kX T Γ ops (Le ops) w λw'=>ZD T Γ (uU ops) (QC ops (xx ops)) (ops.size-(Le ops).length) (xx ops) ops w' K
  |false=>s6 T Γ ops draw w λw'=>K (w'.Ri (uU ops))
 |false=>s6 T Γ ops draw w K
def dW (live:Nat->List Nat):Code->WS->(Ma->WS->Prop)->Prop
 | .skip,w,Q=>Q .normal w
 | .label _,w,Q=>Q .normal w
 | .region _ ops draw,w,Q=>zJ T (zI Γ draw) ops draw {w with st:=w.st.mX ops} λw'=>aB w' (Q .normal)
 | .seq a b,w,Q=>dW live a w λe w'=>match e with
  | .normal=>dW live b w' Q
  | .exit id=>Q (.exit id) w'
  | .ret=>Q .ret w'
 | .cond c a b,w,Q=>brO w c λt w'=>match t with
  |true=>dW live a w' Q
  |false=>dW live b w' Q
 | .block id c,w,Q=>dW live c w λe w'=>match e with
  | .normal=>Q .normal w'
  | .exit RW=>if RW=id then Q .normal w' else Q (.exit RW) w'
  | .ret=>Q .ret w'
 | .loop c,w,Q=>
  oX (w.st.clean (live (Fc c))) λs0=>fo (Lb (stays live c) 0 s0.tmps) λfx=>oX (s0.mask fx) λm=>
  AD (ay T.parts s0.tmps) s0 (Dl (V:=stV m) (λv k=>oX ((St.vO fx s0 (jy m v)).whole (ay T.parts s0.tmps)) λsb=>dW live c ⟨[],sb⟩ λe w'=>match e with
   | .normal=>oX (w'.st.clean (live (Fc c))) λs1=>AD (ay T.parts s0.tmps) s1 (Io (jz m (s1.mask fx)) k)
   | .exit id=>Q (.exit id) w'
   | .ret=>Q .ret w') (QH m))
 | .exit id,w,Q=>Q (.exit id) w
 | .ret,w,Q=>Q .ret w
 |_,_,_=>False
def Ag6 (s:Spec) (fn:Func) (P:s.res.den->Prop) (st:St):Prop:=
 Io (nm T s fn st) λp=>match p.1||!s.fresh with|true=>P p.2|false=>False
def j5 (st:St) (K:Prop):List AC->List (Bool×CK)->Prop
 | .own l off len::as,(true,_)::r=>match st.at l with
  |some (.arr _ _ _ _ xs)=>(off=0/\len=xs.length)/\j5 st K as r
  |some (.Hi _ _ xs)=>(off=0/\len=xs.length)/\j5 st K as r
  |_=>False
 |_::as,(false,_)::r=>j5 st K as r
 |_,_=>K
def po (st:St):(cs:List CK)->List AC->(CKs.den cs->List Nat->Prop)->Prop
 | [],[],K=>K () []
 | .Bp e te _::r, .own l off len::as,K=>match st.at l with
  |some (.Bp e' Sj rows none _)=>if h:e'=e/\Sj=te then (off=0/\len=rows.length)/\po st r as λy t=>K ((h.1▸rows:List (List e.den)),y) (l::t) else False
  |_=>False
 |c::r,a::as,K=>Io (kG st c a) λp=>po st r as λy t=>K (p.1,y) (p.2++t)
 |_,_,_=>False
def z7 (st:St) (n:Nat) (as:List AC):List (Nat×Nat)->Prop->Prop
 | [],K=>K
 |(k,j)::r,K=>match as[j]? with
  |some (.own l _ _)=>match st.at l with
   |some (.Bp _ _ _ _ (some p))=>match Nat.beq p.1 (Ea false k)&&Nat.blt k 1000 with
    |true=>n<=p.2/\z7 st n as r K
    |false=>False
   |_=>False
  |_=>False
def uc (s:MSpec) (fn:Func) (x:Ins.den s.ins) (st:St) (cs:List AC) (P:CKs.den s.outs×IOs.den s.ins->Prop):Prop:=
 Io (dF T st fn.results.toList) λl=>Io (MD s st l) λp=>po st s.outs (cs++p.1) λr ls=>Io (Po st 0 s.ins) λo=>
  match aC (p.2++ls++Qs 0 s.ins)&&Nat.blt s.ins.length 1000&&Nat.blt s.outs.length 1000&&s.YV with
  |true=>z7 st (s.Fw x) (cs++p.1) s.keeps (P (r,o))
  |false=>False
def QE (s:MSpec) (fn:Func) (x:Ins.den s.ins) (st:St) (P:CKs.den s.outs×IOs.den s.ins->Prop):Prop:=
 match s.ptr with
 |none=>uc T s fn x st [] P
 |some p=>match st.at Pz with
  |some (.var tid vs)=>match Nat.beq tid p.1&&Nat.beq vs.length p.2 with
   |true=>Io (Jy 0 s.ins vs) λcs=>j5 st (uc T s fn x st cs P) vs s.ins
   |false=>False
  |_=>False
@[irreducible] def fnMW (s:MSpec) (fn:Func) (x:Ins.den s.ins) (P:CKs.den s.outs×IOs.den s.ins->Prop):Prop:=
 match Nat.blt s.ins.length 1000&&zD s with
 |false=>False
 |true=>Io fn.body λc=>dW T Γ (zc T.marks fn c) c {kn:= [],st:= {tmps:=aN s (c6 0 s.ins x)++List.replicate (fn.ntmps-(aN s (c6 0 s.ins x)).length) .undef,heap:=qh s x} } λe w=>match e with
  | .normal=>QE T s fn x w.st P
  | .ret=>QE T s fn x w.st P
  | .exit _=>False
@[irreducible] def fnW (s:Spec) (fn:Func) (x:s.arg.den) (P:s.res.den->Prop):Prop:=
 Io fn.body λc=>dW T Γ (zc T.marks fn c) c {kn:= [],st:= {tmps:=Uc s.arg x++List.replicate (fn.ntmps-(Uc s.arg x).length) .undef,heap:= []} } λe w=>match e with
  | .normal=>Ag6 T s fn P w.st
  | .ret=>Ag6 T s fn P w.st
  | .exit _=>False
end Go.Proofs.YtkkdpknjohcekaaGreat
