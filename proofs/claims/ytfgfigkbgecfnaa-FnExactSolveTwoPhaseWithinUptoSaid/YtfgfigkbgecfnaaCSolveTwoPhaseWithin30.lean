/-
  Part 31 of the proof that the statement FnExactSolveTwoPhaseWithin holds.
-/
import Derived.Test.YtfgfigkbgecfnaaCSolveTwoPhaseWithin29
namespace Go.Proofs.Ytfgfigkbgecfnaa
open Go.RowKit
inductive Br (b:Bool) (A B:Prop):Prop
 |mk (t:b=true->A) (f:b=false->B)
inductive Dh {V:Type} (step:V->(V->Prop)->Prop) (v0:V):Prop
 |mk (I:V->Prop) (μ:V->Nat) (h0:I v0) (h: ∀v,I v->step v (λv'=>I v'/\μ v'<μ v))
structure WS where
 kn:List (Nat×Bool)
 st:St
def oh:List (Nat×Bool)->Nat->Option Bool
 | [],_=>none
 |(k,b)::r,t=>if k=t then some b else oh r t
def ye:List (Nat×Bool)->Nat->List (Nat×Bool)
 | [],_=> []
 |(k,b)::r,t=>if k=t then ye r t else (k,b)::ye r t
def WS.put (w:WS) (dst:Option Tmp) (v:AV):WS:=
 match dst with
 |some d=> {kn:=ye w.kn d,st:=w.st.put (some d) v}
 |none=>w
def Xg (kn:List (Nat×Bool)):Operand->Option Bool
 | .const (.bool b)=>some b
 | .tmp t=>oh kn t
 |_=>none
def Ht (kn:List (Nat×Bool)) (o:Oper):Option Bool:=
 match o.op with
 | .assign x=>Xg kn x
 | .move x=>Xg kn x
 | .unOp .not _ x=>(Xg kn x).map (!·)
 | .pick c a b=>match Xg kn c with
  |some true=>Xg kn a
  |some false=>Xg kn b
  |none=>none
 |_=>none
def WS.x6 (w:WS) (o:Oper) (v:AV):WS:=
 match o.dst,Ht w.kn o with
 |some d,some b=>match (w.st.put (some d) v).get d with
  | .at (.data _ .bool _)=> {kn:=(d,b)::ye w.kn d,st:=w.st.put (some d) v}
  |_=>w.put (some d) v
 |dst,_=>w.put dst v
def WS.to (w:WS) (st:St):WS:= {kn:=w.kn,st:=st}
def brT (w:WS) (t:Nat) (K:Bool->WS->Prop):Prop:=
 match oh w.kn t with
 |some b=>K b w
 |none=>match w.st.get t with
  | .at (.data _ .bool b)=>Br b (K true {kn:=(t,true)::w.kn,st:=w.st}) (K false {kn:=(t,false)::w.kn,st:=w.st})
  |_=>False
def brO (w:WS) (c:Operand) (K:Bool->WS->Prop):Prop:=
 match c with
 | .tmp t=>brT w t K
 | .const (.bool b)=>K b w
 |_=>False
def Ig {α:Type} (o:Option α) (K:α->Prop):Prop:=match o with|some x=>K x|none=>False
def Amb (T:Tab) (st:St) (t:TypeId) (x:AV) (l h:Int):Option AV:=
 match x with
 | .at (.data fr (.slice e) xs)=>if (T.elem t).bind T.ty=some e then some (.at (.data fr (.slice e) ((xs.take h.toNat).drop l.toNat))) else none
 | .at (.own k off _)=>match st.at k with
  |some (.arr _ _ e tid _)=>if T.elem t=some tid/\T.ty tid=some e then some (.at (.own k (off+l.toNat) (h.toNat-l.toNat))) else none
  |_=>none
 | .at (.data _ .str s)=>if T.ty t=some .str then some (.at (.data true .str (s.extract l.toNat h.toNat))) else none
 |_=>none
variable (T:Tab) (Γ:Env)
def Ajo (op:BinOp) (t:TypeId) (x y:AV) (K:AV->Prop):Prop:=
 match op,x,y with
 | .quo, .at (.data _ (.int k) a), .at (.data _ (.int k') b)=>if k=k' then b≠0/\K (.at (.data true (.int k) (k.wrap (a.tdiv b)))) else False
 | .rem, .at (.data _ (.int k) a), .at (.data _ (.int k') b)=>if k=k' then b≠0/\K (.at (.data true (.int k) (a.tmod b))) else False
 | .shl, .at (.data _ (.int k) a), .at (.data _ (.int _) b)=> ¬b<0/\K (.at (.data true (.int k) (k.wrap (a*2^(min b.toNat k.bits)))))
 | .shr, .at (.data _ (.int k) a), .at (.data _ (.int _) b)=> ¬b<0/\K (.at (.data true (.int k) (a.fdiv (2^(min b.toNat k.bits)))))
 | .add, .at (.data _ .str a), .at (.data _ .str b)=>a.size+b.size<=4294967296/\K (.at (.data true .str (a++b)))
 |op,x,y=>Ig (Uo T op t x y) K
def Abh (st:St) (t:TypeId) (p:AV) (K:AV->Prop):Prop:=
 match p with
 | .at (.Kq l i)=>Ig (T.ty t) λτ=>match st.at l with
  |some (.arr fr _ e _ xs)=>if e=τ then ∃x,xs[i]?=some x/\K (.at (.data (fr||e.flat) e x)) else False
  |some (.Hl e _ xs)=>if e=τ then ∃x,xs[i]?=some x/\K (if e.Ar then .agg (gL l i 0 e x) else .at ((gL l i 0 e x).headD .undef)) else False
  |some (.Ca _ _ _ none _)=>if τ.Ar then False else K (.at (.sub l i 0))
  |_=>False
 | .at (.data fr (.optr Ow) x)=>Ig (T.ty t) λτ=>if Ow=τ then ∃y,x=some y/\K (.at (.data (fr||Ow.flat) Ow y)) else False
 |p=>Ig (Qr T st t p) K
def mB (s:TypeId) (x:AV) (f:Nat) (K:AV->Prop):Prop:=
 match x with
 | .at (.data fr (.optr τ) x)=> ∃y,x=some y/\Ig (Oq T s (.at (.data fr (.ptr τ) y)) f) K
 |x=>Ig (Oq T s x f) K
def yr (st:St) (x:Operand) (K:AV->Prop) (d:Option AV):Prop:=
 match st.ev x with
 | .at (.data fr (.optr τ) x)=> ∃y,x=some y/\K (.at (.data fr (.ptr τ) y))
 |_=>Ig d K
def PT (st:St) (t:TypeId) (x:AV) (lo hi:Option AV) (K:AV->Prop):Prop:=
 Ig (GU x) λn=>Ig (YK lo 0) λl=>Ig (YK hi n) λh=>(0<=l/\l<=h/\h<=n)/\Ig (Amb T st t x l h) K
def mK (st:St) (t:TypeId) (x i:AV) (K:AV->Prop):Prop:=
 match x,i with
 | .at (.data fr (.slice e) xs), .at (.data _ (.int _) n)=>if (T.elem t).bind T.ty=some e then ∃x,idx xs n=some x/\K (.at (.data fr (.ptr e) x)) else False
 | .at (.own l off len), .at (.data _ (.int _) n)=>match st.at l with
  |some (.arr _ _ e tid _)=>if T.elem t=some tid/\T.ty tid=some e then (0<=n/\n<len)/\K (.at (.Kq l (off+n.toNat))) else False
  |some (.Hl e tid _)=>if T.elem t=some tid/\T.ty tid=some e then (0<=n/\n<len)/\K (.at (.Kq l (off+n.toNat))) else False
  |some (.Ca _ te _ _ _)=>if T.elem t=some te/\(T.ty te).map Ty.size=some 1 then (0<=n/\n<len)/\K (.at (.Kq l (off+n.toNat))) else False
  |_=>False
 | .at (.sub l i _), .at (.data _ (.int _) n)=>match st.at l with
  |some (.Ca e _ rows none _)=>if ((T.elem t).bind T.ty).map Ty.size=some e.size then (0<=n/\n<(rows.getD i []).length)/\K (.at (.Kl l i n.toNat)) else False
  |_=>False
 |_,_=>False
def NM (t:TypeId) (x i:AV) (K:AV->Prop):Prop:=
 match x,i with
 | .at (.data _ .str s), .at (.data _ (.int _) n)=>if T.ty t=some .str then 0<=n/\ ∃b,s[n.toNat]?=some b/\K (.at (.data true (.int .u8) b.toNat)) else False
 |_,_=>False
def xM (st:St) (f:FuncId) (args:List AV) (K:AV->Prop):Prop:=
 Ig (match Γ f with|some (.q s)=>some s|_=>none) λs=>match s.fresh||s.res.flat||args.all (·.settled) with
  |true=>Ig (Eg st s.arg args) λp=> ∃y,s.fn p.2=some y/\K (if s.Jy then .bL (s.fresh||s.res.flat) s.res y else .at (.data (s.fresh||s.res.flat) s.res y))
  |false=>False
def MC (st:St) (v:AV) (args:List AV) (K:AV->Prop):Prop:=
 match v with
 | .at (.data fr (.clo f τ) x)=>match τ.chain with|true=>(match Nat.blt f 1000000000 with|true=>xM Γ st f (args++bT fr τ x) K|false=>xM Γ st (f-1000000000) (bT fr τ x++args) K)|false=>False
 | .at (.clo f En)=>xM Γ st f (args++En.map λp=> .at (.Hs p.1 p.2)) K
 |_=>False
def qW (w:WS) (o:Oper) (K:AV->WS->Prop):Prop:=
 match o.op with
 | .pick c a b=>brO w c λt w'=>match t with|true=>K (w'.st.ev a) w'|false=>K (w'.st.ev b) w'
 | .load t a=>Abh T w.st t (w.st.ev a) λv=>K v w
 | .binOp op t x y _=>Ajo T op t (w.st.ev x) (w.st.ev y) λv=>K v w
 | .slice t x lo hi mx=>match mx with
  |none=>PT T w.st t (w.st.ev x) (lo.map w.st.ev) (hi.map w.st.ev) λv=>K v w
  |some _=>False
 | .indexAddr t x i=>mK T w.st t (qa (w.st.ev x)) (w.st.ev i) λv=>K v w
 | .index t x i=>NM T t (w.st.ev x) (w.st.ev i) λv=>K v w
 | .call {callee:= .value (.func f),args, .. } =>xM Γ w.st f (args.toList.map w.st.ev) λv=>K v w
 | .call {callee:= .value (.tmp t),args, .. } =>MC Γ w.st (w.st.get t) (args.toList.map w.st.ev) λv=>K v w
 | .fieldAddr s x f=>mB T s (w.st.ev x) f λv=>K v w
 | .nilCheck x=>yr w.st x (λv=>K v w) (Fv T Γ w.st o)
 |_=>Ig (Fv T Γ w.st o) λv=>K v w
def QI (st:St) (t:TypeId) (p v:AV) (K:St->Prop):Prop:=
 match p with
 | .at (.Kq l j)=>Ig (T.ty t) λτ=>Ig (settle st v) λq=>match q.2.at l with
  |some (.arr fr tr e tid xs)=>Ig (Gk q.2 τ q.1) λu=>if h:τ=e then j<xs.length/\K (q.2.Kk l (.arr (fr&&u.1) (tr&&(Ud st v&&e.tree)) e tid (xs.set j (h▸u.2)))) else False
  |_=>False
 |p=>Ig (Vw T st t p v) K
def TO (st:St) (t:TypeId) (p v:AV) (K:St->Prop):Prop:=
 match p with
 | .at (.Kl l i j)=>Ig (T.ty t) λτ=>Ig (settle st v) λq=>match q.2.at l with
  |some (.Ca e te rows none kp)=>Ig (Gk q.2 τ q.1) λu=>if h:τ=e then K (q.2.Kk l (.Ca e te (rows.set i ((rows.getD i []).set j (h▸u.2))) none kp)) else False
  |_=>False
 | .at (.Kq l j)=>Ig (T.ty t) λτ=>match st.at l,v with
  |some (.Ca e te rows out kp), .at (.own m off len)=>match st.at m with
   |some (.arr _ _ e' _ xs)=>if h:e'=e/\(Nat.blt l Bv&&(!Nat.beq m l&&!τ.Ar))=true then
     off=0/\len=xs.length/\(match out with|none=>True|some i=>i=j)/\K (Un st l j m e te rows (h.1▸xs) (cm j kp))
    else False
   |_=>False
  |_,_=>False
 |_=>False
def CN (st:St) (t:TypeId) (p v:AV) (K:St->Prop):Prop:=match RX st p with
 |true=>TO T st t p v K
 |false=>QI T st t p v K
def nA (st:St) (dst:Nat) (t:TypeId) (x y:Operand) (K:AV->St->Prop):Prop:=
 Ig (T.elem t) λte=>Ig (T.ty te) λe=>Ig (settle st (st.ev y)) λq=>Ig (Gk q.2 (.slice e) q.1) λu=>match q.2.ev x with
  | .at .Mn=>match Nat.blt dst Bv with
   |true=>List.length u.2<=Db/\K (.at (.own dst 0 (List.length u.2))) ((q.2.new dst (.arr (T.tN||e.flat) T.DA e te [])).new dst (.arr ((T.tN||e.flat)&&(u.1||e.flat)) (T.DA&&(e.flat||(Ud st (st.ev y)&&e.tree))) e te u.2))
   |false=>False
  | .at (.own l off len)=>match q.2.at l with
   |some (.arr fr tr e' tid xs)=>if h:e'=e/\tid=te/\Nat.blt l Bv=true then
     off=0/\len=xs.length/\len+List.length u.2<=Db/\K (.at (.own l 0 (List.length ((h.1▸xs:List e.den)++u.2)))) (q.2.new l (.arr (fr&&(u.1||e.flat)) (tr&&(e.flat||(Ud st (st.ev y)&&e.tree))) e te ((h.1▸xs:List e.den)++u.2)))
    else False
   |_=>False
  |_=>False
def tb (st:St) (dst:Nat) (t:TypeId) (x y:Operand) (K:AV->St->Prop):Prop:=
 match x with
 | .tmp tx=>match st.get tx with
  | .at (.sub l i _)=>Ig (T.elem t) λtid=>match st.at l with
   |some (.Ca e te rows none kp)=>match Nat.blt l Bv&&(Nat.blt dst Bv&&!Nat.beq dst l) with
    |true=>nA T ((Qq st l i dst e te tid rows kp).put (some tx) (.at (.own dst 0 (rows.getD i []).length))) dst t x y K
    |false=>False
   |_=>False
  |_=>nA T st dst t x y K
 |_=>nA T st dst t x y K
def Abo (st:St) (dst:Nat) (t:TypeId) (l c:AV) (K:AV->St->Prop):Prop:=
 match l,c with
 | .at (.data _ (.int _) n), .at (.data _ (.int _) m)=>Ig (T.elem t) λte=>Ig (T.ty te) λe=>match gV e&&Nat.blt dst Bv with
  |true=>(0<=n/\n<Db+1)/\n=m/\K (.at (.own dst 0 (List.replicate n.toNat e.zero).length)) (st.new dst (.arr (T.tN||e.flat) (T.DA&&e.tree) e te (List.replicate n.toNat e.zero)))
  |false=>False
 |_,_=>False
def OA (st:St) (dst:Nat) (t:TypeId) (l c:AV) (K:AV->St->Prop):Prop:=
 match eM T t with
 |none=>Abo T st dst t l c K
 |some p=>match l,c with
  | .at (.data _ (.int _) n), .at (.data _ (.int _) m)=>match Nat.blt dst Bv with
   |true=>(0<=n/\n<Db+1)/\n=m/\K (.at (.own dst 0 (List.replicate n.toNat ([]:List p.2.den)).length)) (Rq st dst dst (.Ca p.2 p.1 (List.replicate n.toNat []) none none))
   |false=>False
  |_,_=>False
def fL (st:St) (dst:Nat) (t:TypeId) (len:Nat) (parts:Array (Nat×Operand)) (K:AV->St->Prop):Prop:=
 match eM T t with
 |none=>Ig (My T st dst t len parts) λr=>K r.1 r.2
 |some p=>match parts.toList with
  | [(0,x)]=>match st.ev x with
   | .at (.own m off ln)=>match st.at m with
    |some (.arr _ _ e' _ xs)=>if h:e'=p.2/\(Nat.beq len 1&&(Nat.blt dst Bv&&Nat.blt m Bv))=true then off=0/\ln=xs.length/\K (.at (.own dst 0 1)) (Rq st dst m (.Ca p.2 p.1 [h.1▸xs] none none)) else False
    |_=>False
   |_=>False
  |_=>False
def tf (st:St) (dst:Nat) (t:TypeId) (x y:Operand) (K:AV->St->Prop):Prop:=
 match eM T t with
 |none=>tb T st dst t x y K
 |some p=>match st.ev x,st.ev y with
  | .at (.own l off len), .at (.own m Abt uq)=>match st.at l,st.at m with
   |some (.Ca e1 te1 A none _),some (.Ca e2 xr B none _)=>
    if h:(e1=p.2/\e2=p.2)/\(decide (te1=p.1)&&decide (xr=p.1)&&(Nat.blt l Bv&&(Nat.blt m Bv&&!Nat.beq m l)))=true then
     (off=0/\len=A.length)/\(Abt=0/\uq=B.length)/\0<B.length/\A.length+B.length<=Db/\
      K (.at (.own l 0 (List.length ((h.1.1▸A:List (List p.2.den))++(h.1.2▸B:List (List p.2.den)))))) (Rq st l m (.Ca p.2 p.1 ((h.1.1▸A:List (List p.2.den))++(h.1.2▸B:List (List p.2.den))) none none))
    else False
   |_,_=>False
  |_,_=>False
def gO (st:St) (io:Bool) (k:Nat):(c:CK)->AC->(c.den->List (Nat×Loc)->Prop)->Prop
 | .Ia τ, .own l off len,K=>Ig (Dy st τ (.own l off len)) λp=>K p.2 [(Eh false k, .view l)]
 | .Ia τ, .clo g En,K=>match cL st (En.map (·.1))&&!τ.Ar with
  |true=>Ig (Kh st τ (.clo g En)) λp=>K p.2 (views k (En.map (·.1)))
  |false=>False
 | .Ia τ, .Hs l i,K=>match cL st [l]&&!τ.Ar with
  |true=>Ig (Kh st τ (.Hs l i)) λp=>K p.2 (views k [l])
  |false=>False
 | .Ia τ, .sub l i c,K=>Ig (Dy st τ (.sub l i c)) λp=>K p.2 [(Eh false k, .view l)]
 | .Ia τ,a,K=>match τ.flat||a.settled with
  |true=>Ig (Dy st τ a) λp=>K p.2 []
  |false=>False
 | .row e te, .own l off len,K=>match st.at l with
  |some (.arr _ _ e' Rx xs)=>if h:e'=e/\Rx=te then off=0/\len=xs.length/\K (h.1▸xs:List e.den) [(Eh io k, .row l)] else False
  |_=>False
 | .row e _, .sub l i c,K=>match st.at l with
  |some (.Hl e' _ xs)=>if h:e'= .slice e/\e.flat=true/\io=true/\c=0 then ∃y,xs[i]?=some y/\K (h.1▸y:(Ty.slice e).den) [(Eh io k, .sub l i c)] else False
  |_=>False
 | .row _ _, .Mn,K=>K [] []
 | .Hz e te, .own l off len,K=>match st.at l with
  |some (.Hl e' Rx xs)=>if h:e'=e/\Rx=te then off=0/\len=xs.length/\K (h.1▸xs:List e.den) [(Eh io k, .row l)] else False
  |_=>False
 | .Hz e _, .sub l i c,K=>match st.at l with
  |some (.Hl e' _ xs)=>if h:e'= .slice e/\io=true/\c=0 then ∃y,xs[i]?=some y/\K (h.1▸y:(Ty.slice e).den) [(Eh io k, .sub l i c)] else False
  |_=>False
 | .Hz _ _, .Mn,K=>K [] []
 | .part e te, .own l off len,K=>match st.at l with
  |some (.arr _ _ e' Rx xs)=>if h:e'=e/\Rx=te/\e.flat=true/\io=true then K ((h.1▸xs:List e.den),off,len) [(Eh io k, .row l)] else False
  |_=>False
 | .Ca e te _, .own l off len,K=>match st.at l with
  |some (.Ca e' Rx rows none _)=>if h:e'=e/\Rx=te/\io=false then off=0/\len=rows.length/\K (h.1▸rows:List (List e.den)) [(Eh io k, .row l)] else False
  |_=>False
 |_,_,_=>False
def CY (st:St):(k:Nat)->(cs:List (Bool×CK))->List AC->(Ins.den cs->List (Nat×Loc)->Prop)->Prop
 |_,[],[],K=>K () []
 |k,p::r,a::as,K=>gO st p.1 k p.2 a λx t1=>CY st (k+1) r as λy t2=>K (x,y) (t1++t2)
 |_,_,_,_=>False
def ru (st:St):(c:CK)->c.den->AC->(St->Prop)->Prop
 | .row e _,ys, .own l _ len,K=>match st.at l with
  |some (.arr fr tr e' te xs)=>if h:e=e' then (List.length ys=len/\xs.length=len)/\K (st.Kk l (.arr (fr&&e'.flat) (tr&&e'.flat) e' te (h▸ys))) else False
  |_=>False
 | .Hz e _,ys, .own l _ len,K=>match st.at l with
  |some (.Hl e' te xs)=>if h:e=e' then (List.length ys=len/\xs.length=len)/\K (st.Kk l (.Hl e' te (h▸ys))) else False
  |_=>False
 | .row e _,ys, .sub l i _,K=>match st.at l with
  |some (.Hl e' te xs)=>if h: .slice e=e' then ∃y,xs[i]?=some y/\List.length ys=List.length (h▸y:(Ty.slice e).den)/\K (st.Kk l (.Hl e' te (xs.set i (h▸(ys:(Ty.slice e).den))))) else False
  |_=>False
 | .Hz e _,ys, .sub l i _,K=>match st.at l with
  |some (.Hl e' te xs)=>if h: .slice e=e' then ∃y,xs[i]?=some y/\List.length ys=List.length (h▸y:(Ty.slice e).den)/\K (st.Kk l (.Hl e' te (xs.set i (h▸(ys:(Ty.slice e).den))))) else False
  |_=>False
 |_,_, .Mn,K=>K st
 |_,_,_,_=>False
def Acj (st:St) (e:Ty) (ys:List e.den):AC->(St->Prop)->Prop
 | .own l _ _,K=>match st.at l with
  |some (.arr fr tr e' te xs)=>if h:e=e' then List.length ys=xs.length/\K (st.Kk l (.arr fr tr e' te (h▸ys))) else False
  |_=>False
 |_,_=>False
def jG:(cs:List (Bool×CK))->IOs.den cs->List AC->St->(St->Prop)->Prop
 | [],_,_,st,K=>K st
 |(true, .Ia _)::r,x,_::as,st,K=>jG r x as st K
 |(true, .row e te)::r,x,a::as,st,K=>ru st (.row e te) x.1 a λst'=>jG r x.2 as st' K
 |(true, .Hz e te)::r,x,a::as,st,K=>ru st (.Hz e te) x.1 a λst'=>jG r x.2 as st' K
 |(true, .part e _)::r,x,a::as,st,K=>Acj st e x.1 a λst'=>jG r x.2 as st' K
 |(true, .Ca _ _ _)::r,x,_::as,st,K=>jG r x as st K
 |(false,_)::r,x,_::as,st,K=>jG r x as st K
 |_,_,_,_,_=>False
def vO (H:List (Nat×OB)) (ls:List Nat) (n:Nat):List AV->Prop->Prop
 | [],K=>K
 | .at (.sub l i _)::r,K=>match ls.contains l with
  |true=>(i<n/\i<sC H l)/\vO H ls n r K
  |false=>vO H ls n r K
 |_::r,K=>vO H ls n r K
def MB (st:St) (dst:Option Nat) (s:MSpec) (args:List AV) (K:AV->St->Prop):Prop:=
 Ig (TF st s args) λq=>Ig (ungroup s.Mq q.2.2) λpc=>CY st 0 s.ins (q.2.1++pc) λx tks=>
  match aL (tks.map λt=>t.2.Xw)&&AF (Tc s tks (dst.getD 0)) (s.outs.length+(nc s (dst.getD 0)).length)&&Nat.blt s.outs.length 1000&&Nat.blt s.ins.length 1000&&(Xb s.ins q.2.1&&q.1.all λl=>!((tks.map λt=>t.2.Xw)++Tc s tks (dst.getD 0)).contains l) with
  |true=> ∃p,s.fn x=some p/\jG s.ins p.2 (q.2.1++pc) st λst1=>Ig (Agq s (dst.getD 0) ((cw (Em (Tc s tks (dst.getD 0))) 0 s.outs p.1).drop s.aV)) λv=>
    vO (mi st st1 (dst.getD 0) s q.1 tks p.1).heap (ck st.heap (Tc s tks (dst.getD 0)) tks s.keeps) (s.Gd x) st.tmps
     (K v (mL st (mi st st1 (dst.getD 0) s q.1 tks p.1) (ck st.heap (Tc s tks (dst.getD 0)) tks s.keeps) (s.Gd x)))
  |false=>False
def opW (w:WS) (o:Oper) (K:AV->WS->Prop):Prop:=
 match o.op with
 | .store t p x=>CN T (Pf T w.st p x) t ((Pf T w.st p x).ev p) ((Pf T w.st p x).ev x) λs=>K .undef (w.to s)
 | .makeSlice t l c=>Ig o.dst λd=>OA T w.st d t (w.st.ev l) (w.st.ev c) λv s=>K v (w.to s)
 | .call {callee:= .builtin .append,args,argTypes} =>match o.dst,args.toList,argTypes.toList with
  |some d,[x,y],[t,t']=>if t=t' then tf T w.st d t x y λv s=>K v (w.to s) else False
  |_,_,_=>False
 | .assign _=>Ig (evalOp T Γ w.st o) λr=>K r.1 (w.to r.2)
 | .alloc _=>Ig (evalOp T Γ w.st o) λr=>K r.1 (w.to r.2)
 | .box _ _=>Ig (evalOp T Γ w.st o) λr=>K r.1 (w.to r.2)
 | .buildSlice t len parts=>Ig o.dst λd=>fL T w.st d t len parts λv s=>K v (w.to s)
 | .build _ _=>Ig (evalOp T Γ w.st o) λr=>K r.1 (w.to r.2)
 | .makeMap _ _=>Ig (evalOp T Γ w.st o) λr=>K r.1 (w.to r.2)
 | .mapUpdate _ _ _ _=>Ig (evalOp T Γ w.st o) λr=>K r.1 (w.to r.2)
 | .insert _ _ _ _=>Ig (evalOp T Γ w.st o) λr=>K r.1 (w.to r.2)
 | .call {callee:= .builtin .copy, .. } =>Ig (evalOp T Γ w.st o) λr=>K r.1 (w.to r.2)
 | .call {callee:= .builtin .clear, .. } =>Ig (evalOp T Γ w.st o) λr=>K r.1 (w.to r.2)
 | .call {callee:= .value (.func f),args, .. } =>match Γ f with
  |some (.m s)=>MB w.st o.dst s (args.toList.map w.st.ev) λv s'=>K v (w.to s')
  |some (.q s)=>match gk s (args.toList.map w.st.ev) with
   |true=>Ig (Ny args.toList w.st) λst1=>qW T Γ (w.to st1) o K
   |false=>qW T Γ w o K
  |_=>qW T Γ w o K
 |_=>qW T Γ w o K
def AV.Abd:AV->Bool
 | .at .skip=>true
 |_=>false
def bW (w:WS) (o:Oper) (K:AV->WS->Prop):Prop:=
 match o.op with
 | .buildSlice t len parts=>Ig (bY T w.st t len parts) λv=>K v w
 | .build t parts=>Ig (Yp T w.st t parts) λv=>K v w
 |_=>qW T Γ w o K
def kd (ops:Array Oper) (w:WS) (o:Oper) (run:(AV->WS->Prop)->WS->Prop) (K:WS->Prop):Prop:=
 match o.guard with
 |none=>run (λv w'=>K (w'.x6 o v)) w
 |some (j,want)=>Ig ((ops[j]?).bind (·.dst)) λt=>match (w.st.get t).Abd with
  |true=>K (w.put o.dst (.at .skip))
  |false=>brT w t λb w'=>match b,want with
   |true,true=>run (λv rU=>K (rU.x6 o v)) w'
   |false,false=>run (λv rU=>K (rU.x6 o v)) w'
   |_,_=>K (w'.put o.dst (.at .skip))
def Alp (ops:Array Oper):List Oper->WS->(WS->Prop)->Prop
 | [],w,K=>K w
 |o::r,w,K=>kd ops w o (λk w'=>opW T Γ w' o k) λw'=>Alp ops r w' K
def Ab4 (ops:Array Oper):List Nat->WS->(WS->Prop)->Prop
 | [],w,K=>K w
 |i::r,w,K=>Ig ops[i]? λo=>kd ops w o (λk w'=>opW T Γ w' o k) λw'=>Ab4 ops r w' K
def lF (ops:Array Oper):List Nat->WS->(WS->Prop)->Prop
 | [],w,K=>K w
 |i::r,w,K=>Ig ops[i]? λo=>kd ops w o (λk w'=>bW T Γ w' o k) λw'=>lF ops r w' K
def ZL:List Nat->(Nat->Prop)->Prop
 | [],_=>True
 | [i],P=>P i
 |i::j::r,P=>P i/\ZL (j::r) P
def UB (ops:Array Oper):Nat->Array Bool->WS->(WS->Prop)->Prop
 |0,Aj,w,K=>match Region.ready .any ops Aj with
  | []=>K w
  |_::_=>False
 |f+1,Aj,w,K=>match Region.ready .any ops Aj with
  | []=>False
  |i::r=>ZL (i::r) λk=>Ig ops[k]? λo=>kd ops w o (λkk w'=>opW T Γ w' o kk) λw'=>UB ops f (Aj.setIfInBounds k true) w' K
def acV:AC->Type->Type
 | .data _ τ _,R=>τ.den×R
 | .sub _ _ _,R=>Nat×R
 | .Kq _ _,R=>Nat×R
 | .Kl _ _ _,R=>Nat×Nat×R
 |_,R=>R
def LP:List AC->Type->Type
 | [],R=>R
 |c::r,R=>acV c (LP r R)
def avV:AV->Type->Type
 | .at a,R=>acV a R
 | .agg cs,R=>LP cs R
 | .bL _ τ _,R=>τ.den×R
 | .Nh _,R=>R
def obV:OB->Type->Type
 | .arr _ _ e _ _,R=>List e.den×R
 | .Hl e _ _,R=>List e.den×R
 | .var _ vs,R=>LP vs R
 | .Ca e _ _ _ none,R=>List (List e.den)×R
 | .Ca e _ _ _ (some _),R=>List (List e.den)×(Nat×R)
 | .Wl v _,R=>(ByteArray->Option v.den)×R
def rS:List AV->Type->Type
 | [],R=>R
 |v::r,R=>avV v (rS r R)
def xU:List (Nat×OB)->Type->Type
 | [],R=>R
 |p::r,R=>obV p.2 (xU r R)
def stV (s:St):Type:=rS s.tmps (xU s.heap Unit)
def RF:(c:AC)-> {R:Type} ->R->acV c R
 | .data _ _ x,_,r=>(x,r)
 | .undef,_,r=>r
 | .skip,_,r=>r
 | .Mn,_,r=>r
 | .Wk,_,r=>r
 | .own _ _ _,_,r=>r
 | .Hs _ _,_,r=>r
 | .Kq _ i,_,r=>(i,r)
 | .clo _ _,_,r=>r
 | .Le _,_,r=>r
 | .sub _ i _,_,r=>(i,r)
 | .Kl _ i j,_,r=>(i,j,r)
def sY:(l:List AC)-> {R:Type} ->R->LP l R
 | [],_,r=>r
 |c::l,_,r=>RF c (sY l r)
def Ahl:(c:AV)-> {R:Type} ->R->avV c R
 | .at a,_,r=>RF a r
 | .agg cs,_,r=>sY cs r
 | .bL _ _ x,_,r=>(x,r)
 | .Nh _,_,r=>r
def Aj7:(b:OB)-> {R:Type} ->R->obV b R
 | .arr _ _ _ _ xs,_,r=>(xs,r)
 | .Hl _ _ xs,_,r=>(xs,r)
 | .var _ vs,_,r=>sY vs r
 | .Ca _ _ rows _ none,_,r=>(rows,r)
 | .Ca _ _ rows _ (some p),_,r=>(rows,p.2,r)
 | .Wl _ m,_,r=>(m,r)
def sO:(l:List AV)-> {R:Type} ->R->rS l R
 | [],_,r=>r
 |c::l,_,r=>Ahl c (sO l r)
def sE:(l:List (Nat×OB))-> {R:Type} ->R->xU l R
 | [],_,r=>r
 |p::l,_,r=>Aj7 p.2 (sE l r)
def TL (s:St):stV s:=sO s.tmps (sE s.heap ())
def po:(c d:AC)-> {R:Type} ->R->Option (acV c R)
 | .data fr τ _, .data Ww Ow x,_,r=>if h:Ow=τ/\Ww=fr then some (h.1▸x,r) else none
 | .undef, .undef,_,r=>some r
 | .skip, .skip,_,r=>some r
 | .Mn, .Mn,_,r=>some r
 | .Wk, .Wk,_,r=>some r
 | .own l _ _, .own l' _ _,_,r=>if l=l' then some r else none
 | .Hs l i, .Hs l' i',_,r=>if l=l'/\i=i' then some r else none
 | .Kq l _, .Kq l' i',_,r=>if l=l' then some (i',r) else none
 | .clo f c, .clo f' c',_,r=>if f=f'/\c=c' then some r else none
 | .Le l, .Le l',_,r=>if l=l' then some r else none
 | .sub l _ c, .sub l' i' c',_,r=>if l=l'/\c=c' then some (i',r) else none
 | .Kl l _ _, .Kl l' i' j',_,r=>if l=l' then some (i',j',r) else none
 |_,_,_,_=>none
def Tb:(l m:List AC)-> {R:Type} ->R->Option (LP l R)
 | [],[],_,r=>some r
 |c::l,d::m,_,r=>(Tb l m r).bind λr'=>po c d r'
 |_,_,_,_=>none
def mq:(c d:AV)-> {R:Type} ->R->Option (avV c R)
 | .at a, .at b,_,r=>po a b r
 | .agg cs, .agg ds,_,r=>Tb cs ds r
 | .bL fr τ _, .bL Ww Ow x,_,r=>if h:Ow=τ/\Ww=fr then some (h.1▸x,r) else none
 |_,_,_,_=>none
def Tw:(b d:OB)-> {R:Type} ->R->Option (obV b R)
 | .arr fr tr e tid _, .arr Ww tr' e' Vt xs,_,r=>if h:e'=e/\Ww=fr/\tr'=tr/\Vt=tid then some (h.1▸xs,r) else none
 | .Hl e tid _, .Hl e' Vt xs,_,r=>if h:e'=e/\Vt=tid then some (h.1▸xs,r) else none
 | .Wl v _, .Wl v' m,_,r=>if h:v'=v then some (h▸m,r) else none
 | .var t vs, .var t' us,_,r=>if t'=t then Tb vs us r else none
 | .Ca e te _ out none, .Ca e' Rx rows iJ none,_,r=>if h:e'=e/\Rx=te/\iJ=out then some (h.1▸rows,r) else none
 | .Ca e te _ out (some p), .Ca e' Rx rows iJ (some p'),_,r=>if h:e'=e/\Rx=te/\iJ=out/\p'.1=p.1 then some (h.1▸rows,p'.2,r) else none
 |_,_,_,_=>none
def Pp:(l m:List AV)-> {R:Type} ->R->Option (rS l R)
 | [],[],_,r=>some r
 |c::l,d::m,_,r=>(Pp l m r).bind λr'=>mq c d r'
 |_,_,_,_=>none
def Qs:(l m:List (Nat×OB))-> {R:Type} ->R->Option (xU l R)
 | [],[],_,r=>some r
 |p::l,q::m,_,r=>if q.1=p.1 then (Qs l m r).bind λr'=>Tw p.2 q.2 r' else none
 |_,_,_,_=>none
def kb (s t:St):Option (stV s):=(Qs s.heap t.heap ()).bind λr=>Pp s.tmps t.tmps r
def mh:(c:AC)-> {R:Type} ->acV c R->AC×R
 | .data fr τ _,_,v=>(.data fr τ v.1,v.2)
 | .undef,_,r=>(.undef,r)
 | .skip,_,r=>(.skip,r)
 | .Mn,_,r=>(.Mn,r)
 | .Wk,_,r=>(.Wk,r)
 | .own l off len,_,r=>(.own l off len,r)
 | .Hs l i,_,r=>(.Hs l i,r)
 | .Kq l _,_,v=>(.Kq l v.1,v.2)
 | .clo f c,_,r=>(.clo f c,r)
 | .Le l,_,r=>(.Le l,r)
 | .sub l _ c,_,v=>(.sub l v.1 c,v.2)
 | .Kl l _ _,_,v=>(.Kl l v.1 v.2.1,v.2.2)
def aX:(l:List AC)-> {R:Type} ->LP l R->List AC×R
 | [],_,r=>([],r)
 |c::l,_,v=>((mh c v).1::(aX l (mh c v).2).1,(aX l (mh c v).2).2)
def tm:(c:AV)-> {R:Type} ->avV c R->AV×R
 | .at a,_,v=>(.at (mh a v).1,(mh a v).2)
 | .agg cs,_,v=>(.agg (aX cs v).1,(aX cs v).2)
 | .bL fr τ _,_,v=>(.bL fr τ v.1,v.2)
 | .Nh l,_,r=>(.Nh l,r)
def uH:(b:OB)-> {R:Type} ->obV b R->OB×R
 | .arr fr tr e tid _,_,v=>(.arr fr tr e tid v.1,v.2)
 | .Hl e tid _,_,v=>(.Hl e tid v.1,v.2)
 | .Wl w _,_,v=>(.Wl w v.1,v.2)
 | .var t vs,_,v=>(.var t (aX vs v).1,(aX vs v).2)
 | .Ca e te _ out none,_,v=>(.Ca e te v.1 out none,v.2)
 | .Ca e te _ out (some p),_,v=>(.Ca e te v.1 out (some (p.1,v.2.1)),v.2.2)
def Xo:(l:List AV)-> {R:Type} ->rS l R->List AV×R
 | [],_,r=>([],r)
 |c::l,_,v=>((tm c v).1::(Xo l (tm c v).2).1,(Xo l (tm c v).2).2)
def eP:(l:List (Nat×OB))-> {R:Type} ->xU l R->List (Nat×OB)×R
 | [],_,r=>([],r)
 |p::l,_,v=>((p.1,(uH p.2 v).1)::(eP l (uH p.2 v).2).1,(eP l (uH p.2 v).2).2)
def ka (s:St) (v:stV s):St:= {tmps:=(Xo s.tmps v).1,heap:=(eP s.heap (Xo s.tmps v).2).1}
def lenOf (H:List (Nat×OB)) (l:Nat):Nat:=match Ay H l with|some (.arr _ _ _ _ xs)=>xs.length|some (.Hl _ _ xs)=>xs.length|some (.Ca _ _ rows _ _)=>rows.length|_=>0
def aG (ps:List Nat):List AV->List (Nat×Nat×Nat)
 | []=> []
 | .at (.own l off len)::r=>if ps.contains l then (l,off,len)::aG ps r else aG ps r
 |_::r=>aG ps r
def Aln:List (Nat×Nat×Nat)->Nat->Nat
 | [],_=>0
 |(k,o,_)::r,l=>if k=l then o else Aln r l
def VG:List (Nat×Nat×Nat)->List (Nat×OB)->Nat->Nat
 | [],H,l=>lenOf H l
 |(k,_,n)::r,H,l=>if k=l then n else VG r H l
def gT (B:List (Nat×Nat×Nat)) (H:List (Nat×OB)):AC->AC
 | .own l _ _=> .own l (Aln B l) (VG B H l)
 |c=>c
def St.whole (B:List (Nat×Nat×Nat)) (s:St):St:=s.Lo (gT B s.heap)
def zg (B:List (Nat×Nat×Nat)) (H:List (Nat×OB)) (c:AC) (K:Prop):Prop:=match c with
 | .own l off len=>off=Aln B l/\len=VG B H l/\K
 |_=>K
def ez (B:List (Nat×Nat×Nat)) (H:List (Nat×OB)):List AC->Prop->Prop
 | [],K=>K
 |c::r,K=>zg B H c (ez B H r K)
def RH (B:List (Nat×Nat×Nat)) (H:List (Nat×OB)) (c:AV) (K:Prop):Prop:=match c with
 | .at a=>zg B H a K
 | .agg cs=>ez B H cs K
 | .bL _ _ _=>K
 | .Nh _=>False
def bK (B:List (Nat×Nat×Nat)) (H:List (Nat×OB)):List AV->Prop->Prop
 | [],K=>K
 |c::r,K=>RH B H c (bK B H r K)
def kG (B:List (Nat×Nat×Nat)) (H:List (Nat×OB)):List (Nat×OB)->Prop->Prop
 | [],K=>K
 |p::r,K=>match p.2 with
  | .var _ vs=>ez B H vs (kG B H r K)
  |_=>kG B H r K
def CL (B:List (Nat×Nat×Nat)) (s:St) (K:Prop):Prop:=bK B s.heap s.tmps (kG B s.heap s.heap K)
def AV.Yv:AV->Bool
 | .at (.data _ _ _)=>true
 |_=>false
def Lb (p:Nat->Bool):Nat->List AV->List Bool
 |_,[]=> []
 |i,v::r=>(v.Yv&&p i)::Lb p (i+1) r
def stays (live:Nat->List Nat) (c:Code) (t:Nat):Bool:=!(writes c).contains t&&cj live c t
def Ut:List Bool->List AV->List AV
 |true::f,_::r=> .undef::Ut f r
 |false::f,v::r=>v::Ut f r
 |_,l=>l
def Wd:List Bool->List AV->List AV->List AV
 |true::f,a::s,_::r=>a::Wd f s r
 |false::f,_::s,v::r=>v::Wd f s r
 |_,_,l=>l
def St.mask (fx:List Bool) (s:St):St:= {tmps:=Ut fx s.tmps,heap:=s.heap}
def St.wV (fx:List Bool) (s0 s:St):St:= {tmps:=Wd fx s0.tmps s.tmps,heap:=s.heap}
def sy (c:AC) (k:AC->Prop):Prop:=match c with
 | .undef=>k .undef
 | .skip=>k .skip
 | .Mn=>k .Mn
 | .Wk=>k .Wk
 | .data fr τ x=>match fr with
  |true=>k (.data true τ x)
  |false=>k (.data false τ x)
 | .own l off len=>k (.own l off len)
 | .Hs l i=>k (.Hs l i)
 | .Kq l i=>k (.Kq l i)
 | .clo f c=>k (.clo f c)
 | .Le l=>k (.Le l)
 | .sub l i c=>k (.sub l i c)
 | .Kl l i c=>k (.Kl l i c)
def jh:List AC->(List AC->Prop)->Prop
 | [],k=>k []
 |c::r,k=>sy c λc'=>jh r λr'=>k (c'::r')
def zG (c:AV) (k:AV->Prop):Prop:=match c with
 | .at a=>sy a λa'=>k (.at a')
 | .agg cs=>jh cs λj9=>k (.agg j9)
 | .bL fr τ x=>k (.bL fr τ x)
 | .Nh l=>k (.Nh l)
def ji:List AV->(List AV->Prop)->Prop
 | [],k=>k []
 |c::r,k=>zG c λc'=>ji r λr'=>k (c'::r')
def zH (b:OB) (k:OB->Prop):Prop:=match b with
 | .arr fr tr e tid xs=>match fr,tr with
  |true,true=>k (.arr true true e tid xs)
  |true,false=>k (.arr true false e tid xs)
  |false,true=>k (.arr false true e tid xs)
  |false,false=>k (.arr false false e tid xs)
 | .Hl e tid xs=>k (.Hl e tid xs)
 | .var t vs=>jh vs λvs'=>k (.var t vs')
 | .Ca e te rows out kp=>match out,kp with
  |none,none=>k (.Ca e te rows none none)
  |none,some (l,n)=>k (.Ca e te rows none (some (l,n)))
  |some i,none=>k (.Ca e te rows (some i) none)
  |some i,some (l,n)=>k (.Ca e te rows (some i) (some (l,n)))
 | .Wl v m=>k (.Wl v m)
def tM:List (Nat×OB)->(List (Nat×OB)->Prop)->Prop
 | [],k=>k []
 |(l,b)::r,k=>zH b λb'=>tM r λr'=>k ((l,b')::r')
def aJ (w:WS) (k:WS->Prop):Prop:=ji w.st.tmps λt=>tM w.st.heap λh=>k {kn:=w.kn,st:= {tmps:=t,heap:=h} }
def pG (s:St) (k:St->Prop):Prop:=ji s.tmps λt=>tM s.heap λh=>k {tmps:=t,heap:=h}
def fS:List Bool->(List Bool->Prop)->Prop
 | [],k=>k []
 |true::r,k=>fS r λr'=>k (true::r')
 |false::r,k=>fS r λr'=>k (false::r')
theorem qQ {c:AC} {k:AC->Prop} :sy c k↔k c:=by
 cases c<;>simp only [sy]
 split<;>rfl
theorem fQ: ∀ {l:List AC} {k:List AC->Prop},jh l k↔k l
 | [],k=>Iff.rfl
 |c::r,k=>by simp only [jh];rw [qQ,fQ]
theorem FO {c:AV} {k:AV->Prop} :zG c k↔k c:=by
 cases c<;>simp only [zG]
 ·exact qQ
 ·exact fQ
theorem fR: ∀ {l:List AV} {k:List AV->Prop},ji l k↔k l
 | [],k=>Iff.rfl
 |c::r,k=>by simp only [ji];rw [FO,fR]
theorem FP {b:OB} {k:OB->Prop} :zH b k↔k b:=by
 cases b<;>simp only [zH]
 ·split<;>rfl
 ·exact fQ
 ·split<;>rfl
theorem mD: ∀ {l:List (Nat×OB)} {k:List (Nat×OB)->Prop},tM l k↔k l
 | [],k=>Iff.rfl
 |(l,b)::r,k=>by simp only [tM];rw [FP,mD]
theorem UO {s:St} {k:St->Prop} :pG s k=k s:=by
 unfold pG;exact propext (by rw [fR,mD])
theorem fT: ∀ {l:List Bool} {k:List Bool->Prop},fS l k=k l
 | [],k=>rfl
 |true::r,k=>by simp only [fS];rw [fT]
 |false::r,k=>by simp only [fS];rw [fT]
theorem Ot {w:WS} {k:WS->Prop} :aJ w k↔k w:=by
 unfold aJ;rw [fR,mD]
def bQ:AC->List (Nat×Nat)
 | .own _ off len=> [(off,len)]
 |_=> []
def bS:AV->List (Nat×Nat)
 | .at a=>bQ a
 | .agg cs=>cs.flatMap bQ
 |_=> []
def mU:OB->List (Nat×Nat)
 | .var _ vs=>vs.flatMap bQ
 |_=> []
def QG (s:St):List (Nat×Nat):=s.tmps.flatMap bS++s.heap.flatMap λp=>mU p.2
def eqW (s0 s:St):Prop:=QG s=QG s0/\Ig (kb s0 s) λv=>v=TL s0
def c8 (ops:Array Oper):Nat->Array Bool->WS->(WS->Prop)->Prop
 |0,Aj,w,K=>match Region.ready .any ops Aj with
  | []=>K w
  |_::_=>False
 |f+1,Aj,w,K=>match Region.ready .any ops Aj with
  | []=>False
  |k::_=>Ig ops[k]? λo=>kd ops w o (λkk w'=>opW T Γ w' o kk) λw'=>c8 ops f (Aj.setIfInBounds k true) w' K
def EG (P:List (Nat×Nat×AV×OB)) (ops:Array Oper):Nat->Array Bool->WS->(WS->Prop)->Prop
 |0,Aj,w,K=>match Region.ready .any ops Aj with
  | []=>K w
  |_::_=>False
 |f+1,Aj,w,K=>match Region.ready .any ops Aj with
  | []=>False
  |i::r=>ZL (i::r) λk=>Ig ops[k]? λo=>match OI P Γ ops w.st o k with
   |true=>kd ops w o (λkk w'=>opW T Γ w' o kk) λw'=>EG P ops f (Aj.setIfInBounds k true) w' K
   |false=>False
def yW (ops:Array Oper) (E:List Nat) (Aj:Array Bool) (w:WS):List Nat->Prop->Prop
 | [],K=>K
 |r::R,K=>match sP ops E Aj r with
  |true=>yW ops E Aj w R K
  |false=>(lF T Γ ops [r] w λw'=>Ig ((ops[r]?).bind (·.dst)) λd=>match Nat.blt d w.st.tmps.length with
    |true=>eqW ⟨[w.st.get d],[]⟩ ⟨[w'.st.get d],[]⟩
    |false=>False)/\yW ops E Aj w R K
def sZ (ops:Array Oper) (E:List Nat):Nat->Array Bool->WS->(WS->Prop)->Prop
 |0,Aj,w,K=>yW T Γ ops E Aj w E (match Region.ready .any ops Aj with
  | []=>K w
  |_::_=>False)
 |f+1,Aj,w,K=>yW T Γ ops E Aj w E (match Region.ready .any ops Aj with
  | []=>False
  |i::r=>ZL (i::r) λk=>Ig ops[k]? λo=>kd ops w o (λkk w'=>opW T Γ w' o kk) λw'=>sZ ops E f (Aj.setIfInBounds k true) w' K)
def PB (E:List Nat) (n:Nat) (L0:Array Bool) (ops:Array Oper) (w:WS) (K:WS->Prop):Prop:=
 match dv ops E L0&&(Nat.ble E.length n&&Nat.ble (n-E.length) 10) with
 |true=>lF T Γ ops E w λw1=>aJ w1 λw1=>c8 T Γ ops (n-E.length) (Et E L0) w1 λw0=>aJ w0 λw0=>K w0/\sZ T Γ ops E (n-E.length) (Et E L0) w1 λw2=>aJ w2 λw2=>eqW w0.st w2.st
 |false=>False
def zm (P:List (Nat×Nat×AV×OB)) (n:Nat) (L0:Array Bool) (ops:Array Oper) (w:WS) (K:WS->Prop):Prop:=
 match (aL (P.map (·.1))&&aL (P.map (·.2.1)))&&((P.all λa=>pW a.2.1 w.st)&&(Nat.ble P.length n&&Nat.ble (n-P.length) 10)) with
 |true=>Ab4 T Γ ops (P.map (·.1)) w λw1=>aJ w1 λw1=>c8 T Γ ops (n-P.length) (Et (P.map (·.1)) L0) w1 λw0=>aJ w0 λw0=>K w0/\EG T Γ P ops (n-P.length) (Et (P.map (·.1)) L0) w1 λw2=>eqW w0.st w2.st
 |false=>PB T Γ (kP ops (List.range ops.size) L0) n L0 ops w K
def IA:Nat:=800000000
def IC (ops:Array Oper):Nat->Array Bool->Bool
 |0,Aj=>(Region.ready .any ops Aj).isEmpty
 |f+1,Aj=>match Region.ready .any ops Aj with
  | [i]=>IC ops f (Aj.setIfInBounds i true)
  |_=>false
def TE (ops:Array Oper) (L0:Array Bool):List Nat:=kP ops (List.range ops.size) L0
def yt (ops:Array Oper):Array Bool:=Et (Lf ops) (Array.replicate ops.size false)
def Abu (ops:Array Oper):Bool:=Region.noSelect ops&&(dv ops (TE ops (yt ops)) (yt ops)&&(Nat.ble (TE ops (yt ops)).length (ops.size-(Lf ops).length)&&Nat.ble ((ops.size-(Lf ops).length)-(TE ops (yt ops)).length) 10))
def eqM (fx:List Bool) (s0 s:St):Prop:=eqW (s0.mask fx) (s.mask fx)
def To (ops:Array Oper) (t:Nat):Bool:=!Zp ops t
def w9 (ops:Array Oper):List Nat:=(ops.toList.filterMap λo=>match o.op with
 | .alloc _=>none
 | .box _ _=>none
 | .assign _=>none
 |_=>o.dst).filter λd=>ops.toList.any λo=>(o.looksAt ops).contains d
def WS.Qx (dead:List Nat) (w:WS):WS:= {kn:=w.kn.filter λp=>!dead.contains p.1,st:=w.st.Qx dead}
def Abv (dead E:List Nat) (n:Nat) (L0:Array Bool) (ops:Array Oper) (w:WS) (K:WS->Prop):Prop:=
 match dv ops E L0&&Nat.ble E.length n with
 |true=>lF T Γ ops E w λw1=>aJ w1 λw1=>match IC ops (n-E.length) (Et E L0) with
  |true=>sZ T Γ ops E (n-E.length) (Et E L0) w1 λw2=>K (w2.Qx dead)
  |false=>fS (Lb (To ops) 0 w1.st.tmps) λfx=>c8 T Γ ops (n-E.length) (Et E L0) w1 λw0=>aJ (w0.Qx dead) λw0=>K w0/\sZ T Γ ops E (n-E.length) (Et E L0) w1 λw2=>aJ (w2.Qx dead) λw2=>eqM fx w0.st w2.st
 |false=>False
def sM (ops:Array Oper) (draw:Bool) (w:WS) (K:WS->Prop):Prop:=
 match draw with
 |true=>match du false Γ ops with
  |true=>lF T Γ ops (kF false Γ ops) w λw'=>Ab4 T Γ ops (Kb false Γ ops) w' K
  |false=>match du true Γ ops with
   |true=>lF T Γ ops (kF true Γ ops) w λw'=>Ab4 T Γ ops (Kb true Γ ops) w' K
   |false=>match Region.noSelect ops&&Nat.ble (ops.size-(Lf ops).length) 8 with
    |true=>lF T Γ ops (Lf ops) w λw'=>match kC false ops&&!T.marks.contains IA with
     |true=>UB T Γ ops (ops.size-(Lf ops).length) (Et (Lf ops) (Array.replicate ops.size false)) w' K
     |false=>c8 T Γ ops (ops.size-(Lf ops).length) (Et (Lf ops) (Array.replicate ops.size false)) w' λw0=>aJ w0 λw0=>K w0/\UB T Γ ops (ops.size-(Lf ops).length) (Et (Lf ops) (Array.replicate ops.size false)) w' λw1=>eqW w0.st w1.st
    |false=>match Region.noSelect ops with
     |true=>lF T Γ ops (Lf ops) w λw'=>zm T Γ (ae T ops (Et (Lf ops) (Array.replicate ops.size false))) (ops.size-(Lf ops).length) (Et (Lf ops) (Array.replicate ops.size false)) ops w' K
     |false=>False
 |false=>Alp T Γ ops ops.toList w K
def BP (ops:Array Oper) (draw:Bool) (w:WS) (K:WS->Prop):Prop:=
 match T.marks.contains IA&&(w9 ops).all (Zp ops) with
 |true=>match draw&&(!(du false Γ ops||du true Γ ops)&&Abu ops) with
  |true=>lF T Γ ops (Lf ops) w λw'=>Abv T Γ (w9 ops) (TE ops (yt ops)) (ops.size-(Lf ops).length) (yt ops) ops w' K
  |false=>sM T Γ ops draw w λw'=>K (w'.Qx (w9 ops))
 |false=>sM T Γ ops draw w K
def eC (live:Nat->List Nat):Code->WS->(Md->WS->Prop)->Prop
 | .skip,w,Q=>Q .normal w
 | .label _,w,Q=>Q .normal w
 | .region _ ops draw,w,Q=>BP T (BO Γ draw) ops draw {w with st:=w.st.nL ops} λw'=>aJ w' (Q .normal)
 | .seq a b,w,Q=>eC live a w λe w'=>match e with
  | .normal=>eC live b w' Q
  | .exit id=>Q (.exit id) w'
  | .ret=>Q .ret w'
 | .cond c a b,w,Q=>brO w c λt w'=>match t with
  |true=>eC live a w' Q
  |false=>eC live b w' Q
 | .block id c,w,Q=>eC live c w λe w'=>match e with
  | .normal=>Q .normal w'
  | .exit VA=>if VA=id then Q .normal w' else Q (.exit VA) w'
  | .ret=>Q .ret w'
 | .loop c,w,Q=>
  pG (w.st.clean (live (Fm c))) λs0=>fS (Lb (stays live c) 0 s0.tmps) λfx=>pG (s0.mask fx) λm=>
  CL (aG T.parts s0.tmps) s0 (Dh (V:=stV m) (λv k=>pG ((St.wV fx s0 (ka m v)).whole (aG T.parts s0.tmps)) λsb=>eC live c ⟨[],sb⟩ λe w'=>match e with
   | .normal=>pG (w'.st.clean (live (Fm c))) λs1=>CL (aG T.parts s0.tmps) s1 (Ig (kb m (s1.mask fx)) k)
   | .exit id=>Q (.exit id) w'
   | .ret=>Q .ret w') (TL m))
 | .exit id,w,Q=>Q (.exit id) w
 | .ret,w,Q=>Q .ret w
 |_,_,_=>False
def Ajp (s:Spec) (fn:Func) (P:s.res.den->Prop) (st:St):Prop:=
 Ig (nV T s fn st) λp=>match p.1||!s.fresh with|true=>P p.2|false=>False
def jy (st:St) (K:Prop):List AC->List (Bool×CK)->Prop
 | .own l off len::as,(true,_)::r=>match st.at l with
  |some (.arr _ _ _ _ xs)=>(off=0/\len=xs.length)/\jy st K as r
  |some (.Hl _ _ xs)=>(off=0/\len=xs.length)/\jy st K as r
  |_=>False
 |_::as,(false,_)::r=>jy st K as r
 |_,_=>K
def pY (st:St):(cs:List CK)->List AC->(CKs.den cs->List Nat->Prop)->Prop
 | [],[],K=>K () []
 | .Ca e te _::r, .own l off len::as,K=>match st.at l with
  |some (.Ca e' Rx rows none _)=>if h:e'=e/\Rx=te then (off=0/\len=rows.length)/\pY st r as λy t=>K ((h.1▸rows:List (List e.den)),y) (l::t) else False
  |_=>False
 |c::r,a::as,K=>Ig (lf st c a) λp=>pY st r as λy t=>K (p.1,y) (p.2++t)
 |_,_,_=>False
def AE (st:St) (n:Nat) (as:List AC):List (Nat×Nat)->Prop->Prop
 | [],K=>K
 |(k,j)::r,K=>match as[j]? with
  |some (.own l _ _)=>match st.at l with
   |some (.Ca _ _ _ _ (some p))=>match Nat.beq p.1 (Eh false k)&&Nat.blt k 1000 with
    |true=>n<=p.2/\AE st n as r K
    |false=>False
   |_=>False
  |_=>False
def uZ (s:MSpec) (fn:Func) (x:Ins.den s.ins) (st:St) (cs:List AC) (P:CKs.den s.outs×IOs.den s.ins->Prop):Prop:=
 Ig (ed T st fn.results.toList) λl=>Ig (PH s st l) λp=>pY st s.outs (cs++p.1) λr ls=>Ig (Ph st 0 s.ins) λo=>
  match aL (p.2++ls++Qf 0 s.ins)&&Nat.blt s.ins.length 1000&&Nat.blt s.outs.length 1000&&s.Abp with
  |true=>AE st (s.Gd x) (cs++p.1) s.keeps (P (r,o))
  |false=>False
def TH (s:MSpec) (fn:Func) (x:Ins.den s.ins) (st:St) (P:CKs.den s.outs×IOs.den s.ins->Prop):Prop:=
 match s.ptr with
 |none=>uZ T s fn x st [] P
 |some p=>match st.at Pq with
  |some (.var tid vs)=>match Nat.beq tid p.1&&Nat.beq vs.length p.2 with
   |true=>Ig (Jt 0 s.ins vs) λcs=>jy st (uZ T s fn x st cs P) vs s.ins
   |false=>False
  |_=>False
@[irreducible] def fnMW (s:MSpec) (fn:Func) (x:Ins.den s.ins) (P:CKs.den s.outs×IOs.den s.ins->Prop):Prop:=
 match Nat.blt s.ins.length 1000&&BJ s with
 |false=>False
 |true=>Ig fn.body λc=>eC T Γ (AJ T.marks fn c) c {kn:= [],st:= {tmps:=aU s (cf 0 s.ins x)++List.replicate (fn.ntmps-(aU s (cf 0 s.ins x)).length) .undef,heap:=r7 s x} } λe w=>match e with
  | .normal=>TH T s fn x w.st P
  | .ret=>TH T s fn x w.st P
  | .exit _=>False
@[irreducible] def fnW (s:Spec) (fn:Func) (x:s.arg.den) (P:s.res.den->Prop):Prop:=
 Ig fn.body λc=>eC T Γ (AJ T.marks fn c) c {kn:= [],st:= {tmps:=Ts s.arg x++List.replicate (fn.ntmps-(Ts s.arg x).length) .undef,heap:= []} } λe w=>match e with
  | .normal=>Ajp T s fn P w.st
  | .ret=>Ajp T s fn P w.st
  | .exit _=>False
end Go.Proofs.Ytfgfigkbgecfnaa
