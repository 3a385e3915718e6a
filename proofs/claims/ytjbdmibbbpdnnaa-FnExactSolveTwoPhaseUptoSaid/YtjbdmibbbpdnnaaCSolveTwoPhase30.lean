/-
  Part 31 of the proof that the statement FnExactSolveTwoPhase holds.
-/
import Derived.Test.YtjbdmibbbpdnnaaCSolveTwoPhase29
namespace Go.Proofs.Ytjbdmibbbpdnnaa
open Go.RowKit
inductive Br (b:Bool) (A B:Prop):Prop
 |mk (t:b=true->A) (f:b=false->B)
inductive Bo {V:Type} (step:V->(V->Prop)->Prop) (v0:V):Prop
 |mk (I:V->Prop) (μ:V->Nat) (h0:I v0) (h: ∀v,I v->step v (λv'=>I v'/\μ v'<μ v))
structure WS where
 kn:List (Nat×Bool)
 st:St
def qe:List (Nat×Bool)->Nat->Option Bool
 | [],_=>none
 |(k,b)::r,t=>if k=t then some b else qe r t
def rH:List (Nat×Bool)->Nat->List (Nat×Bool)
 | [],_=> []
 |(k,b)::r,t=>if k=t then rH r t else (k,b)::rH r t
def WS.put (w:WS) (dst:Option Tmp) (v:AV):WS:=
 match dst with
 |some d=> {kn:=rH w.kn d,st:=w.st.put (some d) v}
 |none=>w
def Qh (kn:List (Nat×Bool)):Operand->Option Bool
 | .const (.bool b)=>some b
 | .tmp t=>qe kn t
 |_=>none
def Dr (kn:List (Nat×Bool)) (o:Oper):Option Bool:=
 match o.op with
 | .assign x=>Qh kn x
 | .move x=>Qh kn x
 | .unOp .not _ x=>(Qh kn x).map (!·)
 | .pick c a b=>match Qh kn c with
  |some true=>Qh kn a
  |some false=>Qh kn b
  |none=>none
 |_=>none
def WS.qx (w:WS) (o:Oper) (v:AV):WS:=
 match o.dst,Dr w.kn o with
 |some d,some b=>match (w.st.put (some d) v).get d with
  | .at (.data _ .bool _)=> {kn:=(d,b)::rH w.kn d,st:=w.st.put (some d) v}
  |_=>w.put (some d) v
 |dst,_=>w.put dst v
def WS.to (w:WS) (st:St):WS:= {kn:=w.kn,st:=st}
def brT (w:WS) (t:Nat) (K:Bool->WS->Prop):Prop:=
 match qe w.kn t with
 |some b=>K b w
 |none=>match w.st.get t with
  | .at (.data _ .bool b)=>Br b (K true {kn:=(t,true)::w.kn,st:=w.st}) (K false {kn:=(t,false)::w.kn,st:=w.st})
  |_=>False
def brO (w:WS) (c:Operand) (K:Bool->WS->Prop):Prop:=
 match c with
 | .tmp t=>brT w t K
 | .const (.bool b)=>K b w
 |_=>False
def Ed {α:Type} (o:Option α) (K:α->Prop):Prop:=match o with|some x=>K x|none=>False
def Aa4 (T:Tab) (st:St) (t:TypeId) (x:AV) (l h:Int):Option AV:=
 match x with
 | .at (.data fr (.slice e) xs)=>if (T.elem t).bind T.ty=some e then some (.at (.data fr (.slice e) ((xs.take h.toNat).drop l.toNat))) else none
 | .at (.own k off _)=>match st.at k with
  |some (.arr _ _ e tid _)=>if T.elem t=some tid/\T.ty tid=some e then some (.at (.own k (off+l.toNat) (h.toNat-l.toNat))) else none
  |_=>none
 | .at (.data _ .str s)=>if T.ty t=some .str then some (.at (.data true .str (s.extract l.toNat h.toNat))) else none
 |_=>none
variable (T:Tab) (Γ:Env)
def WW (op:BinOp) (t:TypeId) (x y:AV) (K:AV->Prop):Prop:=
 match op,x,y with
 | .quo, .at (.data _ (.int k) a), .at (.data _ (.int k') b)=>if k=k' then b≠0/\K (.at (.data true (.int k) (k.wrap (a.tdiv b)))) else False
 | .rem, .at (.data _ (.int k) a), .at (.data _ (.int k') b)=>if k=k' then b≠0/\K (.at (.data true (.int k) (a.tmod b))) else False
 | .shl, .at (.data _ (.int k) a), .at (.data _ (.int _) b)=> ¬b<0/\K (.at (.data true (.int k) (k.wrap (a*2^(min b.toNat k.bits)))))
 | .shr, .at (.data _ (.int k) a), .at (.data _ (.int _) b)=> ¬b<0/\K (.at (.data true (.int k) (a.fdiv (2^(min b.toNat k.bits)))))
 | .add, .at (.data _ .str a), .at (.data _ .str b)=>a.size+b.size<=4294967296/\K (.at (.data true .str (a++b)))
 |op,x,y=>Ed (Nw T op t x y) K
def MY (st:St) (t:TypeId) (p:AV) (K:AV->Prop):Prop:=
 match p with
 | .at (.Gh l i)=>Ed (T.ty t) λτ=>match st.at l with
  |some (.arr fr _ e _ xs)=>if e=τ then ∃x,xs[i]?=some x/\K (.at (.data (fr||e.flat) e x)) else False
  |some (.Dl e _ xs)=>if e=τ then ∃x,xs[i]?=some x/\K (if e.Ac then .agg (bt l i 0 e x) else .at ((bt l i 0 e x).headD .undef)) else False
  |some (.Ao _ _ _ none _)=>if τ.Ac then False else K (.at (.sub l i 0))
  |_=>False
 | .at (.data fr (.optr Js) x)=>Ed (T.ty t) λτ=>if Js=τ then ∃y,x=some y/\K (.at (.data (fr||Js.flat) Js y)) else False
 |p=>Ed (Ku T st t p) K
def gw (s:TypeId) (x:AV) (f:Nat) (K:AV->Prop):Prop:=
 match x with
 | .at (.data fr (.optr τ) x)=> ∃y,x=some y/\Ed (Jl T s (.at (.data fr (.ptr τ) y)) f) K
 |x=>Ed (Jl T s x f) K
def rU (st:St) (x:Operand) (K:AV->Prop) (d:Option AV):Prop:=
 match st.ev x with
 | .at (.data fr (.optr τ) x)=> ∃y,x=some y/\K (.at (.data fr (.ptr τ) y))
 |_=>Ed d K
def BQ (st:St) (t:TypeId) (x:AV) (lo hi:Option AV) (K:AV->Prop):Prop:=
 Ed (xc x) λn=>Ed (JW lo 0) λl=>Ed (JW hi n) λh=>(0<=l/\l<=h/\h<=n)/\Ed (Aa4 T st t x l h) K
def gH (st:St) (t:TypeId) (x i:AV) (K:AV->Prop):Prop:=
 match x,i with
 | .at (.data fr (.slice e) xs), .at (.data _ (.int _) n)=>if (T.elem t).bind T.ty=some e then ∃x,idx xs n=some x/\K (.at (.data fr (.ptr e) x)) else False
 | .at (.own l off len), .at (.data _ (.int _) n)=>match st.at l with
  |some (.arr _ _ e tid _)=>if T.elem t=some tid/\T.ty tid=some e then (0<=n/\n<len)/\K (.at (.Gh l (off+n.toNat))) else False
  |some (.Dl e tid _)=>if T.elem t=some tid/\T.ty tid=some e then (0<=n/\n<len)/\K (.at (.Gh l (off+n.toNat))) else False
  |some (.Ao _ te _ _ _)=>if T.elem t=some te/\(T.ty te).map Ty.size=some 1 then (0<=n/\n<len)/\K (.at (.Gh l (off+n.toNat))) else False
  |_=>False
 | .at (.sub l i _), .at (.data _ (.int _) n)=>match st.at l with
  |some (.Ao e _ rows none _)=>if ((T.elem t).bind T.ty).map Ty.size=some e.size then (0<=n/\n<(rows.getD i []).length)/\K (.at (.Gf l i n.toNat)) else False
  |_=>False
 |_,_=>False
def zS (t:TypeId) (x i:AV) (K:AV->Prop):Prop:=
 match x,i with
 | .at (.data _ .str s), .at (.data _ (.int _) n)=>if T.ty t=some .str then 0<=n/\ ∃b,s[n.toNat]?=some b/\K (.at (.data true (.int .u8) b.toNat)) else False
 |_,_=>False
def re (st:St) (f:FuncId) (args:List AV) (K:AV->Prop):Prop:=
 Ed (match Γ f with|some (.q s)=>some s|_=>none) λs=>match s.fresh||s.res.flat||args.all (·.settled) with
  |true=>Ed (Ca st s.arg args) λp=> ∃y,s.fn p.2=some y/\K (if s.Ej then .Vn (s.fresh||s.res.flat) s.res y else .at (.data (s.fresh||s.res.flat) s.res y))
  |false=>False
def zo (st:St) (v:AV) (args:List AV) (K:AV->Prop):Prop:=
 match v with
 | .at (.data fr (.clo f τ) x)=>match τ.chain with|true=>(match Nat.blt f 1000000000 with|true=>re Γ st f (args++Vt fr τ x) K|false=>re Γ st (f-1000000000) (Vt fr τ x++args) K)|false=>False
 | .at (.clo f Cd)=>re Γ st f (args++Cd.map λp=> .at (.Eb p.1 p.2)) K
 |_=>False
def qW (w:WS) (o:Oper) (K:AV->WS->Prop):Prop:=
 match o.op with
 | .pick c a b=>brO w c λt w'=>match t with|true=>K (w'.st.ev a) w'|false=>K (w'.st.ev b) w'
 | .load t a=>MY T w.st t (w.st.ev a) λv=>K v w
 | .binOp op t x y _=>WW T op t (w.st.ev x) (w.st.ev y) λv=>K v w
 | .slice t x lo hi mx=>match mx with
  |none=>BQ T w.st t (w.st.ev x) (lo.map w.st.ev) (hi.map w.st.ev) λv=>K v w
  |some _=>False
 | .indexAddr t x i=>gH T w.st t (kF (w.st.ev x)) (w.st.ev i) λv=>K v w
 | .index t x i=>zS T t (w.st.ev x) (w.st.ev i) λv=>K v w
 | .call {callee:= .value (.func f),args, .. } =>re Γ w.st f (args.toList.map w.st.ev) λv=>K v w
 | .call {callee:= .value (.tmp t),args, .. } =>zo Γ w.st (w.st.get t) (args.toList.map w.st.ev) λv=>K v w
 | .fieldAddr s x f=>gw T s (w.st.ev x) f λv=>K v w
 | .nilCheck x=>rU w.st x (λv=>K v w) (Cp T Γ w.st o)
 |_=>Ed (Cp T Γ w.st o) λv=>K v w
def CJ (st:St) (t:TypeId) (p v:AV) (K:St->Prop):Prop:=
 match p with
 | .at (.Gh l j)=>Ed (T.ty t) λτ=>Ed (settle st v) λq=>match q.2.at l with
  |some (.arr fr tr e tid xs)=>Ed (Cy q.2 τ q.1) λu=>if h:τ=e then j<xs.length/\K (q.2.Gk l (.arr (fr&&u.1) (tr&&(Nr st v&&e.tree)) e tid (xs.set j (h▸u.2)))) else False
  |_=>False
 |p=>Ed (Oz T st t p v) K
def FF (st:St) (t:TypeId) (p v:AV) (K:St->Prop):Prop:=
 match p with
 | .at (.Gf l i j)=>Ed (T.ty t) λτ=>Ed (settle st v) λq=>match q.2.at l with
  |some (.Ao e te rows none kp)=>Ed (Cy q.2 τ q.1) λu=>if h:τ=e then K (q.2.Gk l (.Ao e te (rows.set i ((rows.getD i []).set j (h▸u.2))) none kp)) else False
  |_=>False
 | .at (.Gh l j)=>Ed (T.ty t) λτ=>match st.at l,v with
  |some (.Ao e te rows out kp), .at (.own m off len)=>match st.at m with
   |some (.arr _ _ e' _ xs)=>if h:e'=e/\(Nat.blt l Am&&(!Nat.beq m l&&!τ.Ac))=true then
     off=0/\len=xs.length/\(match out with|none=>True|some i=>i=j)/\K (Nu st l j m e te rows (h.1▸xs) (Wg j kp))
    else False
   |_=>False
  |_,_=>False
 |_=>False
def uU (st:St) (t:TypeId) (p v:AV) (K:St->Prop):Prop:=match DZ st p with
 |true=>FF T st t p v K
 |false=>CJ T st t p v K
def im (st:St) (dst:Nat) (t:TypeId) (x y:Operand) (K:AV->St->Prop):Prop:=
 Ed (T.elem t) λte=>Ed (T.ty te) λe=>Ed (settle st (st.ev y)) λq=>Ed (Cy q.2 (.slice e) q.1) λu=>match q.2.ev x with
  | .at .Ie=>match Nat.blt dst Am with
   |true=>List.length u.2<=Bm/\K (.at (.own dst 0 (List.length u.2))) ((q.2.new dst (.arr (T.nM||e.flat) T.vo e te [])).new dst (.arr ((T.nM||e.flat)&&(u.1||e.flat)) (T.vo&&(e.flat||(Nr st (st.ev y)&&e.tree))) e te u.2))
   |false=>False
  | .at (.own l off len)=>match q.2.at l with
   |some (.arr fr tr e' tid xs)=>if h:e'=e/\tid=te/\Nat.blt l Am=true then
     off=0/\len=xs.length/\len+List.length u.2<=Bm/\K (.at (.own l 0 (List.length ((h.1▸xs:List e.den)++u.2)))) (q.2.new l (.arr (fr&&(u.1||e.flat)) (tr&&(e.flat||(Nr st (st.ev y)&&e.tree))) e te ((h.1▸xs:List e.den)++u.2)))
    else False
   |_=>False
  |_=>False
def nk (st:St) (dst:Nat) (t:TypeId) (x y:Operand) (K:AV->St->Prop):Prop:=
 match x with
 | .tmp tx=>match st.get tx with
  | .at (.sub l i _)=>Ed (T.elem t) λtid=>match st.at l with
   |some (.Ao e te rows none kp)=>match Nat.blt l Am&&(Nat.blt dst Am&&!Nat.beq dst l) with
    |true=>im T ((Kt st l i dst e te tid rows kp).put (some tx) (.at (.own dst 0 (rows.getD i []).length))) dst t x y K
    |false=>False
   |_=>False
  |_=>im T st dst t x y K
 |_=>im T st dst t x y K
def NF (st:St) (dst:Nat) (t:TypeId) (l c:AV) (K:AV->St->Prop):Prop:=
 match l,c with
 | .at (.data _ (.int _) n), .at (.data _ (.int _) m)=>Ed (T.elem t) λte=>Ed (T.ty te) λe=>match bE e&&Nat.blt dst Am with
  |true=>(0<=n/\n<Bm+1)/\n=m/\K (.at (.own dst 0 (List.replicate n.toNat e.zero).length)) (st.new dst (.arr (T.nM||e.flat) (T.vo&&e.tree) e te (List.replicate n.toNat e.zero)))
  |false=>False
 |_,_=>False
def AF (st:St) (dst:Nat) (t:TypeId) (l c:AV) (K:AV->St->Prop):Prop:=
 match Zm T t with
 |none=>NF T st dst t l c K
 |some p=>match l,c with
  | .at (.data _ (.int _) n), .at (.data _ (.int _) m)=>match Nat.blt dst Am with
   |true=>(0<=n/\n<Bm+1)/\n=m/\K (.at (.own dst 0 (List.replicate n.toNat ([]:List p.2.den)).length)) (Lp st dst dst (.Ao p.2 p.1 (List.replicate n.toNat []) none none))
   |false=>False
  |_,_=>False
def aE (st:St) (dst:Nat) (t:TypeId) (len:Nat) (parts:Array (Nat×Operand)) (K:AV->St->Prop):Prop:=
 match Zm T t with
 |none=>Ed (Hz T st dst t len parts) λr=>K r.1 r.2
 |some p=>match parts.toList with
  | [(0,x)]=>match st.ev x with
   | .at (.own m off ln)=>match st.at m with
    |some (.arr _ _ e' _ xs)=>if h:e'=p.2/\(Nat.beq len 1&&(Nat.blt dst Am&&Nat.blt m Am))=true then off=0/\ln=xs.length/\K (.at (.own dst 0 1)) (Lp st dst m (.Ao p.2 p.1 [h.1▸xs] none none)) else False
    |_=>False
   |_=>False
  |_=>False
def np (st:St) (dst:Nat) (t:TypeId) (x y:Operand) (K:AV->St->Prop):Prop:=
 match Zm T t with
 |none=>nk T st dst t x y K
 |some p=>match st.ev x,st.ev y with
  | .at (.own l off len), .at (.own m NJ od)=>match st.at l,st.at m with
   |some (.Ao e1 te1 A none _),some (.Ao e2 qO B none _)=>
    if h:(e1=p.2/\e2=p.2)/\(decide (te1=p.1)&&decide (qO=p.1)&&(Nat.blt l Am&&(Nat.blt m Am&&!Nat.beq m l)))=true then
     (off=0/\len=A.length)/\(NJ=0/\od=B.length)/\0<B.length/\A.length+B.length<=Bm/\
      K (.at (.own l 0 (List.length ((h.1.1▸A:List (List p.2.den))++(h.1.2▸B:List (List p.2.den)))))) (Lp st l m (.Ao p.2 p.1 ((h.1.1▸A:List (List p.2.den))++(h.1.2▸B:List (List p.2.den))) none none))
    else False
   |_,_=>False
  |_,_=>False
def bz (st:St) (io:Bool) (k:Nat):(c:CK)->AC->(c.den->List (Nat×Loc)->Prop)->Prop
 | .Dy τ, .own l off len,K=>Ed (Bv st τ (.own l off len)) λp=>K p.2 [(Cb false k, .view l)]
 | .Dy τ, .clo g Cd,K=>match Ww st (Cd.map (·.1))&&!τ.Ac with
  |true=>Ed (Fy st τ (.clo g Cd)) λp=>K p.2 (views k (Cd.map (·.1)))
  |false=>False
 | .Dy τ, .Eb l i,K=>match Ww st [l]&&!τ.Ac with
  |true=>Ed (Fy st τ (.Eb l i)) λp=>K p.2 (views k [l])
  |false=>False
 | .Dy τ, .sub l i c,K=>Ed (Bv st τ (.sub l i c)) λp=>K p.2 [(Cb false k, .view l)]
 | .Dy τ,a,K=>match τ.flat||a.settled with
  |true=>Ed (Bv st τ a) λp=>K p.2 []
  |false=>False
 | .row e te, .own l off len,K=>match st.at l with
  |some (.arr _ _ e' Lw xs)=>if h:e'=e/\Lw=te then off=0/\len=xs.length/\K (h.1▸xs:List e.den) [(Cb io k, .row l)] else False
  |_=>False
 | .row e _, .sub l i c,K=>match st.at l with
  |some (.Dl e' _ xs)=>if h:e'= .slice e/\e.flat=true/\io=true/\c=0 then ∃y,xs[i]?=some y/\K (h.1▸y:(Ty.slice e).den) [(Cb io k, .sub l i c)] else False
  |_=>False
 | .row _ _, .Ie,K=>K [] []
 | .Dx e te, .own l off len,K=>match st.at l with
  |some (.Dl e' Lw xs)=>if h:e'=e/\Lw=te then off=0/\len=xs.length/\K (h.1▸xs:List e.den) [(Cb io k, .row l)] else False
  |_=>False
 | .Dx e _, .sub l i c,K=>match st.at l with
  |some (.Dl e' _ xs)=>if h:e'= .slice e/\io=true/\c=0 then ∃y,xs[i]?=some y/\K (h.1▸y:(Ty.slice e).den) [(Cb io k, .sub l i c)] else False
  |_=>False
 | .Dx _ _, .Ie,K=>K [] []
 | .part e te, .own l off len,K=>match st.at l with
  |some (.arr _ _ e' Lw xs)=>if h:e'=e/\Lw=te/\e.flat=true/\io=true then K ((h.1▸xs:List e.den),off,len) [(Cb io k, .row l)] else False
  |_=>False
 | .Ao e te _, .own l off len,K=>match st.at l with
  |some (.Ao e' Lw rows none _)=>if h:e'=e/\Lw=te/\io=false then off=0/\len=rows.length/\K (h.1▸rows:List (List e.den)) [(Cb io k, .row l)] else False
  |_=>False
 |_,_,_=>False
def vn (st:St):(k:Nat)->(cs:List (Bool×CK))->List AC->(Ins.den cs->List (Nat×Loc)->Prop)->Prop
 |_,[],[],K=>K () []
 |k,p::r,a::as,K=>bz st p.1 k p.2 a λx t1=>vn st (k+1) r as λy t2=>K (x,y) (t1++t2)
 |_,_,_,_=>False
def lL (st:St):(c:CK)->c.den->AC->(St->Prop)->Prop
 | .row e _,ys, .own l _ len,K=>match st.at l with
  |some (.arr fr tr e' te xs)=>if h:e=e' then (List.length ys=len/\xs.length=len)/\K (st.Gk l (.arr (fr&&e'.flat) (tr&&e'.flat) e' te (h▸ys))) else False
  |_=>False
 | .Dx e _,ys, .own l _ len,K=>match st.at l with
  |some (.Dl e' te xs)=>if h:e=e' then (List.length ys=len/\xs.length=len)/\K (st.Gk l (.Dl e' te (h▸ys))) else False
  |_=>False
 | .row e _,ys, .sub l i _,K=>match st.at l with
  |some (.Dl e' te xs)=>if h: .slice e=e' then ∃y,xs[i]?=some y/\List.length ys=List.length (h▸y:(Ty.slice e).den)/\K (st.Gk l (.Dl e' te (xs.set i (h▸(ys:(Ty.slice e).den))))) else False
  |_=>False
 | .Dx e _,ys, .sub l i _,K=>match st.at l with
  |some (.Dl e' te xs)=>if h: .slice e=e' then ∃y,xs[i]?=some y/\List.length ys=List.length (h▸y:(Ty.slice e).den)/\K (st.Gk l (.Dl e' te (xs.set i (h▸(ys:(Ty.slice e).den))))) else False
  |_=>False
 |_,_, .Ie,K=>K st
 |_,_,_,_=>False
def OG (st:St) (e:Ty) (ys:List e.den):AC->(St->Prop)->Prop
 | .own l _ _,K=>match st.at l with
  |some (.arr fr tr e' te xs)=>if h:e=e' then List.length ys=xs.length/\K (st.Gk l (.arr fr tr e' te (h▸ys))) else False
  |_=>False
 |_,_=>False
def dz:(cs:List (Bool×CK))->IOs.den cs->List AC->St->(St->Prop)->Prop
 | [],_,_,st,K=>K st
 |(true, .Dy _)::r,x,_::as,st,K=>dz r x as st K
 |(true, .row e te)::r,x,a::as,st,K=>lL st (.row e te) x.1 a λst'=>dz r x.2 as st' K
 |(true, .Dx e te)::r,x,a::as,st,K=>lL st (.Dx e te) x.1 a λst'=>dz r x.2 as st' K
 |(true, .part e _)::r,x,a::as,st,K=>OG st e x.1 a λst'=>dz r x.2 as st' K
 |(true, .Ao _ _ _)::r,x,_::as,st,K=>dz r x as st K
 |(false,_)::r,x,_::as,st,K=>dz r x as st K
 |_,_,_,_,_=>False
def pw (H:List (Nat×OB)) (ls:List Nat) (n:Nat):List AV->Prop->Prop
 | [],K=>K
 | .at (.sub l i _)::r,K=>match ls.contains l with
  |true=>(i<n/\i<mM H l)/\pw H ls n r K
  |false=>pw H ls n r K
 |_::r,K=>pw H ls n r K
def zm (st:St) (dst:Option Nat) (s:MSpec) (args:List AV) (K:AV->St->Prop):Prop:=
 Ed (EZ st s args) λq=>Ed (ungroup s.Hq q.2.2) λjF=>vn st 0 s.ins (q.2.1++jF) λx tks=>
  match Ub (tks.map λt=>t.2.Qx)&&tP (Mo s tks (dst.getD 0)) (s.outs.length+(gR s (dst.getD 0)).length)&&Nat.blt s.outs.length 1000&&Nat.blt s.ins.length 1000&&(Qd s.ins q.2.1&&q.1.all λl=>!((tks.map λt=>t.2.Qx)++Mo s tks (dst.getD 0)).contains l) with
  |true=> ∃p,s.fn x=some p/\dz s.ins p.2 (q.2.1++jF) st λst1=>Ed (TI s (dst.getD 0) ((Wl (Cc (Mo s tks (dst.getD 0))) 0 s.outs p.1).drop s.Ui)) λv=>
    pw (gh st st1 (dst.getD 0) s q.1 tks p.1).heap (Wf st.heap (Mo s tks (dst.getD 0)) tks s.keeps) (s.Cz x) st.tmps
     (K v (gI st (gh st st1 (dst.getD 0) s q.1 tks p.1) (Wf st.heap (Mo s tks (dst.getD 0)) tks s.keeps) (s.Cz x)))
  |false=>False
def WK (w:WS) (o:Oper) (K:AV->WS->Prop):Prop:=
 match o.op with
 | .store t p x=>uU T w.st t (w.st.ev p) (w.st.ev x) λs=>K .undef (w.to s)
 | .makeSlice t l c=>Ed o.dst λd=>AF T w.st d t (w.st.ev l) (w.st.ev c) λv s=>K v (w.to s)
 | .call {callee:= .builtin .append,args,argTypes} =>match o.dst,args.toList,argTypes.toList with
  |some d,[x,y],[t,t']=>if t=t' then np T w.st d t x y λv s=>K v (w.to s) else False
  |_,_,_=>False
 | .assign _=>Ed (evalOp T Γ w.st o) λr=>K r.1 (w.to r.2)
 | .alloc _=>Ed (evalOp T Γ w.st o) λr=>K r.1 (w.to r.2)
 | .box _ _=>Ed (evalOp T Γ w.st o) λr=>K r.1 (w.to r.2)
 | .buildSlice t len parts=>Ed o.dst λd=>aE T w.st d t len parts λv s=>K v (w.to s)
 | .build _ _=>Ed (evalOp T Γ w.st o) λr=>K r.1 (w.to r.2)
 | .makeMap _ _=>Ed (evalOp T Γ w.st o) λr=>K r.1 (w.to r.2)
 | .mapUpdate _ _ _ _=>Ed (evalOp T Γ w.st o) λr=>K r.1 (w.to r.2)
 | .insert _ _ _ _=>Ed (evalOp T Γ w.st o) λr=>K r.1 (w.to r.2)
 | .call {callee:= .builtin .copy, .. } =>Ed (evalOp T Γ w.st o) λr=>K r.1 (w.to r.2)
 | .call {callee:= .builtin .clear, .. } =>Ed (evalOp T Γ w.st o) λr=>K r.1 (w.to r.2)
 | .call {callee:= .value (.func f),args, .. } =>match Γ f with
  |some (.m s)=>zm w.st o.dst s (args.toList.map w.st.ev) λv s'=>K v (w.to s')
  |some (.q s)=>match aW s (args.toList.map w.st.ev) with
   |true=>Ed (Kd args.toList w.st) λst1=>qW T Γ (w.to st1) o K
   |false=>qW T Γ w o K
  |_=>qW T Γ w o K
 |_=>qW T Γ w o K
def AV.MU:AV->Bool
 | .at .skip=>true
 |_=>false
def bW (w:WS) (o:Oper) (K:AV->WS->Prop):Prop:=
 match o.op with
 | .buildSlice t len parts=>Ed (Vv T w.st t len parts) λv=>K v w
 | .build t parts=>Ed (Rh T w.st t parts) λv=>K v w
 |_=>qW T Γ w o K
def fN (ops:Array Oper) (w:WS) (o:Oper) (run:(AV->WS->Prop)->WS->Prop) (K:WS->Prop):Prop:=
 match o.guard with
 |none=>run (λv w'=>K (w'.qx o v)) w
 |some (j,want)=>Ed ((ops[j]?).bind (·.dst)) λt=>match (w.st.get t).MU with
  |true=>K (w.put o.dst (.at .skip))
  |false=>brT w t λb w'=>match b,want with
   |true,true=>run (λv pH=>K (pH.qx o v)) w'
   |false,false=>run (λv pH=>K (pH.qx o v)) w'
   |_,_=>K (w'.put o.dst (.at .skip))
def ZJ (ops:Array Oper):List Oper->WS->(WS->Prop)->Prop
 | [],w,K=>K w
 |o::r,w,K=>fN ops w o (λk w'=>WK T Γ w' o k) λw'=>ZJ ops r w' K
def ML (ops:Array Oper):List Nat->WS->(WS->Prop)->Prop
 | [],w,K=>K w
 |i::r,w,K=>Ed ops[i]? λo=>fN ops w o (λk w'=>WK T Γ w' o k) λw'=>ML ops r w' K
def rv (ops:Array Oper):List Nat->WS->(WS->Prop)->Prop
 | [],w,K=>K w
 |i::r,w,K=>Ed ops[i]? λo=>fN ops w o (λk w'=>bW T Γ w' o k) λw'=>rv ops r w' K
def QZ:List Nat->(Nat->Prop)->Prop
 | [],_=>True
 | [i],P=>P i
 |i::j::r,P=>P i/\QZ (j::r) P
def FR (ops:Array Oper):Nat->Array Bool->WS->(WS->Prop)->Prop
 |0,Ad,w,K=>match Region.ready .any ops Ad with
  | []=>K w
  |_::_=>False
 |f+1,Ad,w,K=>match Region.ready .any ops Ad with
  | []=>False
  |i::r=>QZ (i::r) λk=>Ed ops[k]? λo=>fN ops w o (λkk w'=>WK T Γ w' o kk) λw'=>FR ops f (Ad.setIfInBounds k true) w' K
def acV:AC->Type->Type
 | .data _ τ _,R=>τ.den×R
 | .sub _ _ _,R=>Nat×R
 | .Gh _ _,R=>Nat×R
 | .Gf _ _ _,R=>Nat×Nat×R
 |_,R=>R
def zc:List AC->Type->Type
 | [],R=>R
 |c::r,R=>acV c (zc r R)
def avV:AV->Type->Type
 | .at a,R=>acV a R
 | .agg cs,R=>zc cs R
 | .Vn _ τ _,R=>τ.den×R
 | .Jq _,R=>R
def obV:OB->Type->Type
 | .arr _ _ e _ _,R=>List e.den×R
 | .Dl e _ _,R=>List e.den×R
 | .var _ vs,R=>zc vs R
 | .Ao e _ _ _ none,R=>List (List e.den)×R
 | .Ao e _ _ _ (some _),R=>List (List e.den)×(Nat×R)
 | .Pp v _,R=>(ByteArray->Option v.den)×R
def m5:List AV->Type->Type
 | [],R=>R
 |v::r,R=>avV v (m5 r R)
def ry:List (Nat×OB)->Type->Type
 | [],R=>R
 |p::r,R=>obV p.2 (ry r R)
def stV (s:St):Type:=m5 s.tmps (ry s.heap Unit)
def DD:(c:AC)-> {R:Type} ->R->acV c R
 | .data _ _ x,_,r=>(x,r)
 | .undef,_,r=>r
 | .skip,_,r=>r
 | .Ie,_,r=>r
 | .Rr,_,r=>r
 | .own _ _ _,_,r=>r
 | .Eb _ _,_,r=>r
 | .Gh _ i,_,r=>(i,r)
 | .clo _ _,_,r=>r
 | .Gt _,_,r=>r
 | .sub _ i _,_,r=>(i,r)
 | .Gf _ i j,_,r=>(i,j,r)
def nh:(l:List AC)-> {R:Type} ->R->zc l R
 | [],_,r=>r
 |c::l,_,r=>DD c (nh l r)
def UI:(c:AV)-> {R:Type} ->R->avV c R
 | .at a,_,r=>DD a r
 | .agg cs,_,r=>nh cs r
 | .Vn _ _ x,_,r=>(x,r)
 | .Jq _,_,r=>r
def WJ:(b:OB)-> {R:Type} ->R->obV b R
 | .arr _ _ _ _ xs,_,r=>(xs,r)
 | .Dl _ _ xs,_,r=>(xs,r)
 | .var _ vs,_,r=>nh vs r
 | .Ao _ _ rows _ none,_,r=>(rows,r)
 | .Ao _ _ rows _ (some p),_,r=>(rows,p.2,r)
 | .Pp _ m,_,r=>(m,r)
def mV:(l:List AV)-> {R:Type} ->R->m5 l R
 | [],_,r=>r
 |c::l,_,r=>UI c (mV l r)
def mN:(l:List (Nat×OB))-> {R:Type} ->R->ry l R
 | [],_,r=>r
 |p::l,_,r=>WJ p.2 (mN l r)
def FD (s:St):stV s:=mV s.tmps (mN s.heap ())
def jM:(c d:AC)-> {R:Type} ->R->Option (acV c R)
 | .data fr τ _, .data Py Js x,_,r=>if h:Js=τ/\Py=fr then some (h.1▸x,r) else none
 | .undef, .undef,_,r=>some r
 | .skip, .skip,_,r=>some r
 | .Ie, .Ie,_,r=>some r
 | .Rr, .Rr,_,r=>some r
 | .own l _ _, .own l' _ _,_,r=>if l=l' then some r else none
 | .Eb l i, .Eb l' i',_,r=>if l=l'/\i=i' then some r else none
 | .Gh l _, .Gh l' i',_,r=>if l=l' then some (i',r) else none
 | .clo f c, .clo f' c',_,r=>if f=f'/\c=c' then some r else none
 | .Gt l, .Gt l',_,r=>if l=l' then some r else none
 | .sub l _ c, .sub l' i' c',_,r=>if l=l'/\c=c' then some (i',r) else none
 | .Gf l _ _, .Gf l' i' j',_,r=>if l=l' then some (i',j',r) else none
 |_,_,_,_=>none
def Mn:(l m:List AC)-> {R:Type} ->R->Option (zc l R)
 | [],[],_,r=>some r
 |c::l,d::m,_,r=>(Mn l m r).bind λr'=>jM c d r'
 |_,_,_,_=>none
def gl:(c d:AV)-> {R:Type} ->R->Option (avV c R)
 | .at a, .at b,_,r=>jM a b r
 | .agg cs, .agg ds,_,r=>Mn cs ds r
 | .Vn fr τ _, .Vn Py Js x,_,r=>if h:Js=τ/\Py=fr then some (h.1▸x,r) else none
 |_,_,_,_=>none
def Nk:(b d:OB)-> {R:Type} ->R->Option (obV b R)
 | .arr fr tr e tid _, .arr Py PK e' Ov xs,_,r=>if h:e'=e/\Py=fr/\PK=tr/\Ov=tid then some (h.1▸xs,r) else none
 | .Dl e tid _, .Dl e' Ov xs,_,r=>if h:e'=e/\Ov=tid then some (h.1▸xs,r) else none
 | .Pp v _, .Pp v' m,_,r=>if h:v'=v then some (h▸m,r) else none
 | .var t vs, .var t' us,_,r=>if t'=t then Mn vs us r else none
 | .Ao e te _ out none, .Ao e' Lw rows ck none,_,r=>if h:e'=e/\Lw=te/\ck=out then some (h.1▸rows,r) else none
 | .Ao e te _ out (some p), .Ao e' Lw rows ck (some p'),_,r=>if h:e'=e/\Lw=te/\ck=out/\p'.1=p.1 then some (h.1▸rows,p'.2,r) else none
 |_,_,_,_=>none
def Ke:(l m:List AV)-> {R:Type} ->R->Option (m5 l R)
 | [],[],_,r=>some r
 |c::l,d::m,_,r=>(Ke l m r).bind λr'=>gl c d r'
 |_,_,_,_=>none
def Kv:(l m:List (Nat×OB))-> {R:Type} ->R->Option (ry l R)
 | [],[],_,r=>some r
 |p::l,q::m,_,r=>if q.1=p.1 then (Kv l m r).bind λr'=>Nk p.2 q.2 r' else none
 |_,_,_,_=>none
def dT (s t:St):Option (stV s):=(Kv s.heap t.heap ()).bind λr=>Ke s.tmps t.tmps r
def gg:(c:AC)-> {R:Type} ->acV c R->AC×R
 | .data fr τ _,_,v=>(.data fr τ v.1,v.2)
 | .undef,_,r=>(.undef,r)
 | .skip,_,r=>(.skip,r)
 | .Ie,_,r=>(.Ie,r)
 | .Rr,_,r=>(.Rr,r)
 | .own l off len,_,r=>(.own l off len,r)
 | .Eb l i,_,r=>(.Eb l i,r)
 | .Gh l _,_,v=>(.Gh l v.1,v.2)
 | .clo f c,_,r=>(.clo f c,r)
 | .Gt l,_,r=>(.Gt l,r)
 | .sub l _ c,_,v=>(.sub l v.1 c,v.2)
 | .Gf l _ _,_,v=>(.Gf l v.1 v.2.1,v.2.2)
def Ul:(l:List AC)-> {R:Type} ->zc l R->List AC×R
 | [],_,r=>([],r)
 |c::l,_,v=>((gg c v).1::(Ul l (gg c v).2).1,(Ul l (gg c v).2).2)
def nu:(c:AV)-> {R:Type} ->avV c R->AV×R
 | .at a,_,v=>(.at (gg a v).1,(gg a v).2)
 | .agg cs,_,v=>(.agg (Ul cs v).1,(Ul cs v).2)
 | .Vn fr τ _,_,v=>(.Vn fr τ v.1,v.2)
 | .Jq l,_,r=>(.Jq l,r)
def oA:(b:OB)-> {R:Type} ->obV b R->OB×R
 | .arr fr tr e tid _,_,v=>(.arr fr tr e tid v.1,v.2)
 | .Dl e tid _,_,v=>(.Dl e tid v.1,v.2)
 | .Pp w _,_,v=>(.Pp w v.1,v.2)
 | .var t vs,_,v=>(.var t (Ul vs v).1,(Ul vs v).2)
 | .Ao e te _ out none,_,v=>(.Ao e te v.1 out none,v.2)
 | .Ao e te _ out (some p),_,v=>(.Ao e te v.1 out (some (p.1,v.2.1)),v.2.2)
def Qr:(l:List AV)-> {R:Type} ->m5 l R->List AV×R
 | [],_,r=>([],r)
 |c::l,_,v=>((nu c v).1::(Qr l (nu c v).2).1,(Qr l (nu c v).2).2)
def Zp:(l:List (Nat×OB))-> {R:Type} ->ry l R->List (Nat×OB)×R
 | [],_,r=>([],r)
 |p::l,_,v=>((p.1,(oA p.2 v).1)::(Zp l (oA p.2 v).2).1,(Zp l (oA p.2 v).2).2)
def dS (s:St) (v:stV s):St:= {tmps:=(Qr s.tmps v).1,heap:=(Zp s.heap (Qr s.tmps v).2).1}
def lenOf (H:List (Nat×OB)) (l:Nat):Nat:=match Ag H l with|some (.arr _ _ _ _ xs)=>xs.length|some (.Dl _ _ xs)=>xs.length|some (.Ao _ _ rows _ _)=>rows.length|_=>0
def Tw (ps:List Nat):List AV->List (Nat×Nat×Nat)
 | []=> []
 | .at (.own l off len)::r=>if ps.contains l then (l,off,len)::Tw ps r else Tw ps r
 |_::r=>Tw ps r
def ZH:List (Nat×Nat×Nat)->Nat->Nat
 | [],_=>0
 |(k,o,_)::r,l=>if k=l then o else ZH r l
def GW:List (Nat×Nat×Nat)->List (Nat×OB)->Nat->Nat
 | [],H,l=>lenOf H l
 |(k,_,n)::r,H,l=>if k=l then n else GW r H l
def bD (B:List (Nat×Nat×Nat)) (H:List (Nat×OB)):AC->AC
 | .own l _ _=> .own l (ZH B l) (GW B H l)
 |c=>c
def St.whole (B:List (Nat×Nat×Nat)) (s:St):St:=s.Gs (bD B s.heap)
def sH (B:List (Nat×Nat×Nat)) (H:List (Nat×OB)) (c:AC) (K:Prop):Prop:=match c with
 | .own l off len=>off=ZH B l/\len=GW B H l/\K
 |_=>K
def Yz (B:List (Nat×Nat×Nat)) (H:List (Nat×OB)):List AC->Prop->Prop
 | [],K=>K
 |c::r,K=>sH B H c (Yz B H r K)
def DF (B:List (Nat×Nat×Nat)) (H:List (Nat×OB)) (c:AV) (K:Prop):Prop:=match c with
 | .at a=>sH B H a K
 | .agg cs=>Yz B H cs K
 | .Vn _ _ _=>K
 | .Jq _=>False
def Vm (B:List (Nat×Nat×Nat)) (H:List (Nat×OB)):List AV->Prop->Prop
 | [],K=>K
 |c::r,K=>DF B H c (Vm B H r K)
def eC (B:List (Nat×Nat×Nat)) (H:List (Nat×OB)):List (Nat×OB)->Prop->Prop
 | [],K=>K
 |p::r,K=>match p.2 with
  | .var _ vs=>Yz B H vs (eC B H r K)
  |_=>eC B H r K
def uR (B:List (Nat×Nat×Nat)) (s:St) (K:Prop):Prop:=Vm B s.heap s.tmps (eC B s.heap s.heap K)
def AV.Rp:AV->Bool
 | .at (.data _ _ _)=>true
 |_=>false
def Ia (p:Nat->Bool):Nat->List AV->List Bool
 |_,[]=> []
 |i,v::r=>(v.Rp&&p i)::Ia p (i+1) r
def stays (live:Nat->List Nat) (c:Code) (t:Nat):Bool:=!(writes c).contains t&&We live c t
def Pe:List Bool->List AV->List AV
 |true::f,_::r=> .undef::Pe f r
 |false::f,v::r=>v::Pe f r
 |_,l=>l
def Qi:List Bool->List AV->List AV->List AV
 |true::f,a::s,_::r=>a::Qi f s r
 |false::f,_::s,v::r=>v::Qi f s r
 |_,_,l=>l
def St.mask (fx:List Bool) (s:St):St:= {tmps:=Pe fx s.tmps,heap:=s.heap}
def St.ql (fx:List Bool) (s0 s:St):St:= {tmps:=Qi fx s0.tmps s.tmps,heap:=s.heap}
def mJ (c:AC) (k:AC->Prop):Prop:=match c with
 | .undef=>k .undef
 | .skip=>k .skip
 | .Ie=>k .Ie
 | .Rr=>k .Rr
 | .data fr τ x=>match fr with
  |true=>k (.data true τ x)
  |false=>k (.data false τ x)
 | .own l off len=>k (.own l off len)
 | .Eb l i=>k (.Eb l i)
 | .Gh l i=>k (.Gh l i)
 | .clo f c=>k (.clo f c)
 | .Gt l=>k (.Gt l)
 | .sub l i c=>k (.sub l i c)
 | .Gf l i c=>k (.Gf l i c)
def cS:List AC->(List AC->Prop)->Prop
 | [],k=>k []
 |c::r,k=>mJ c λc'=>cS r λr'=>k (c'::r')
def th (c:AV) (k:AV->Prop):Prop:=match c with
 | .at a=>mJ a λa'=>k (.at a')
 | .agg cs=>cS cs λcK=>k (.agg cK)
 | .Vn fr τ x=>k (.Vn fr τ x)
 | .Jq l=>k (.Jq l)
def cT:List AV->(List AV->Prop)->Prop
 | [],k=>k []
 |c::r,k=>th c λc'=>cT r λr'=>k (c'::r')
def tj (b:OB) (k:OB->Prop):Prop:=match b with
 | .arr fr tr e tid xs=>match fr,tr with
  |true,true=>k (.arr true true e tid xs)
  |true,false=>k (.arr true false e tid xs)
  |false,true=>k (.arr false true e tid xs)
  |false,false=>k (.arr false false e tid xs)
 | .Dl e tid xs=>k (.Dl e tid xs)
 | .var t vs=>cS vs λvR=>k (.var t vR)
 | .Ao e te rows out kp=>match out,kp with
  |none,none=>k (.Ao e te rows none none)
  |none,some (l,n)=>k (.Ao e te rows none (some (l,n)))
  |some i,none=>k (.Ao e te rows (some i) none)
  |some i,some (l,n)=>k (.Ao e te rows (some i) (some (l,n)))
 | .Pp v m=>k (.Pp v m)
def nL:List (Nat×OB)->(List (Nat×OB)->Prop)->Prop
 | [],k=>k []
 |(l,b)::r,k=>tj b λb'=>nL r λr'=>k ((l,b')::r')
def kb (w:WS) (k:WS->Prop):Prop:=cT w.st.tmps λt=>nL w.st.heap λh=>k {kn:=w.kn,st:= {tmps:=t,heap:=h} }
def ka (s:St) (k:St->Prop):Prop:=cT s.tmps λt=>nL s.heap λh=>k {tmps:=t,heap:=h}
def ew:List Bool->(List Bool->Prop)->Prop
 | [],k=>k []
 |true::r,k=>ew r λr'=>k (true::r')
 |false::r,k=>ew r λr'=>k (false::r')
theorem lq {c:AC} {k:AC->Prop} :mJ c k↔k c:=by
 cases c<;>simp only [mJ]
 split<;>rfl
theorem aL: ∀ {l:List AC} {k:List AC->Prop},cS l k↔k l
 | [],k=>Iff.rfl
 |c::r,k=>by simp only [cS];rw [lq,aL]
theorem wJ {c:AV} {k:AV->Prop} :th c k↔k c:=by
 cases c<;>simp only [th]
 ·exact lq
 ·exact aL
theorem aM: ∀ {l:List AV} {k:List AV->Prop},cT l k↔k l
 | [],k=>Iff.rfl
 |c::r,k=>by simp only [cT];rw [wJ,aM]
theorem wK {b:OB} {k:OB->Prop} :tj b k↔k b:=by
 cases b<;>simp only [tj]
 ·split<;>rfl
 ·exact aL
 ·split<;>rfl
theorem gz: ∀ {l:List (Nat×OB)} {k:List (Nat×OB)->Prop},nL l k↔k l
 | [],k=>Iff.rfl
 |(l,b)::r,k=>by simp only [nL];rw [wK,gz]
theorem GD {s:St} {k:St->Prop} :ka s k=k s:=by
 unfold ka
 exact propext (by rw [aM,gz])
theorem gy: ∀ {l:List Bool} {k:List Bool->Prop},ew l k=k l
 | [],k=>rfl
 |true::r,k=>by simp only [ew];rw [gy]
 |false::r,k=>by simp only [ew];rw [gy]
theorem aN {w:WS} {k:WS->Prop} :kb w k↔k w:=by
 unfold kb
 rw [aM,gz]
def Vq:AC->List (Nat×Nat)
 | .own _ off len=> [(off,len)]
 |_=> []
def Vs:AV->List (Nat×Nat)
 | .at a=>Vq a
 | .agg cs=>cs.flatMap Vq
 |_=> []
def gO:OB->List (Nat×Nat)
 | .var _ vs=>vs.flatMap Vq
 |_=> []
def CI (s:St):List (Nat×Nat):=s.tmps.flatMap Vs++s.heap.flatMap λp=>gO p.2
def eqW (s0 s:St):Prop:=CI s=CI s0/\Ed (dT s0 s) λv=>v=FD s0
def jZ (ops:Array Oper):Nat->Array Bool->WS->(WS->Prop)->Prop
 |0,Ad,w,K=>match Region.ready .any ops Ad with
  | []=>K w
  |_::_=>False
 |f+1,Ad,w,K=>match Region.ready .any ops Ad with
  | []=>False
  |k::_=>Ed ops[k]? λo=>fN ops w o (λkk w'=>WK T Γ w' o kk) λw'=>jZ ops f (Ad.setIfInBounds k true) w' K
def w5 (P:List (Nat×Nat×AV×OB)) (ops:Array Oper):Nat->Array Bool->WS->(WS->Prop)->Prop
 |0,Ad,w,K=>match Region.ready .any ops Ad with
  | []=>K w
  |_::_=>False
 |f+1,Ad,w,K=>match Region.ready .any ops Ad with
  | []=>False
  |i::r=>QZ (i::r) λk=>Ed ops[k]? λo=>match AM P Γ ops w.st o k with
   |true=>fN ops w o (λkk w'=>WK T Γ w' o kk) λw'=>w5 P ops f (Ad.setIfInBounds k true) w' K
   |false=>False
def sN (P:List (Nat×Nat×AV×OB)) (n:Nat) (L0:Array Bool) (ops:Array Oper) (w:WS) (K:WS->Prop):Prop:=
 match (Ub (P.map (·.1))&&Ub (P.map (·.2.1)))&&((P.all λa=>ky a.2.1 w.st)&&(Nat.ble P.length n&&Nat.ble (n-P.length) 10)) with
 |true=>ML T Γ ops (P.map (·.1)) w λw1=>kb w1 λw1=>jZ T Γ ops (n-P.length) (Ek (P.map (·.1)) L0) w1 λw0=>kb w0 λw0=>K w0/\w5 T Γ P ops (n-P.length) (Ek (P.map (·.1)) L0) w1 λw2=>eqW w0.st w2.st
 |false=>False
def uw (ops:Array Oper) (draw:Bool) (w:WS) (K:WS->Prop):Prop:=
 match draw with
 |true=>match eJ false Γ ops with
  |true=>rv T Γ ops (eB false Γ ops) w λw'=>ML T Γ ops (Ft false Γ ops) w' K
  |false=>match eJ true Γ ops with
   |true=>rv T Γ ops (eB true Γ ops) w λw'=>ML T Γ ops (Ft true Γ ops) w' K
   |false=>match Region.noSelect ops&&Nat.ble (ops.size-(Kp ops).length) 8 with
    |true=>rv T Γ ops (Kp ops) w λw'=>match eu false ops with
     |true=>FR T Γ ops (ops.size-(Kp ops).length) (Ek (Kp ops) (Array.replicate ops.size false)) w' K
     |false=>jZ T Γ ops (ops.size-(Kp ops).length) (Ek (Kp ops) (Array.replicate ops.size false)) w' λw0=>kb w0 λw0=>K w0/\FR T Γ ops (ops.size-(Kp ops).length) (Ek (Kp ops) (Array.replicate ops.size false)) w' λw1=>eqW w0.st w1.st
    |false=>match Region.noSelect ops with
     |true=>rv T Γ ops (Kp ops) w λw'=>sN T Γ (Tb T ops (Ek (Kp ops) (Array.replicate ops.size false))) (ops.size-(Kp ops).length) (Ek (Kp ops) (Array.replicate ops.size false)) ops w' K
     |false=>False
 |false=>ZJ T Γ ops ops.toList w K
def Zd (live:Nat->List Nat):Code->WS->(Hi->WS->Prop)->Prop
 | .skip,w,Q=>Q .normal w
 | .label _,w,Q=>Q .normal w
 | .region _ ops draw,w,Q=>uw T (uv Γ draw) ops draw w λw'=>kb w' (Q .normal)
 | .seq a b,w,Q=>Zd live a w λe w'=>match e with
  | .normal=>Zd live b w' Q
  | .exit id=>Q (.exit id) w'
  | .ret=>Q .ret w'
 | .cond c a b,w,Q=>brO w c λt w'=>match t with
  |true=>Zd live a w' Q
  |false=>Zd live b w' Q
 | .block id c,w,Q=>Zd live c w λe w'=>match e with
  | .normal=>Q .normal w'
  | .exit GQ=>if GQ=id then Q .normal w' else Q (.exit GQ) w'
  | .ret=>Q .ret w'
 | .loop c,w,Q=>
  ka (w.st.clean (live (Cl c))) λs0=>ew (Ia (stays live c) 0 s0.tmps) λfx=>ka (s0.mask fx) λm=>
  uR (Tw T.parts s0.tmps) s0 (Bo (V:=stV m) (λv k=>ka ((St.ql fx s0 (dS m v)).whole (Tw T.parts s0.tmps)) λsb=>Zd live c ⟨[],sb⟩ λe w'=>match e with
   | .normal=>ka (w'.st.clean (live (Cl c))) λs1=>uR (Tw T.parts s0.tmps) s1 (Ed (dT m (s1.mask fx)) k)
   | .exit id=>Q (.exit id) w'
   | .ret=>Q .ret w') (FD m))
 | .exit id,w,Q=>Q (.exit id) w
 | .ret,w,Q=>Q .ret w
 |_,_,_=>False
def WX (s:Spec) (fn:Func) (P:s.res.den->Prop) (st:St):Prop:=
 Ed (iK T s fn st) λp=>match p.1||!s.fresh with|true=>P p.2|false=>False
def df (st:St) (K:Prop):List AC->List (Bool×CK)->Prop
 | .own l off len::as,(true,_)::r=>match st.at l with
  |some (.arr _ _ _ _ xs)=>(off=0/\len=xs.length)/\df st K as r
  |some (.Dl _ _ xs)=>(off=0/\len=xs.length)/\df st K as r
  |_=>False
 |_::as,(false,_)::r=>df st K as r
 |_,_=>K
def kz (st:St):(cs:List CK)->List AC->(CKs.den cs->List Nat->Prop)->Prop
 | [],[],K=>K () []
 | .Ao e te _::r, .own l off len::as,K=>match st.at l with
  |some (.Ao e' Lw rows none _)=>if h:e'=e/\Lw=te then (off=0/\len=rows.length)/\kz st r as λy t=>K ((h.1▸rows:List (List e.den)),y) (l::t) else False
  |_=>False
 |c::r,a::as,K=>Ed (eY st c a) λp=>kz st r as λy t=>K (p.1,y) (p.2++t)
 |_,_,_=>False
def tN (st:St) (n:Nat) (as:List AC):List (Nat×Nat)->Prop->Prop
 | [],K=>K
 |(k,j)::r,K=>match as[j]? with
  |some (.own l _ _)=>match st.at l with
   |some (.Ao _ _ _ _ (some p))=>match Nat.beq p.1 (Cb false k)&&Nat.blt k 1000 with
    |true=>n<=p.2/\tN st n as r K
    |false=>False
   |_=>False
  |_=>False
def oQ (s:MSpec) (fn:Func) (x:Ins.den s.ins) (st:St) (cs:List AC) (P:CKs.den s.outs×IOs.den s.ins->Prop):Prop:=
 Ed (Yr T st fn.results.toList) λl=>Ed (BI s st l) λp=>kz st s.outs (cs++p.1) λr ls=>Ed (Jz st 0 s.ins) λo=>
  match Ub (p.2++ls++Ko 0 s.ins)&&Nat.blt s.ins.length 1000&&Nat.blt s.outs.length 1000&&s.NG with
  |true=>tN st (s.Cz x) (cs++p.1) s.keeps (P (r,o))
  |false=>False
def FA (s:MSpec) (fn:Func) (x:Ins.den s.ins) (st:St) (P:CKs.den s.outs×IOs.den s.ins->Prop):Prop:=
 match s.ptr with
 |none=>oQ T s fn x st [] P
 |some p=>match st.at Mm with
  |some (.var tid vs)=>match Nat.beq tid p.1&&Nat.beq vs.length p.2 with
   |true=>Ed (Fh 0 s.ins vs) λcs=>df st (oQ T s fn x st cs P) vs s.ins
   |false=>False
  |_=>False
@[irreducible] def fnMW (s:MSpec) (fn:Func) (x:Ins.den s.ins) (P:CKs.den s.outs×IOs.den s.ins->Prop):Prop:=
 match Nat.blt s.ins.length 1000&&uo s with
 |false=>False
 |true=>Ed fn.body λc=>Zd T Γ (tT T.marks fn c) c {kn:= [],st:= {tmps:=Uh s (Wc 0 s.ins x)++List.replicate (fn.ntmps-(Uh s (Wc 0 s.ins x)).length) .undef,heap:=lA s x} } λe w=>match e with
  | .normal=>FA T s fn x w.st P
  | .ret=>FA T s fn x w.st P
  | .exit _=>False
@[irreducible] def fnW (s:Spec) (fn:Func) (x:s.arg.den) (P:s.res.den->Prop):Prop:=
 Ed fn.body λc=>Zd T Γ (tT T.marks fn c) c {kn:= [],st:= {tmps:=Nf s.arg x++List.replicate (fn.ntmps-(Nf s.arg x).length) .undef,heap:= []} } λe w=>match e with
  | .normal=>WX T s fn P w.st
  | .ret=>WX T s fn P w.st
  | .exit _=>False
end Go.Proofs.Ytjbdmibbbpdnnaa
