/-
  Part 31 of the proof that the statement FnExactSolveByMethod holds.
-/
import Derived.Test.YtjbdmibbbpdnnaaCSolveByMethod29
namespace Go.Proofs.Ytjbdmibbbpdnnaa
open Go.RowKit
inductive Br (b:Bool) (A B:Prop):Prop
 |mk (t:b=true->A) (f:b=false->B)
inductive Bk {V:Type} (step:V->(V->Prop)->Prop) (v0:V):Prop
 |mk (I:V->Prop) (μ:V->Nat) (h0:I v0) (h: ∀v,I v->step v (λv'=>I v'/\μ v'<μ v))
structure WS where
 kn:List (Nat×Bool)
 st:St
def pI:List (Nat×Bool)->Nat->Option Bool
 | [],_=>none
 |(k,b)::r,t=>if k=t then some b else pI r t
def r6:List (Nat×Bool)->Nat->List (Nat×Bool)
 | [],_=> []
 |(k,b)::r,t=>if k=t then r6 r t else (k,b)::r6 r t
def WS.put (w:WS) (dst:Option Tmp) (v:AV):WS:=
 match dst with
 |some d=> {kn:=r6 w.kn d,st:=w.st.put (some d) v}
 |none=>w
def Po (kn:List (Nat×Bool)):Operand->Option Bool
 | .const (.bool b)=>some b
 | .tmp t=>pI kn t
 |_=>none
def Dt (kn:List (Nat×Bool)) (o:Oper):Option Bool:=
 match o.op with
 | .assign x=>Po kn x
 | .move x=>Po kn x
 | .unOp .not _ x=>(Po kn x).map (!·)
 | .pick c a b=>match Po kn c with
  |some true=>Po kn a
  |some false=>Po kn b
  |none=>none
 |_=>none
def WS.pW (w:WS) (o:Oper) (v:AV):WS:=
 match o.dst,Dt w.kn o with
 |some d,some b=>match (w.st.put (some d) v).get d with
  | .at (.data _ .bool _)=> {kn:=(d,b)::r6 w.kn d,st:=w.st.put (some d) v}
  |_=>w.put (some d) v
 |dst,_=>w.put dst v
def WS.to (w:WS) (st:St):WS:= {kn:=w.kn,st:=st}
def brT (w:WS) (t:Nat) (K:Bool->WS->Prop):Prop:=
 match pI w.kn t with
 |some b=>K b w
 |none=>match w.st.get t with
  | .at (.data _ .bool b)=>Br b (K true {kn:=(t,true)::w.kn,st:=w.st}) (K false {kn:=(t,false)::w.kn,st:=w.st})
  |_=>False
def brO (w:WS) (c:Operand) (K:Bool->WS->Prop):Prop:=
 match c with
 | .tmp t=>brT w t K
 | .const (.bool b)=>K b w
 |_=>False
def Ed {α:Type} (o:Option α) (K:α->Prop):Prop:=match o with|some x=>K x|none=>False
def YP (T:Tab) (st:St) (t:TypeId) (x:AV) (l h:Int):Option AV:=
 match x with
 | .at (.data fr (.slice e) xs)=>if (T.elem t).bind T.ty=some e then some (.at (.data fr (.slice e) ((xs.take h.toNat).drop l.toNat))) else none
 | .at (.own k off _)=>match st.at k with
  |some (.arr _ _ e tid _)=>if T.elem t=some tid/\T.ty tid=some e then some (.at (.own k (off+l.toNat) (h.toNat-l.toNat))) else none
  |_=>none
 | .at (.data _ .str s)=>if T.ty t=some .str then some (.at (.data true .str (s.extract l.toNat h.toNat))) else none
 |_=>none
variable (T:Tab) (Γ:Env)
def VI (op:BinOp) (t:TypeId) (x y:AV) (K:AV->Prop):Prop:=
 match op,x,y with
 | .quo, .at (.data _ (.int k) a), .at (.data _ (.int k') b)=>if k=k' then b≠0/\K (.at (.data true (.int k) (k.wrap (a.tdiv b)))) else False
 | .rem, .at (.data _ (.int k) a), .at (.data _ (.int k') b)=>if k=k' then b≠0/\K (.at (.data true (.int k) (a.tmod b))) else False
 | .shl, .at (.data _ (.int k) a), .at (.data _ (.int _) b)=> ¬b<0/\K (.at (.data true (.int k) (k.wrap (a*2^(min b.toNat k.bits)))))
 | .shr, .at (.data _ (.int k) a), .at (.data _ (.int _) b)=> ¬b<0/\K (.at (.data true (.int k) (a.fdiv (2^(min b.toNat k.bits)))))
 | .add, .at (.data _ .str a), .at (.data _ .str b)=>a.size+b.size<=4294967296/\K (.at (.data true .str (a++b)))
 |op,x,y=>Ed (Na T op t x y) K
def LL (st:St) (t:TypeId) (p:AV) (K:AV->Prop):Prop:=
 match p with
 | .at (.Gf l i)=>Ed (T.ty t) λτ=>match st.at l with
  |some (.arr fr _ e _ xs)=>if e=τ then ∃x,xs[i]?=some x/\K (.at (.data (fr||e.flat) e x)) else False
  |some (.Dk e _ xs)=>if e=τ then ∃x,xs[i]?=some x/\K (if e.Ac then .agg (aX l i 0 e x) else .at ((aX l i 0 e x).headD .undef)) else False
  |some (.Am _ _ _ none _)=>if τ.Ac then False else K (.at (.sub l i 0))
  |_=>False
 | .at (.data fr (.optr Ji) x)=>Ed (T.ty t) λτ=>if Ji=τ then ∃y,x=some y/\K (.at (.data (fr||Ji.flat) Ji y)) else False
 |p=>Ed (Kn T st t p) K
def fU (s:TypeId) (x:AV) (f:Nat) (K:AV->Prop):Prop:=
 match x with
 | .at (.data fr (.optr τ) x)=> ∃y,x=some y/\Ed (Iy T s (.at (.data fr (.ptr τ) y)) f) K
 |x=>Ed (Iy T s x f) K
def rm (st:St) (x:Operand) (K:AV->Prop) (d:Option AV):Prop:=
 match st.ev x with
 | .at (.data fr (.optr τ) x)=> ∃y,x=some y/\K (.at (.data fr (.ptr τ) y))
 |_=>Ed d K
def AF (st:St) (t:TypeId) (x:AV) (lo hi:Option AV) (K:AV->Prop):Prop:=
 Ed (wE x) λn=>Ed (II lo 0) λl=>Ed (II hi n) λh=>(0<=l/\l<=h/\h<=n)/\Ed (YP T st t x l h) K
def gi (st:St) (t:TypeId) (x i:AV) (K:AV->Prop):Prop:=
 match x,i with
 | .at (.data fr (.slice e) xs), .at (.data _ (.int _) n)=>if (T.elem t).bind T.ty=some e then ∃x,idx xs n=some x/\K (.at (.data fr (.ptr e) x)) else False
 | .at (.own l off len), .at (.data _ (.int _) n)=>match st.at l with
  |some (.arr _ _ e tid _)=>if T.elem t=some tid/\T.ty tid=some e then (0<=n/\n<len)/\K (.at (.Gf l (off+n.toNat))) else False
  |some (.Dk e tid _)=>if T.elem t=some tid/\T.ty tid=some e then (0<=n/\n<len)/\K (.at (.Gf l (off+n.toNat))) else False
  |some (.Am _ te _ _ _)=>if T.elem t=some te/\(T.ty te).map Ty.size=some 1 then (0<=n/\n<len)/\K (.at (.Gf l (off+n.toNat))) else False
  |_=>False
 | .at (.sub l i _), .at (.data _ (.int _) n)=>match st.at l with
  |some (.Am e _ rows none _)=>if ((T.elem t).bind T.ty).map Ty.size=some e.size then (0<=n/\n<(rows.getD i []).length)/\K (.at (.Gd l i n.toNat)) else False
  |_=>False
 |_,_=>False
def zg (t:TypeId) (x i:AV) (K:AV->Prop):Prop:=
 match x,i with
 | .at (.data _ .str s), .at (.data _ (.int _) n)=>if T.ty t=some .str then 0<=n/\ ∃b,s[n.toNat]?=some b/\K (.at (.data true (.int .u8) b.toNat)) else False
 |_,_=>False
def qG (st:St) (f:FuncId) (args:List AV) (K:AV->Prop):Prop:=
 Ed (match Γ f with|some (.q s)=>some s|_=>none) λs=>match s.fresh||s.res.flat||args.all (·.settled) with
  |true=>Ed (Bt st s.arg args) λp=> ∃y,s.fn p.2=some y/\K (if s.Gh then .Us (s.fresh||s.res.flat) s.res y else .at (.data (s.fresh||s.res.flat) s.res y))
  |false=>False
def yH (st:St) (v:AV) (args:List AV) (K:AV->Prop):Prop:=
 match v with
 | .at (.data fr (.clo f τ) x)=>match τ.chain with|true=>(match Nat.blt f 1000000000 with|true=>qG Γ st f (args++Uy fr τ x) K|false=>qG Γ st (f-1000000000) (Uy fr τ x++args) K)|false=>False
 | .at (.clo f Bz)=>qG Γ st f (args++Bz.map λp=> .at (.Eb p.1 p.2)) K
 |_=>False
def qW (w:WS) (o:Oper) (K:AV->WS->Prop):Prop:=
 match o.op with
 | .pick c a b=>brO w c λt w'=>match t with|true=>K (w'.st.ev a) w'|false=>K (w'.st.ev b) w'
 | .load t a=>LL T w.st t (w.st.ev a) λv=>K v w
 | .binOp op t x y _=>VI T op t (w.st.ev x) (w.st.ev y) λv=>K v w
 | .slice t x lo hi mx=>match mx with
  |none=>AF T w.st t (w.st.ev x) (lo.map w.st.ev) (hi.map w.st.ev) λv=>K v w
  |some _=>False
 | .indexAddr t x i=>gi T w.st t (ka (w.st.ev x)) (w.st.ev i) λv=>K v w
 | .index t x i=>zg T t (w.st.ev x) (w.st.ev i) λv=>K v w
 | .call {callee:= .value (.func f),args, .. } =>qG Γ w.st f (args.toList.map w.st.ev) λv=>K v w
 | .call {callee:= .value (.tmp t),args, .. } =>yH Γ w.st (w.st.get t) (args.toList.map w.st.ev) λv=>K v w
 | .fieldAddr s x f=>fU T s (w.st.ev x) f λv=>K v w
 | .nilCheck x=>rm w.st x (λv=>K v w) (Cn T Γ w.st o)
 |_=>Ed (Cn T Γ w.st o) λv=>K v w
def AQ (st:St) (t:TypeId) (p v:AV) (K:St->Prop):Prop:=
 match p with
 | .at (.Gf l j)=>Ed (T.ty t) λτ=>Ed (settle st v) λq=>match q.2.at l with
  |some (.arr fr tr e tid xs)=>Ed (Cu q.2 τ q.1) λu=>if h:τ=e then j<xs.length/\K (q.2.Gg l (.arr (fr&&u.1) (tr&&(Mw st v&&e.tree)) e tid (xs.set j (h▸u.2)))) else False
  |_=>False
 |p=>Ed (Od T st t p v) K
def DN (st:St) (t:TypeId) (p v:AV) (K:St->Prop):Prop:=
 match p with
 | .at (.Gd l i j)=>Ed (T.ty t) λτ=>Ed (settle st v) λq=>match q.2.at l with
  |some (.Am e te rows none kp)=>Ed (Cu q.2 τ q.1) λu=>if h:τ=e then K (q.2.Gg l (.Am e te (rows.set i ((rows.getD i []).set j (h▸u.2))) none kp)) else False
  |_=>False
 | .at (.Gf l j)=>Ed (T.ty t) λτ=>match st.at l,v with
  |some (.Am e te rows out kp), .at (.own m off len)=>match st.at m with
   |some (.arr _ _ e' _ xs)=>if h:e'=e/\(Nat.blt l Ak&&(!Nat.beq m l&&!τ.Ac))=true then
     off=0/\len=xs.length/\(match out with|none=>True|some i=>i=j)/\K (Mz st l j m e te rows (h.1▸xs) (Vn j kp))
    else False
   |_=>False
  |_,_=>False
 |_=>False
def uu (st:St) (t:TypeId) (p v:AV) (K:St->Prop):Prop:=match CF st p with
 |true=>DN T st t p v K
 |false=>AQ T st t p v K
def gQ (st:St) (dst:Nat) (t:TypeId) (x y:Operand) (K:AV->St->Prop):Prop:=
 Ed (T.elem t) λte=>Ed (T.ty te) λe=>Ed (settle st (st.ev y)) λq=>Ed (Cu q.2 (.slice e) q.1) λu=>match q.2.ev x with
  | .at .Hs=>match Nat.blt dst Ak with
   |true=>List.length u.2<=Bp/\K (.at (.own dst 0 (List.length u.2))) ((q.2.new dst (.arr (T.mV||e.flat) T.uH e te [])).new dst (.arr ((T.mV||e.flat)&&(u.1||e.flat)) (T.uH&&(e.flat||(Mw st (st.ev y)&&e.tree))) e te u.2))
   |false=>False
  | .at (.own l off len)=>match q.2.at l with
   |some (.arr fr tr e' tid xs)=>if h:e'=e/\tid=te/\Nat.blt l Ak=true then
     off=0/\len=xs.length/\len+List.length u.2<=Bp/\K (.at (.own l 0 (List.length ((h.1▸xs:List e.den)++u.2)))) (q.2.new l (.arr (fr&&(u.1||e.flat)) (tr&&(e.flat||(Mw st (st.ev y)&&e.tree))) e te ((h.1▸xs:List e.den)++u.2)))
    else False
   |_=>False
  |_=>False
def mz (st:St) (dst:Nat) (t:TypeId) (x y:Operand) (K:AV->St->Prop):Prop:=
 match x with
 | .tmp tx=>match st.get tx with
  | .at (.sub l i _)=>Ed (T.elem t) λtid=>match st.at l with
   |some (.Am e te rows none kp)=>match Nat.blt l Ak&&(Nat.blt dst Ak&&!Nat.beq dst l) with
    |true=>gQ T ((Km st l i dst e te tid rows kp).put (some tx) (.at (.own dst 0 (rows.getD i []).length))) dst t x y K
    |false=>False
   |_=>False
  |_=>gQ T st dst t x y K
 |_=>gQ T st dst t x y K
def LQ (st:St) (dst:Nat) (t:TypeId) (l c:AV) (K:AV->St->Prop):Prop:=
 match l,c with
 | .at (.data _ (.int _) n), .at (.data _ (.int _) m)=>Ed (T.elem t) λte=>Ed (T.ty te) λe=>match bj e&&Nat.blt dst Ak with
  |true=>(0<=n/\n<Bp+1)/\n=m/\K (.at (.own dst 0 (List.replicate n.toNat e.zero).length)) (st.new dst (.arr (T.mV||e.flat) (T.uH&&e.tree) e te (List.replicate n.toNat e.zero)))
  |false=>False
 |_,_=>False
def zu (st:St) (dst:Nat) (t:TypeId) (l c:AV) (K:AV->St->Prop):Prop:=
 match Yv T t with
 |none=>LQ T st dst t l c K
 |some p=>match l,c with
  | .at (.data _ (.int _) n), .at (.data _ (.int _) m)=>match Nat.blt dst Ak with
   |true=>(0<=n/\n<Bp+1)/\n=m/\K (.at (.own dst 0 (List.replicate n.toNat ([]:List p.2.den)).length)) (Le st dst dst (.Am p.2 p.1 (List.replicate n.toNat []) none none))
   |false=>False
  |_,_=>False
def aa (st:St) (dst:Nat) (t:TypeId) (len:Nat) (parts:Array (Nat×Operand)) (K:AV->St->Prop):Prop:=
 match Yv T t with
 |none=>Ed (Ho T st dst t len parts) λr=>K r.1 r.2
 |some p=>match parts.toList with
  | [(0,x)]=>match st.ev x with
   | .at (.own m off ln)=>match st.at m with
    |some (.arr _ _ e' _ xs)=>if h:e'=p.2/\(Nat.beq len 1&&(Nat.blt dst Ak&&Nat.blt m Ak))=true then off=0/\ln=xs.length/\K (.at (.own dst 0 1)) (Le st dst m (.Am p.2 p.1 [h.1▸xs] none none)) else False
    |_=>False
   |_=>False
  |_=>False
def mB (st:St) (dst:Nat) (t:TypeId) (x y:Operand) (K:AV->St->Prop):Prop:=
 match Yv T t with
 |none=>mz T st dst t x y K
 |some p=>match st.ev x,st.ev y with
  | .at (.own l off len), .at (.own m LW nB)=>match st.at l,st.at m with
   |some (.Am e1 te1 A none _),some (.Am e2 ql B none _)=>
    if h:(e1=p.2/\e2=p.2)/\(decide (te1=p.1)&&decide (ql=p.1)&&(Nat.blt l Ak&&(Nat.blt m Ak&&!Nat.beq m l)))=true then
     (off=0/\len=A.length)/\(LW=0/\nB=B.length)/\0<B.length/\A.length+B.length<=Bp/\
      K (.at (.own l 0 (List.length ((h.1.1▸A:List (List p.2.den))++(h.1.2▸B:List (List p.2.den)))))) (Le st l m (.Am p.2 p.1 ((h.1.1▸A:List (List p.2.den))++(h.1.2▸B:List (List p.2.den))) none none))
    else False
   |_,_=>False
  |_,_=>False
def ba (st:St) (io:Bool) (k:Nat):(c:CK)->AC->(c.den->List (Nat×Loc)->Prop)->Prop
 | .Ft τ, .own l off len,K=>Ed (Bq st τ (.own l off len)) λp=>K p.2 [(Bv false k, .view l)]
 | .Ft τ, .clo g Bz,K=>match Wd st (Bz.map (·.1))&&!τ.Ac with
  |true=>Ed (Fq st τ (.clo g Bz)) λp=>K p.2 (views k (Bz.map (·.1)))
  |false=>False
 | .Ft τ, .Eb l i,K=>match Wd st [l]&&!τ.Ac with
  |true=>Ed (Fq st τ (.Eb l i)) λp=>K p.2 (views k [l])
  |false=>False
 | .Ft τ, .sub l i c,K=>Ed (Bq st τ (.sub l i c)) λp=>K p.2 [(Bv false k, .view l)]
 | .Ft τ,a,K=>match τ.flat||a.settled with
  |true=>Ed (Bq st τ a) λp=>K p.2 []
  |false=>False
 | .row e te, .own l off len,K=>match st.at l with
  |some (.arr _ _ e' Li xs)=>if h:e'=e/\Li=te then off=0/\len=xs.length/\K (h.1▸xs:List e.den) [(Bv io k, .row l)] else False
  |_=>False
 | .row e _, .sub l i c,K=>match st.at l with
  |some (.Dk e' _ xs)=>if h:e'= .slice e/\e.flat=true/\io=true/\c=0 then ∃y,xs[i]?=some y/\K (h.1▸y:(Ty.slice e).den) [(Bv io k, .sub l i c)] else False
  |_=>False
 | .row _ _, .Hs,K=>K [] []
 | .Dv e te, .own l off len,K=>match st.at l with
  |some (.Dk e' Li xs)=>if h:e'=e/\Li=te then off=0/\len=xs.length/\K (h.1▸xs:List e.den) [(Bv io k, .row l)] else False
  |_=>False
 | .Dv e _, .sub l i c,K=>match st.at l with
  |some (.Dk e' _ xs)=>if h:e'= .slice e/\io=true/\c=0 then ∃y,xs[i]?=some y/\K (h.1▸y:(Ty.slice e).den) [(Bv io k, .sub l i c)] else False
  |_=>False
 | .Dv _ _, .Hs,K=>K [] []
 | .part e te, .own l off len,K=>match st.at l with
  |some (.arr _ _ e' Li xs)=>if h:e'=e/\Li=te/\e.flat=true/\io=true then K ((h.1▸xs:List e.den),off,len) [(Bv io k, .row l)] else False
  |_=>False
 | .Am e te _, .own l off len,K=>match st.at l with
  |some (.Am e' Li rows none _)=>if h:e'=e/\Li=te/\io=false then off=0/\len=rows.length/\K (h.1▸rows:List (List e.den)) [(Bv io k, .row l)] else False
  |_=>False
 |_,_,_=>False
def uG (st:St):(k:Nat)->(cs:List (Bool×CK))->List AC->(Ins.den cs->List (Nat×Loc)->Prop)->Prop
 |_,[],[],K=>K () []
 |k,p::r,a::as,K=>ba st p.1 k p.2 a λx t1=>uG st (k+1) r as λy t2=>K (x,y) (t1++t2)
 |_,_,_,_=>False
def lb (st:St):(c:CK)->c.den->AC->(St->Prop)->Prop
 | .row e _,ys, .own l _ len,K=>match st.at l with
  |some (.arr fr tr e' te xs)=>if h:e=e' then (List.length ys=len/\xs.length=len)/\K (st.Gg l (.arr (fr&&e'.flat) (tr&&e'.flat) e' te (h▸ys))) else False
  |_=>False
 | .Dv e _,ys, .own l _ len,K=>match st.at l with
  |some (.Dk e' te xs)=>if h:e=e' then (List.length ys=len/\xs.length=len)/\K (st.Gg l (.Dk e' te (h▸ys))) else False
  |_=>False
 | .row e _,ys, .sub l i _,K=>match st.at l with
  |some (.Dk e' te xs)=>if h: .slice e=e' then ∃y,xs[i]?=some y/\List.length ys=List.length (h▸y:(Ty.slice e).den)/\K (st.Gg l (.Dk e' te (xs.set i (h▸(ys:(Ty.slice e).den))))) else False
  |_=>False
 | .Dv e _,ys, .sub l i _,K=>match st.at l with
  |some (.Dk e' te xs)=>if h: .slice e=e' then ∃y,xs[i]?=some y/\List.length ys=List.length (h▸y:(Ty.slice e).den)/\K (st.Gg l (.Dk e' te (xs.set i (h▸(ys:(Ty.slice e).den))))) else False
  |_=>False
 |_,_, .Hs,K=>K st
 |_,_,_,_=>False
def MR (st:St) (e:Ty) (ys:List e.den):AC->(St->Prop)->Prop
 | .own l _ _,K=>match st.at l with
  |some (.arr fr tr e' te xs)=>if h:e=e' then List.length ys=xs.length/\K (st.Gg l (.arr fr tr e' te (h▸ys))) else False
  |_=>False
 |_,_=>False
def df:(cs:List (Bool×CK))->IOs.den cs->List AC->St->(St->Prop)->Prop
 | [],_,_,st,K=>K st
 |(true, .Ft _)::r,x,_::as,st,K=>df r x as st K
 |(true, .row e te)::r,x,a::as,st,K=>lb st (.row e te) x.1 a λst'=>df r x.2 as st' K
 |(true, .Dv e te)::r,x,a::as,st,K=>lb st (.Dv e te) x.1 a λst'=>df r x.2 as st' K
 |(true, .part e _)::r,x,a::as,st,K=>MR st e x.1 a λst'=>df r x.2 as st' K
 |(true, .Am _ _ _)::r,x,_::as,st,K=>df r x as st K
 |(false,_)::r,x,_::as,st,K=>df r x as st K
 |_,_,_,_,_=>False
def oO (H:List (Nat×OB)) (ls:List Nat) (n:Nat):List AV->Prop->Prop
 | [],K=>K
 | .at (.sub l i _)::r,K=>match ls.contains l with
  |true=>(i<n/\i<m6 H l)/\oO H ls n r K
  |false=>oO H ls n r K
 |_::r,K=>oO H ls n r K
def yG (st:St) (dst:Option Nat) (s:MSpec) (args:List AV) (K:AV->St->Prop):Prop:=
 Ed (DD st s args) λq=>Ed (ungroup s.He q.2.2) λjf=>uG st 0 s.ins (q.2.1++jf) λx tks=>
  match Sy (tks.map λt=>t.2.Qa)&&tm (Ly s tks (dst.getD 0)) (s.outs.length+(gx s (dst.getD 0)).length)&&Nat.blt s.outs.length 1000&&Nat.blt s.ins.length 1000&&(Pj s.ins q.2.1&&q.1.all λl=>!((tks.map λt=>t.2.Qa)++Ly s tks (dst.getD 0)).contains l) with
  |true=> ∃p,s.fn x=some p/\df s.ins p.2 (q.2.1++jf) st λst1=>Ed (RX s (dst.getD 0) ((Vr (Bw (Ly s tks (dst.getD 0))) 0 s.outs p.1).drop s.Tj)) λv=>
    oO (fK st st1 (dst.getD 0) s q.1 tks p.1).heap (Vm st.heap (Ly s tks (dst.getD 0)) tks s.keeps) (s.Cv x) st.tmps
     (K v (gk st (fK st st1 (dst.getD 0) s q.1 tks p.1) (Vm st.heap (Ly s tks (dst.getD 0)) tks s.keeps) (s.Cv x)))
  |false=>False
def UZ (w:WS) (o:Oper) (K:AV->WS->Prop):Prop:=
 match o.op with
 | .store t p x=>uu T w.st t (w.st.ev p) (w.st.ev x) λs=>K .undef (w.to s)
 | .makeSlice t l c=>Ed o.dst λd=>zu T w.st d t (w.st.ev l) (w.st.ev c) λv s=>K v (w.to s)
 | .call {callee:= .builtin .append,args,argTypes} =>match o.dst,args.toList,argTypes.toList with
  |some d,[x,y],[t,t']=>if t=t' then mB T w.st d t x y λv s=>K v (w.to s) else False
  |_,_,_=>False
 | .assign _=>Ed (evalOp T Γ w.st o) λr=>K r.1 (w.to r.2)
 | .alloc _=>Ed (evalOp T Γ w.st o) λr=>K r.1 (w.to r.2)
 | .box _ _=>Ed (evalOp T Γ w.st o) λr=>K r.1 (w.to r.2)
 | .buildSlice t len parts=>Ed o.dst λd=>aa T w.st d t len parts λv s=>K v (w.to s)
 | .build _ _=>Ed (evalOp T Γ w.st o) λr=>K r.1 (w.to r.2)
 | .makeMap _ _=>Ed (evalOp T Γ w.st o) λr=>K r.1 (w.to r.2)
 | .mapUpdate _ _ _ _=>Ed (evalOp T Γ w.st o) λr=>K r.1 (w.to r.2)
 | .insert _ _ _ _=>Ed (evalOp T Γ w.st o) λr=>K r.1 (w.to r.2)
 | .call {callee:= .builtin .copy, .. } =>Ed (evalOp T Γ w.st o) λr=>K r.1 (w.to r.2)
 | .call {callee:= .builtin .clear, .. } =>Ed (evalOp T Γ w.st o) λr=>K r.1 (w.to r.2)
 | .call {callee:= .value (.func f),args, .. } =>match Γ f with
  |some (.m s)=>yG w.st o.dst s (args.toList.map w.st.ev) λv s'=>K v (w.to s')
  |some (.q s)=>match aC s (args.toList.map w.st.ev) with
   |true=>Ed (Jv args.toList w.st) λst1=>qW T Γ (w.to st1) o K
   |false=>qW T Γ w o K
  |_=>qW T Γ w o K
 |_=>qW T Γ w o K
def AV.LH:AV->Bool
 | .at .skip=>true
 |_=>false
def bW (w:WS) (o:Oper) (K:AV->WS->Prop):Prop:=
 match o.op with
 | .buildSlice t len parts=>Ed (Vb T w.st t len parts) λv=>K v w
 | .build t parts=>Ed (Qk T w.st t parts) λv=>K v w
 |_=>qW T Γ w o K
def fk (ops:Array Oper) (w:WS) (o:Oper) (run:(AV->WS->Prop)->WS->Prop) (K:WS->Prop):Prop:=
 match o.guard with
 |none=>run (λv w'=>K (w'.pW o v)) w
 |some (j,want)=>Ed ((ops[j]?).bind (·.dst)) λt=>match (w.st.get t).LH with
  |true=>K (w.put o.dst (.at .skip))
  |false=>brT w t λb w'=>match b,want with
   |true,true=>run (λv p6=>K (p6.pW o v)) w'
   |false,false=>run (λv p6=>K (p6.pW o v)) w'
   |_,_=>K (w'.put o.dst (.at .skip))
def XX (ops:Array Oper):List Oper->WS->(WS->Prop)->Prop
 | [],w,K=>K w
 |o::r,w,K=>fk ops w o (λk w'=>UZ T Γ w' o k) λw'=>XX ops r w' K
def KV (ops:Array Oper):List Nat->WS->(WS->Prop)->Prop
 | [],w,K=>K w
 |i::r,w,K=>Ed ops[i]? λo=>fk ops w o (λk w'=>UZ T Γ w' o k) λw'=>KV ops r w' K
def qQ (ops:Array Oper):List Nat->WS->(WS->Prop)->Prop
 | [],w,K=>K w
 |i::r,w,K=>Ed ops[i]? λo=>fk ops w o (λk w'=>bW T Γ w' o k) λw'=>qQ ops r w' K
def PC:List Nat->(Nat->Prop)->Prop
 | [],_=>True
 | [i],P=>P i
 |i::j::r,P=>P i/\PC (j::r) P
def DY (ops:Array Oper):Nat->Array Bool->WS->(WS->Prop)->Prop
 |0,Ad,w,K=>match Region.ready .any ops Ad with
  | []=>K w
  |_::_=>False
 |f+1,Ad,w,K=>match Region.ready .any ops Ad with
  | []=>False
  |i::r=>PC (i::r) λk=>Ed ops[k]? λo=>fk ops w o (λkk w'=>UZ T Γ w' o kk) λw'=>DY ops f (Ad.setIfInBounds k true) w' K
def ZL:AC->Type->Type
 | .data _ τ _,R=>τ.den×R
 | .sub _ _ _,R=>Nat×R
 | .Gf _ _,R=>Nat×R
 | .Gd _ _ _,R=>Nat×Nat×R
 |_,R=>R
def yw:List AC->Type->Type
 | [],R=>R
 |c::r,R=>ZL c (yw r R)
def ZM:AV->Type->Type
 | .at a,R=>ZL a R
 | .agg cs,R=>yw cs R
 | .Us _ τ _,R=>τ.den×R
 | .Jg _,R=>R
def obV:OB->Type->Type
 | .arr _ _ e _ _,R=>List e.den×R
 | .Dk e _ _,R=>List e.den×R
 | .var _ vs,R=>yw vs R
 | .Am e _ _ _ none,R=>List (List e.den)×R
 | .Am e _ _ _ (some _),R=>List (List e.den)×(Nat×R)
 | .Ov v _,R=>(ByteArray->Option v.den)×R
def ly:List AV->Type->Type
 | [],R=>R
 |v::r,R=>ZM v (ly r R)
def qR:List (Nat×OB)->Type->Type
 | [],R=>R
 |p::r,R=>obV p.2 (qR r R)
def stV (s:St):Type:=ly s.tmps (qR s.heap Unit)
def BM:(c:AC)-> {R:Type} ->R->ZL c R
 | .data _ _ x,_,r=>(x,r)
 | .undef,_,r=>r
 | .skip,_,r=>r
 | .Hs,_,r=>r
 | .Qv,_,r=>r
 | .own _ _ _,_,r=>r
 | .Eb _ _,_,r=>r
 | .Gf _ i,_,r=>(i,r)
 | .clo _ _,_,r=>r
 | .Gp _,_,r=>r
 | .sub _ i _,_,r=>(i,r)
 | .Gd _ i j,_,r=>(i,j,r)
def mu:(l:List AC)-> {R:Type} ->R->yw l R
 | [],_,r=>r
 |c::l,_,r=>BM c (mu l r)
def TD:(c:AV)-> {R:Type} ->R->ZM c R
 | .at a,_,r=>BM a r
 | .agg cs,_,r=>mu cs r
 | .Us _ _ x,_,r=>(x,r)
 | .Jg _,_,r=>r
def UY:(b:OB)-> {R:Type} ->R->obV b R
 | .arr _ _ _ _ xs,_,r=>(xs,r)
 | .Dk _ _ xs,_,r=>(xs,r)
 | .var _ vs,_,r=>mu vs r
 | .Am _ _ rows _ none,_,r=>(rows,r)
 | .Am _ _ rows _ (some p),_,r=>(rows,p.2,r)
 | .Ov _ m,_,r=>(m,r)
def mg:(l:List AV)-> {R:Type} ->R->ly l R
 | [],_,r=>r
 |c::l,_,r=>TD c (mg l r)
def m7:(l:List (Nat×OB))-> {R:Type} ->R->qR l R
 | [],_,r=>r
 |p::l,_,r=>UY p.2 (m7 l r)
def DH (s:St):stV s:=mg s.tmps (m7 s.heap ())
def jk:(c d:AC)-> {R:Type} ->R->Option (ZL c R)
 | .data fr τ _, .data Pc Ji x,_,r=>if h:Ji=τ/\Pc=fr then some (h.1▸x,r) else none
 | .undef, .undef,_,r=>some r
 | .skip, .skip,_,r=>some r
 | .Hs, .Hs,_,r=>some r
 | .Qv, .Qv,_,r=>some r
 | .own l _ _, .own l' _ _,_,r=>if l=l' then some r else none
 | .Eb l i, .Eb l' i',_,r=>if l=l'/\i=i' then some r else none
 | .Gf l _, .Gf l' i',_,r=>if l=l' then some (i',r) else none
 | .clo f c, .clo f' c',_,r=>if f=f'/\c=c' then some r else none
 | .Gp l, .Gp l',_,r=>if l=l' then some r else none
 | .sub l _ c, .sub l' i' c',_,r=>if l=l'/\c=c' then some (i',r) else none
 | .Gd l _ _, .Gd l' i' j',_,r=>if l=l' then some (i',j',r) else none
 |_,_,_,_=>none
def Lx:(l m:List AC)-> {R:Type} ->R->Option (yw l R)
 | [],[],_,r=>some r
 |c::l,d::m,_,r=>(Lx l m r).bind λr'=>jk c d r'
 |_,_,_,_=>none
def fN:(c d:AV)-> {R:Type} ->R->Option (ZM c R)
 | .at a, .at b,_,r=>jk a b r
 | .agg cs, .agg ds,_,r=>Lx cs ds r
 | .Us fr τ _, .Us Pc Ji x,_,r=>if h:Ji=τ/\Pc=fr then some (h.1▸x,r) else none
 |_,_,_,_=>none
def Ms:(b d:OB)-> {R:Type} ->R->Option (obV b R)
 | .arr fr tr e tid _, .arr Pc NR e' Oa xs,_,r=>if h:e'=e/\Pc=fr/\NR=tr/\Oa=tid then some (h.1▸xs,r) else none
 | .Dk e tid _, .Dk e' Oa xs,_,r=>if h:e'=e/\Oa=tid then some (h.1▸xs,r) else none
 | .Ov v _, .Ov v' m,_,r=>if h:v'=v then some (h▸m,r) else none
 | .var t vs, .var t' us,_,r=>if t'=t then Lx vs us r else none
 | .Am e te _ out none, .Am e' Li rows bU none,_,r=>if h:e'=e/\Li=te/\bU=out then some (h.1▸rows,r) else none
 | .Am e te _ out (some p), .Am e' Li rows bU (some p'),_,r=>if h:e'=e/\Li=te/\bU=out/\p'.1=p.1 then some (h.1▸rows,p'.2,r) else none
 |_,_,_,_=>none
def Jw:(l m:List AV)-> {R:Type} ->R->Option (ly l R)
 | [],[],_,r=>some r
 |c::l,d::m,_,r=>(Jw l m r).bind λr'=>fN c d r'
 |_,_,_,_=>none
def Ko:(l m:List (Nat×OB))-> {R:Type} ->R->Option (qR l R)
 | [],[],_,r=>some r
 |p::l,q::m,_,r=>if q.1=p.1 then (Ko l m r).bind λr'=>Ms p.2 q.2 r' else none
 |_,_,_,_=>none
def dB (s t:St):Option (stV s):=(Ko s.heap t.heap ()).bind λr=>Jw s.tmps t.tmps r
def fJ:(c:AC)-> {R:Type} ->ZL c R->AC×R
 | .data fr τ _,_,v=>(.data fr τ v.1,v.2)
 | .undef,_,r=>(.undef,r)
 | .skip,_,r=>(.skip,r)
 | .Hs,_,r=>(.Hs,r)
 | .Qv,_,r=>(.Qv,r)
 | .own l off len,_,r=>(.own l off len,r)
 | .Eb l i,_,r=>(.Eb l i,r)
 | .Gf l _,_,v=>(.Gf l v.1,v.2)
 | .clo f c,_,r=>(.clo f c,r)
 | .Gp l,_,r=>(.Gp l,r)
 | .sub l _ c,_,v=>(.sub l v.1 c,v.2)
 | .Gd l _ _,_,v=>(.Gd l v.1 v.2.1,v.2.2)
def Tn:(l:List AC)-> {R:Type} ->yw l R->List AC×R
 | [],_,r=>([],r)
 |c::l,_,v=>((fJ c v).1::(Tn l (fJ c v).2).1,(Tn l (fJ c v).2).2)
def mE:(c:AV)-> {R:Type} ->ZM c R->AV×R
 | .at a,_,v=>(.at (fJ a v).1,(fJ a v).2)
 | .agg cs,_,v=>(.agg (Tn cs v).1,(Tn cs v).2)
 | .Us fr τ _,_,v=>(.Us fr τ v.1,v.2)
 | .Jg l,_,r=>(.Jg l,r)
def nM:(b:OB)-> {R:Type} ->obV b R->OB×R
 | .arr fr tr e tid _,_,v=>(.arr fr tr e tid v.1,v.2)
 | .Dk e tid _,_,v=>(.Dk e tid v.1,v.2)
 | .Ov w _,_,v=>(.Ov w v.1,v.2)
 | .var t vs,_,v=>(.var t (Tn vs v).1,(Tn vs v).2)
 | .Am e te _ out none,_,v=>(.Am e te v.1 out none,v.2)
 | .Am e te _ out (some p),_,v=>(.Am e te v.1 out (some (p.1,v.2.1)),v.2.2)
def Px:(l:List AV)-> {R:Type} ->ly l R->List AV×R
 | [],_,r=>([],r)
 |c::l,_,v=>((mE c v).1::(Px l (mE c v).2).1,(Px l (mE c v).2).2)
def Yy:(l:List (Nat×OB))-> {R:Type} ->qR l R->List (Nat×OB)×R
 | [],_,r=>([],r)
 |p::l,_,v=>((p.1,(nM p.2 v).1)::(Yy l (nM p.2 v).2).1,(Yy l (nM p.2 v).2).2)
def dA (s:St) (v:stV s):St:= {tmps:=(Px s.tmps v).1,heap:=(Yy s.heap (Px s.tmps v).2).1}
def lenOf (H:List (Nat×OB)) (l:Nat):Nat:=match Ae H l with|some (.arr _ _ _ _ xs)=>xs.length|some (.Dk _ _ xs)=>xs.length|some (.Am _ _ rows _ _)=>rows.length|_=>0
def Sv (ps:List Nat):List AV->List (Nat×Nat×Nat)
 | []=> []
 | .at (.own l off len)::r=>if ps.contains l then (l,off,len)::Sv ps r else Sv ps r
 |_::r=>Sv ps r
def XV:List (Nat×Nat×Nat)->Nat->Nat
 | [],_=>0
 |(k,o,_)::r,l=>if k=l then o else XV r l
def FB:List (Nat×Nat×Nat)->List (Nat×OB)->Nat->Nat
 | [],H,l=>lenOf H l
 |(k,_,n)::r,H,l=>if k=l then n else FB r H l
def bg (B:List (Nat×Nat×Nat)) (H:List (Nat×OB)):AC->AC
 | .own l _ _=> .own l (XV B l) (FB B H l)
 |c=>c
def St.whole (B:List (Nat×Nat×Nat)) (s:St):St:=s.Gm (bg B s.heap)
def sl (B:List (Nat×Nat×Nat)) (H:List (Nat×OB)) (c:AC) (K:Prop):Prop:=match c with
 | .own l off len=>off=XV B l/\len=FB B H l/\K
 |_=>K
def Yi (B:List (Nat×Nat×Nat)) (H:List (Nat×OB)):List AC->Prop->Prop
 | [],K=>K
 |c::r,K=>sl B H c (Yi B H r K)
def BO (B:List (Nat×Nat×Nat)) (H:List (Nat×OB)) (c:AV) (K:Prop):Prop:=match c with
 | .at a=>sl B H a K
 | .agg cs=>Yi B H cs K
 | .Us _ _ _=>K
 | .Jg _=>False
def Ur (B:List (Nat×Nat×Nat)) (H:List (Nat×OB)):List AV->Prop->Prop
 | [],K=>K
 |c::r,K=>BO B H c (Ur B H r K)
def dY (B:List (Nat×Nat×Nat)) (H:List (Nat×OB)):List (Nat×OB)->Prop->Prop
 | [],K=>K
 |p::r,K=>match p.2 with
  | .var _ vs=>Yi B H vs (dY B H r K)
  |_=>dY B H r K
def uq (B:List (Nat×Nat×Nat)) (s:St) (K:Prop):Prop:=Ur B s.heap s.tmps (dY B s.heap s.heap K)
def AV.Qt:AV->Bool
 | .at (.data _ _ _)=>true
 |_=>false
def Hp (p:Nat->Bool):Nat->List AV->List Bool
 |_,[]=> []
 |i,v::r=>(v.Qt&&p i)::Hp p (i+1) r
def stays (live:Nat->List Nat) (c:Code) (t:Nat):Bool:=!(writes c).contains t&&Vl live c t
def Oh:List Bool->List AV->List AV
 |true::f,_::r=> .undef::Oh f r
 |false::f,v::r=>v::Oh f r
 |_,l=>l
def Pp:List Bool->List AV->List AV->List AV
 |true::f,a::s,_::r=>a::Pp f s r
 |false::f,_::s,v::r=>v::Pp f s r
 |_,_,l=>l
def St.mask (fx:List Bool) (s:St):St:= {tmps:=Oh fx s.tmps,heap:=s.heap}
def St.pP (fx:List Bool) (s0 s:St):St:= {tmps:=Pp fx s0.tmps s.tmps,heap:=s.heap}
def lY (c:AC) (k:AC->Prop):Prop:=match c with
 | .undef=>k .undef
 | .skip=>k .skip
 | .Hs=>k .Hs
 | .Qv=>k .Qv
 | .data fr τ x=>match fr with
  |true=>k (.data true τ x)
  |false=>k (.data false τ x)
 | .own l off len=>k (.own l off len)
 | .Eb l i=>k (.Eb l i)
 | .Gf l i=>k (.Gf l i)
 | .clo f c=>k (.clo f c)
 | .Gp l=>k (.Gp l)
 | .sub l i c=>k (.sub l i c)
 | .Gd l i c=>k (.Gd l i c)
def cE:List AC->(List AC->Prop)->Prop
 | [],k=>k []
 |c::r,k=>lY c λc'=>cE r λr'=>k (c'::r')
def sK (c:AV) (k:AV->Prop):Prop:=match c with
 | .at a=>lY a λa'=>k (.at a')
 | .agg cs=>cE cs λcr=>k (.agg cr)
 | .Us fr τ x=>k (.Us fr τ x)
 | .Jg l=>k (.Jg l)
def cF:List AV->(List AV->Prop)->Prop
 | [],k=>k []
 |c::r,k=>sK c λc'=>cF r λr'=>k (c'::r')
def sL (b:OB) (k:OB->Prop):Prop:=match b with
 | .arr fr tr e tid xs=>match fr,tr with
  |true,true=>k (.arr true true e tid xs)
  |true,false=>k (.arr true false e tid xs)
  |false,true=>k (.arr false true e tid xs)
  |false,false=>k (.arr false false e tid xs)
 | .Dk e tid xs=>k (.Dk e tid xs)
 | .var t vs=>cE vs λva=>k (.var t va)
 | .Am e te rows out kp=>match out,kp with
  |none,none=>k (.Am e te rows none none)
  |none,some (l,n)=>k (.Am e te rows none (some (l,n)))
  |some i,none=>k (.Am e te rows (some i) none)
  |some i,some (l,n)=>k (.Am e te rows (some i) (some (l,n)))
 | .Ov v m=>k (.Ov v m)
def mU:List (Nat×OB)->(List (Nat×OB)->Prop)->Prop
 | [],k=>k []
 |(l,b)::r,k=>sL b λb'=>mU r λr'=>k ((l,b')::r')
def jz (w:WS) (k:WS->Prop):Prop:=cF w.st.tmps λt=>mU w.st.heap λh=>k {kn:=w.kn,st:= {tmps:=t,heap:=h} }
def jy (s:St) (k:St->Prop):Prop:=cF s.tmps λt=>mU s.heap λh=>k {tmps:=t,heap:=h}
def dU:List Bool->(List Bool->Prop)->Prop
 | [],k=>k []
 |true::r,k=>dU r λr'=>k (true::r')
 |false::r,k=>dU r λr'=>k (false::r')
theorem kN {c:AC} {k:AC->Prop} :lY c k↔k c:=by
 cases c<;>simp only [lY]
 split<;>rfl
theorem ak: ∀ {l:List AC} {k:List AC->Prop},cE l k↔k l
 | [],k=>Iff.rfl
 |c::r,k=>by simp only [cE];rw [kN,ak]
theorem w5 {c:AV} {k:AV->Prop} :sK c k↔k c:=by
 cases c<;>simp only [sK]
 ·exact kN
 ·exact ak
theorem al: ∀ {l:List AV} {k:List AV->Prop},cF l k↔k l
 | [],k=>Iff.rfl
 |c::r,k=>by simp only [cF];rw [w5,al]
theorem w6 {b:OB} {k:OB->Prop} :sL b k↔k b:=by
 cases b<;>simp only [sL]
 ·split<;>rfl
 ·exact ak
 ·split<;>rfl
theorem fX: ∀ {l:List (Nat×OB)} {k:List (Nat×OB)->Prop},mU l k↔k l
 | [],k=>Iff.rfl
 |(l,b)::r,k=>by simp only [mU];rw [w6,fX]
theorem EJ {s:St} {k:St->Prop} :jy s k=k s:=by
 unfold jy
 exact propext (by rw [al,fX])
theorem fW: ∀ {l:List Bool} {k:List Bool->Prop},dU l k=k l
 | [],k=>rfl
 |true::r,k=>by simp only [dU];rw [fW]
 |false::r,k=>by simp only [dU];rw [fW]
theorem an {w:WS} {k:WS->Prop} :jz w k↔k w:=by
 unfold jz
 rw [al,fX]
def Uv:AC->List (Nat×Nat)
 | .own _ off len=> [(off,len)]
 |_=> []
def Ux:AV->List (Nat×Nat)
 | .at a=>Uv a
 | .agg cs=>cs.flatMap Uv
 |_=> []
def gr:OB->List (Nat×Nat)
 | .var _ vs=>vs.flatMap Uv
 |_=> []
def AP (s:St):List (Nat×Nat):=s.tmps.flatMap Ux++s.heap.flatMap λp=>gr p.2
def eqW (s0 s:St):Prop:=AP s=AP s0/\Ed (dB s0 s) λv=>v=DH s0
def jx (ops:Array Oper):Nat->Array Bool->WS->(WS->Prop)->Prop
 |0,Ad,w,K=>match Region.ready .any ops Ad with
  | []=>K w
  |_::_=>False
 |f+1,Ad,w,K=>match Region.ready .any ops Ad with
  | []=>False
  |k::_=>Ed ops[k]? λo=>fk ops w o (λkk w'=>UZ T Γ w' o kk) λw'=>jx ops f (Ad.setIfInBounds k true) w' K
def vq (P:List (Nat×Nat×AV×OB)) (ops:Array Oper):Nat->Array Bool->WS->(WS->Prop)->Prop
 |0,Ad,w,K=>match Region.ready .any ops Ad with
  | []=>K w
  |_::_=>False
 |f+1,Ad,w,K=>match Region.ready .any ops Ad with
  | []=>False
  |i::r=>PC (i::r) λk=>Ed ops[k]? λo=>match zB P Γ ops w.st o k with
   |true=>fk ops w o (λkk w'=>UZ T Γ w' o kk) λw'=>vq P ops f (Ad.setIfInBounds k true) w' K
   |false=>False
def su (P:List (Nat×Nat×AV×OB)) (n:Nat) (L0:Array Bool) (ops:Array Oper) (w:WS) (K:WS->Prop):Prop:=
 match (Sy (P.map (·.1))&&Sy (P.map (·.2.1)))&&((P.all λa=>jT a.2.1 w.st)&&(Nat.ble P.length n&&Nat.ble (n-P.length) 10)) with
 |true=>KV T Γ ops (P.map (·.1)) w λw1=>jz w1 λw1=>jx T Γ ops (n-P.length) (Ej (P.map (·.1)) L0) w1 λw0=>jz w0 λw0=>K w0/\vq T Γ P ops (n-P.length) (Ej (P.map (·.1)) L0) w1 λw2=>eqW w0.st w2.st
 |false=>False
def u5 (ops:Array Oper) (draw:Bool) (w:WS) (K:WS->Prop):Prop:=
 match draw with
 |true=>match ef false Γ ops with
  |true=>qQ T Γ ops (dX false Γ ops) w λw'=>KV T Γ ops (Fl false Γ ops) w' K
  |false=>match ef true Γ ops with
   |true=>qQ T Γ ops (dX true Γ ops) w λw'=>KV T Γ ops (Fl true Γ ops) w' K
   |false=>match Region.noSelect ops&&Nat.ble (ops.size-(Kh ops).length) 8 with
    |true=>qQ T Γ ops (Kh ops) w λw'=>match dT false ops with
     |true=>DY T Γ ops (ops.size-(Kh ops).length) (Ej (Kh ops) (Array.replicate ops.size false)) w' K
     |false=>jx T Γ ops (ops.size-(Kh ops).length) (Ej (Kh ops) (Array.replicate ops.size false)) w' λw0=>jz w0 λw0=>K w0/\DY T Γ ops (ops.size-(Kh ops).length) (Ej (Kh ops) (Array.replicate ops.size false)) w' λw1=>eqW w0.st w1.st
    |false=>match Region.noSelect ops with
     |true=>qQ T Γ ops (Kh ops) w λw'=>su T Γ (Rz T ops (Ej (Kh ops) (Array.replicate ops.size false))) (ops.size-(Kh ops).length) (Ej (Kh ops) (Array.replicate ops.size false)) ops w' K
     |false=>False
 |false=>XX T Γ ops ops.toList w K
def Ym (live:Nat->List Nat):Code->WS->(Gy->WS->Prop)->Prop
 | .skip,w,Q=>Q .normal w
 | .label _,w,Q=>Q .normal w
 | .region _ ops draw,w,Q=>u5 T (tZ Γ draw) ops draw w λw'=>jz w' (Q .normal)
 | .seq a b,w,Q=>Ym live a w λe w'=>match e with
  | .normal=>Ym live b w' Q
  | .exit id=>Q (.exit id) w'
  | .ret=>Q .ret w'
 | .cond c a b,w,Q=>brO w c λt w'=>match t with
  |true=>Ym live a w' Q
  |false=>Ym live b w' Q
 | .block id c,w,Q=>Ym live c w λe w'=>match e with
  | .normal=>Q .normal w'
  | .exit EV=>if EV=id then Q .normal w' else Q (.exit EV) w'
  | .ret=>Q .ret w'
 | .loop c,w,Q=>
  jy (w.st.clean (live (Cl c))) λs0=>dU (Hp (stays live c) 0 s0.tmps) λfx=>jy (s0.mask fx) λm=>
  uq (Sv T.parts s0.tmps) s0 (Bk (V:=stV m) (λv k=>jy ((St.pP fx s0 (dA m v)).whole (Sv T.parts s0.tmps)) λsb=>Ym live c ⟨[],sb⟩ λe w'=>match e with
   | .normal=>jy (w'.st.clean (live (Cl c))) λs1=>uq (Sv T.parts s0.tmps) s1 (Ed (dB m (s1.mask fx)) k)
   | .exit id=>Q (.exit id) w'
   | .ret=>Q .ret w') (DH m))
 | .exit id,w,Q=>Q (.exit id) w
 | .ret,w,Q=>Q .ret w
 |_,_,_=>False
def VJ (s:Spec) (fn:Func) (P:s.res.den->Prop) (st:St):Prop:=
 Ed (ie T s fn st) λp=>match p.1||!s.fresh with|true=>P p.2|false=>False
def cO (st:St) (K:Prop):List AC->List (Bool×CK)->Prop
 | .own l off len::as,(true,_)::r=>match st.at l with
  |some (.arr _ _ _ _ xs)=>(off=0/\len=xs.length)/\cO st K as r
  |some (.Dk _ _ xs)=>(off=0/\len=xs.length)/\cO st K as r
  |_=>False
 |_::as,(false,_)::r=>cO st K as r
 |_,_=>K
def jU (st:St):(cs:List CK)->List AC->(CKs.den cs->List Nat->Prop)->Prop
 | [],[],K=>K () []
 | .Am e te _::r, .own l off len::as,K=>match st.at l with
  |some (.Am e' Li rows none _)=>if h:e'=e/\Li=te then (off=0/\len=rows.length)/\jU st r as λy t=>K ((h.1▸rows:List (List e.den)),y) (l::t) else False
  |_=>False
 |c::r,a::as,K=>Ed (eH st c a) λp=>jU st r as λy t=>K (p.1,y) (p.2++t)
 |_,_,_=>False
def tj (st:St) (n:Nat) (as:List AC):List (Nat×Nat)->Prop->Prop
 | [],K=>K
 |(k,j)::r,K=>match as[j]? with
  |some (.own l _ _)=>match st.at l with
   |some (.Am _ _ _ _ (some p))=>match Nat.beq p.1 (Bv false k)&&Nat.blt k 1000 with
    |true=>n<=p.2/\tj st n as r K
    |false=>False
   |_=>False
  |_=>False
def o6 (s:MSpec) (fn:Func) (x:Ins.den s.ins) (st:St) (cs:List AC) (P:CKs.den s.outs×IOs.den s.ins->Prop):Prop:=
 Ed (Xz T st fn.results.toList) λl=>Ed (zX s st l) λp=>jU st s.outs (cs++p.1) λr ls=>Ed (Jp st 0 s.ins) λo=>
  match Sy (p.2++ls++Kg 0 s.ins)&&Nat.blt s.ins.length 1000&&Nat.blt s.outs.length 1000&&s.LR with
  |true=>tj st (s.Cv x) (cs++p.1) s.keeps (P (r,o))
  |false=>False
def DE (s:MSpec) (fn:Func) (x:Ins.den s.ins) (st:St) (P:CKs.den s.outs×IOs.den s.ins->Prop):Prop:=
 match s.ptr with
 |none=>o6 T s fn x st [] P
 |some p=>match st.at Lw with
  |some (.var tid vs)=>match Nat.beq tid p.1&&Nat.beq vs.length p.2 with
   |true=>Ed (Fe 0 s.ins vs) λcs=>cO st (o6 T s fn x st cs P) vs s.ins
   |false=>False
  |_=>False
@[irreducible] def fnMW (s:MSpec) (fn:Func) (x:Ins.den s.ins) (P:CKs.den s.outs×IOs.den s.ins->Prop):Prop:=
 match Nat.blt s.ins.length 1000&&tV s with
 |false=>False
 |true=>Ed fn.body λc=>Ym T Γ (tu T.marks fn c) c {kn:= [],st:= {tmps:=Th s (Vj 0 s.ins x)++List.replicate (fn.ntmps-(Th s (Vj 0 s.ins x)).length) .undef,heap:=kU s x} } λe w=>match e with
  | .normal=>DE T s fn x w.st P
  | .ret=>DE T s fn x w.st P
  | .exit _=>False
@[irreducible] def fnW (s:Spec) (fn:Func) (x:s.arg.den) (P:s.res.den->Prop):Prop:=
 Ed fn.body λc=>Ym T Γ (tu T.marks fn c) c {kn:= [],st:= {tmps:=Mn s.arg x++List.replicate (fn.ntmps-(Mn s.arg x).length) .undef,heap:= []} } λe w=>match e with
  | .normal=>VJ T s fn P w.st
  | .ret=>VJ T s fn P w.st
  | .exit _=>False
end Go.Proofs.Ytjbdmibbbpdnnaa
