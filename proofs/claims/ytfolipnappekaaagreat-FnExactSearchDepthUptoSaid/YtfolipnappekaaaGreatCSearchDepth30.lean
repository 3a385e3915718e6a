/-
  Part 31 of the proof that the statement FnExactSearchDepth holds.
-/
import Derived.Test.YtfolipnappekaaaGreatCSearchDepth29
namespace Go.Proofs.YtfolipnappekaaaGreat
open Go.RowKit
inductive Br (b:Bool) (A B:Prop):Prop
 |mk (t:b=true->A) (f:b=false->B)
inductive Df {V:Type} (step:V->(V->Prop)->Prop) (v0:V):Prop
 |mk (I:V->Prop) (μ:V->Nat) (h0:I v0) (h: ∀v,I v->step v (λv'=>I v'/\μ v'<μ v))
structure WS where
 kn:List (Nat×Bool)
 st:St
def wD:List (Nat×Bool)->Nat->Option Bool
 | [],_=>none
 |(k,b)::r,t=>if k=t then some b else wD r t
def yj:List (Nat×Bool)->Nat->List (Nat×Bool)
 | [],_=> []
 |(k,b)::r,t=>if k=t then yj r t else (k,b)::yj r t
def WS.put (w:WS) (dst:Option Tmp) (v:AV):WS:=
 match dst with
 |some d=> {kn:=yj w.kn d,st:=w.st.put (some d) v}
 |none=>w
def Wj (kn:List (Nat×Bool)):Operand->Option Bool
 | .const (.bool b)=>some b
 | .tmp t=>wD kn t
 |_=>none
def Hf (kn:List (Nat×Bool)) (o:Oper):Option Bool:=
 match o.op with
 | .assign x=>Wj kn x
 | .move x=>Wj kn x
 | .unOp .not _ x=>(Wj kn x).map (!·)
 | .pick c a b=>match Wj kn c with
  |some true=>Wj kn a
  |some false=>Wj kn b
  |none=>none
 |_=>none
def WS.wW (w:WS) (o:Oper) (v:AV):WS:=
 match o.dst,Hf w.kn o with
 |some d,some b=>match (w.st.put (some d) v).get d with
  | .at (.data _ .bool _)=> {kn:=(d,b)::yj w.kn d,st:=w.st.put (some d) v}
  |_=>w.put (some d) v
 |dst,_=>w.put dst v
def WS.to (w:WS) (st:St):WS:= {kn:=w.kn,st:=st}
def brT (w:WS) (t:Nat) (K:Bool->WS->Prop):Prop:=
 match wD w.kn t with
 |some b=>K b w
 |none=>match w.st.get t with
  | .at (.data _ .bool b)=>Br b (K true {kn:=(t,true)::w.kn,st:=w.st}) (K false {kn:=(t,false)::w.kn,st:=w.st})
  |_=>False
def brO (w:WS) (c:Operand) (K:Bool->WS->Prop):Prop:=
 match c with
 | .tmp t=>brT w t K
 | .const (.bool b)=>K b w
 |_=>False
def Ht {α:Type} (o:Option α) (K:α->Prop):Prop:=match o with|some x=>K x|none=>False
def Akl (T:Tab) (st:St) (t:TypeId) (x:AV) (l h:Int):Option AV:=
 match x with
 | .at (.data fr (.slice e) xs)=>if (T.elem t).bind T.ty=some e then some (.at (.data fr (.slice e) ((xs.take h.toNat).drop l.toNat))) else none
 | .at (.own k off _)=>match st.at k with
  |some (.arr _ _ e tid _)=>if T.elem t=some tid/\T.ty tid=some e then some (.at (.own k (off+l.toNat) (h.toNat-l.toNat))) else none
  |_=>none
 | .at (.data _ .str s)=>if T.ty t=some .str then some (.at (.data true .str (s.extract l.toNat h.toNat))) else none
 |_=>none
variable (T:Tab) (Γ:Env)
def Ahw (op:BinOp) (t:TypeId) (x y:AV) (K:AV->Prop):Prop:=
 match op,x,y with
 | .quo, .at (.data _ (.int k) a), .at (.data _ (.int k') b)=>if k=k' then b≠0/\K (.at (.data true (.int k) (k.wrap (a.tdiv b)))) else False
 | .rem, .at (.data _ (.int k) a), .at (.data _ (.int k') b)=>if k=k' then b≠0/\K (.at (.data true (.int k) (a.tmod b))) else False
 | .shl, .at (.data _ (.int k) a), .at (.data _ (.int _) b)=> ¬b<0/\K (.at (.data true (.int k) (k.wrap (a*2^(min b.toNat k.bits)))))
 | .shr, .at (.data _ (.int k) a), .at (.data _ (.int _) b)=> ¬b<0/\K (.at (.data true (.int k) (a.fdiv (2^(min b.toNat k.bits)))))
 | .add, .at (.data _ .str a), .at (.data _ .str b)=>a.size+b.size<=4294967296/\K (.at (.data true .str (a++b)))
 |op,x,y=>Ht (Tv T op t x y) K
def Aah (st:St) (t:TypeId) (p:AV) (K:AV->Prop):Prop:=
 match p with
 | .at (.Jy l i)=>Ht (T.ty t) λτ=>match st.at l with
  |some (.arr fr _ e _ xs)=>if e=τ then ∃x,xs[i]?=some x/\K (.at (.data (fr||e.flat) e x)) else False
  |some (.Gt e _ xs)=>if e=τ then ∃x,xs[i]?=some x/\K (if e.Aq then .agg (fJ l i 0 e x) else .at ((fJ l i 0 e x).headD .undef)) else False
  |some (.Bm _ _ _ none _)=>if τ.Aq then False else K (.at (.sub l i 0))
  |_=>False
 | .at (.data fr (.optr Oe) x)=>Ht (T.ty t) λτ=>if Oe=τ then ∃y,x=some y/\K (.at (.data (fr||Oe.flat) Oe y)) else False
 |p=>Ht (Qd T st t p) K
def lS (s:TypeId) (x:AV) (f:Nat) (K:AV->Prop):Prop:=
 match x with
 | .at (.data fr (.optr τ) x)=> ∃y,x=some y/\Ht (Nw T s (.at (.data fr (.ptr τ) y)) f) K
 |x=>Ht (Nw T s x f) K
def yt (st:St) (x:Operand) (K:AV->Prop) (d:Option AV):Prop:=
 match st.ev x with
 | .at (.data fr (.optr τ) x)=> ∃y,x=some y/\K (.at (.data fr (.ptr τ) y))
 |_=>Ht d K
def OX (st:St) (t:TypeId) (x:AV) (lo hi:Option AV) (K:AV->Prop):Prop:=
 Ht (GC x) λn=>Ht (XL lo 0) λl=>Ht (XL hi n) λh=>(0<=l/\l<=h/\h<=n)/\Ht (Akl T st t x l h) K
def m7 (st:St) (t:TypeId) (x i:AV) (K:AV->Prop):Prop:=
 match x,i with
 | .at (.data fr (.slice e) xs), .at (.data _ (.int _) n)=>if (T.elem t).bind T.ty=some e then ∃x,idx xs n=some x/\K (.at (.data fr (.ptr e) x)) else False
 | .at (.own l off len), .at (.data _ (.int _) n)=>match st.at l with
  |some (.arr _ _ e tid _)=>if T.elem t=some tid/\T.ty tid=some e then (0<=n/\n<len)/\K (.at (.Jy l (off+n.toNat))) else False
  |some (.Gt e tid _)=>if T.elem t=some tid/\T.ty tid=some e then (0<=n/\n<len)/\K (.at (.Jy l (off+n.toNat))) else False
  |some (.Bm _ te _ _ _)=>if T.elem t=some te/\(T.ty te).map Ty.size=some 1 then (0<=n/\n<len)/\K (.at (.Jy l (off+n.toNat))) else False
  |_=>False
 | .at (.sub l i _), .at (.data _ (.int _) n)=>match st.at l with
  |some (.Bm e _ rows none _)=>if ((T.elem t).bind T.ty).map Ty.size=some e.size then (0<=n/\n<(rows.getD i []).length)/\K (.at (.Jv l i n.toNat)) else False
  |_=>False
 |_,_=>False
def MP (t:TypeId) (x i:AV) (K:AV->Prop):Prop:=
 match x,i with
 | .at (.data _ .str s), .at (.data _ (.int _) n)=>if T.ty t=some .str then 0<=n/\ ∃b,s[n.toNat]?=some b/\K (.at (.data true (.int .u8) b.toNat)) else False
 |_,_=>False
def xN (st:St) (f:FuncId) (args:List AV) (K:AV->Prop):Prop:=
 Ht (match Γ f with|some (.q s)=>some s|_=>none) λs=>match s.fresh||s.res.flat||args.all (·.settled) with
  |true=>Ht (Dw st s.arg args) λp=> ∃y,s.fn p.2=some y/\K (if s.Gy then .bz (s.fresh||s.res.flat) s.res y else .at (.data (s.fresh||s.res.flat) s.res y))
  |false=>False
def LJ (st:St) (v:AV) (args:List AV) (K:AV->Prop):Prop:=
 match v with
 | .at (.data fr (.clo f τ) x)=>match τ.chain with|true=>(match Nat.blt f 1000000000 with|true=>xN Γ st f (args++bH fr τ x) K|false=>xN Γ st (f-1000000000) (bH fr τ x++args) K)|false=>False
 | .at (.clo f Ec)=>xN Γ st f (args++Ec.map λp=> .at (.Hm p.1 p.2)) K
 |_=>False
def qW (w:WS) (o:Oper) (K:AV->WS->Prop):Prop:=
 match o.op with
 | .pick c a b=>brO w c λt w'=>match t with|true=>K (w'.st.ev a) w'|false=>K (w'.st.ev b) w'
 | .load t a=>Aah T w.st t (w.st.ev a) λv=>K v w
 | .binOp op t x y _=>Ahw T op t (w.st.ev x) (w.st.ev y) λv=>K v w
 | .slice t x lo hi mx=>match mx with
  |none=>OX T w.st t (w.st.ev x) (lo.map w.st.ev) (hi.map w.st.ev) λv=>K v w
  |some _=>False
 | .indexAddr t x i=>m7 T w.st t (pI (w.st.ev x)) (w.st.ev i) λv=>K v w
 | .index t x i=>MP T t (w.st.ev x) (w.st.ev i) λv=>K v w
 | .call {callee:= .value (.func f),args, .. } =>xN Γ w.st f (args.toList.map w.st.ev) λv=>K v w
 | .call {callee:= .value (.tmp t),args, .. } =>LJ Γ w.st (w.st.get t) (args.toList.map w.st.ev) λv=>K v w
 | .fieldAddr s x f=>lS T s (w.st.ev x) f λv=>K v w
 | .nilCheck x=>yt w.st x (λv=>K v w) (Ey T Γ w.st o)
 |_=>Ht (Ey T Γ w.st o) λv=>K v w
def PT (st:St) (t:TypeId) (p v:AV) (K:St->Prop):Prop:=
 match p with
 | .at (.Jy l j)=>Ht (T.ty t) λτ=>Ht (settle st v) λq=>match q.2.at l with
  |some (.arr fr tr e tid xs)=>Ht (Fu q.2 τ q.1) λu=>if h:τ=e then j<xs.length/\K (q.2.Ju l (.arr (fr&&u.1) (tr&&(Tl st v&&e.tree)) e tid (xs.set j (h▸u.2)))) else False
  |_=>False
 |p=>Ht (Va T st t p v) K
def SO (st:St) (t:TypeId) (p v:AV) (K:St->Prop):Prop:=
 match p with
 | .at (.Jv l i j)=>Ht (T.ty t) λτ=>Ht (settle st v) λq=>match q.2.at l with
  |some (.Bm e te rows none kp)=>Ht (Fu q.2 τ q.1) λu=>if h:τ=e then K (q.2.Ju l (.Bm e te (rows.set i ((rows.getD i []).set j (h▸u.2))) none kp)) else False
  |_=>False
 | .at (.Jy l j)=>Ht (T.ty t) λτ=>match st.at l,v with
  |some (.Bm e te rows out kp), .at (.own m off len)=>match st.at m with
   |some (.arr _ _ e' _ xs)=>if h:e'=e/\(Nat.blt l Bn&&(!Nat.beq m l&&!τ.Aq))=true then
     off=0/\len=xs.length/\(match out with|none=>True|some i=>i=j)/\K (Tu st l j m e te rows (h.1▸xs) (bS j kp))
    else False
   |_=>False
  |_,_=>False
 |_=>False
def BZ (st:St) (t:TypeId) (p v:AV) (K:St->Prop):Prop:=match RI st p with
 |true=>SO T st t p v K
 |false=>PT T st t p v K
def mO (st:St) (dst:Nat) (t:TypeId) (x y:Operand) (K:AV->St->Prop):Prop:=
 Ht (T.elem t) λte=>Ht (T.ty te) λe=>Ht (settle st (st.ev y)) λq=>Ht (Fu q.2 (.slice e) q.1) λu=>match q.2.ev x with
  | .at .Ly=>match Nat.blt dst Bn with
   |true=>List.length u.2<=Cr/\K (.at (.own dst 0 (List.length u.2))) ((q.2.new dst (.arr (T.tH||e.flat) T.CO e te [])).new dst (.arr ((T.tH||e.flat)&&(u.1||e.flat)) (T.CO&&(e.flat||(Tl st (st.ev y)&&e.tree))) e te u.2))
   |false=>False
  | .at (.own l off len)=>match q.2.at l with
   |some (.arr fr tr e' tid xs)=>if h:e'=e/\tid=te/\Nat.blt l Bn=true then
     off=0/\len=xs.length/\len+List.length u.2<=Cr/\K (.at (.own l 0 (List.length ((h.1▸xs:List e.den)++u.2)))) (q.2.new l (.arr (fr&&(u.1||e.flat)) (tr&&(e.flat||(Tl st (st.ev y)&&e.tree))) e te ((h.1▸xs:List e.den)++u.2)))
    else False
   |_=>False
  |_=>False
def sV (st:St) (dst:Nat) (t:TypeId) (x y:Operand) (K:AV->St->Prop):Prop:=
 match x with
 | .tmp tx=>match st.get tx with
  | .at (.sub l i _)=>Ht (T.elem t) λtid=>match st.at l with
   |some (.Bm e te rows none kp)=>match Nat.blt l Bn&&(Nat.blt dst Bn&&!Nat.beq dst l) with
    |true=>mO T ((Qc st l i dst e te tid rows kp).put (some tx) (.at (.own dst 0 (rows.getD i []).length))) dst t x y K
    |false=>False
   |_=>False
  |_=>mO T st dst t x y K
 |_=>mO T st dst t x y K
def Aan (st:St) (dst:Nat) (t:TypeId) (l c:AV) (K:AV->St->Prop):Prop:=
 match l,c with
 | .at (.data _ (.int _) n), .at (.data _ (.int _) m)=>Ht (T.elem t) λte=>Ht (T.ty te) λe=>match fS e&&Nat.blt dst Bn with
  |true=>(0<=n/\n<Cr+1)/\n=m/\K (.at (.own dst 0 (List.replicate n.toNat e.zero).length)) (st.new dst (.arr (T.tH||e.flat) (T.CO&&e.tree) e te (List.replicate n.toNat e.zero)))
  |false=>False
 |_,_=>False
def NF (st:St) (dst:Nat) (t:TypeId) (l c:AV) (K:AV->St->Prop):Prop:=
 match dR T t with
 |none=>Aan T st dst t l c K
 |some p=>match l,c with
  | .at (.data _ (.int _) n), .at (.data _ (.int _) m)=>match Nat.blt dst Bn with
   |true=>(0<=n/\n<Cr+1)/\n=m/\K (.at (.own dst 0 (List.replicate n.toNat ([]:List p.2.den)).length)) (Qw st dst dst (.Bm p.2 p.1 (List.replicate n.toNat []) none none))
   |false=>False
  |_,_=>False
def eP (st:St) (dst:Nat) (t:TypeId) (len:Nat) (parts:Array (Nat×Operand)) (K:AV->St->Prop):Prop:=
 match dR T t with
 |none=>Ht (Mg T st dst t len parts) λr=>K r.1 r.2
 |some p=>match parts.toList with
  | [(0,x)]=>match st.ev x with
   | .at (.own m off ln)=>match st.at m with
    |some (.arr _ _ e' _ xs)=>if h:e'=p.2/\(Nat.beq len 1&&(Nat.blt dst Bn&&Nat.blt m Bn))=true then off=0/\ln=xs.length/\K (.at (.own dst 0 1)) (Qw st dst m (.Bm p.2 p.1 [h.1▸xs] none none)) else False
    |_=>False
   |_=>False
  |_=>False
def sX (st:St) (dst:Nat) (t:TypeId) (x y:Operand) (K:AV->St->Prop):Prop:=
 match dR T t with
 |none=>sV T st dst t x y K
 |some p=>match st.ev x,st.ev y with
  | .at (.own l off len), .at (.own m Aav ug)=>match st.at l,st.at m with
   |some (.Bm e1 te1 A none _),some (.Bm e2 xk B none _)=>
    if h:(e1=p.2/\e2=p.2)/\(decide (te1=p.1)&&decide (xk=p.1)&&(Nat.blt l Bn&&(Nat.blt m Bn&&!Nat.beq m l)))=true then
     (off=0/\len=A.length)/\(Aav=0/\ug=B.length)/\0<B.length/\A.length+B.length<=Cr/\
      K (.at (.own l 0 (List.length ((h.1.1▸A:List (List p.2.den))++(h.1.2▸B:List (List p.2.den)))))) (Qw st l m (.Bm p.2 p.1 ((h.1.1▸A:List (List p.2.den))++(h.1.2▸B:List (List p.2.den))) none none))
    else False
   |_,_=>False
  |_,_=>False
def fL (st:St) (io:Bool) (k:Nat):(c:CK)->AC->(c.den->List (Nat×Loc)->Prop)->Prop
 | .Eu τ, .own l off len,K=>Ht (Dt st τ (.own l off len)) λp=>K p.2 [(Dr false k, .view l)]
 | .Eu τ, .clo g Ec,K=>match cf st (Ec.map (·.1))&&!τ.Aq with
  |true=>Ht (Js st τ (.clo g Ec)) λp=>K p.2 (views k (Ec.map (·.1)))
  |false=>False
 | .Eu τ, .Hm l i,K=>match cf st [l]&&!τ.Aq with
  |true=>Ht (Js st τ (.Hm l i)) λp=>K p.2 (views k [l])
  |false=>False
 | .Eu τ, .sub l i c,K=>Ht (Dt st τ (.sub l i c)) λp=>K p.2 [(Dr false k, .view l)]
 | .Eu τ,a,K=>match τ.flat||a.settled with
  |true=>Ht (Dt st τ a) λp=>K p.2 []
  |false=>False
 | .row e te, .own l off len,K=>match st.at l with
  |some (.arr _ _ e' Rb xs)=>if h:e'=e/\Rb=te then off=0/\len=xs.length/\K (h.1▸xs:List e.den) [(Dr io k, .row l)] else False
  |_=>False
 | .row e _, .sub l i c,K=>match st.at l with
  |some (.Gt e' _ xs)=>if h:e'= .slice e/\e.flat=true/\io=true/\c=0 then ∃y,xs[i]?=some y/\K (h.1▸y:(Ty.slice e).den) [(Dr io k, .sub l i c)] else False
  |_=>False
 | .row _ _, .Ly,K=>K [] []
 | .Hi e te, .own l off len,K=>match st.at l with
  |some (.Gt e' Rb xs)=>if h:e'=e/\Rb=te then off=0/\len=xs.length/\K (h.1▸xs:List e.den) [(Dr io k, .row l)] else False
  |_=>False
 | .Hi e _, .sub l i c,K=>match st.at l with
  |some (.Gt e' _ xs)=>if h:e'= .slice e/\io=true/\c=0 then ∃y,xs[i]?=some y/\K (h.1▸y:(Ty.slice e).den) [(Dr io k, .sub l i c)] else False
  |_=>False
 | .Hi _ _, .Ly,K=>K [] []
 | .part e te, .own l off len,K=>match st.at l with
  |some (.arr _ _ e' Rb xs)=>if h:e'=e/\Rb=te/\e.flat=true/\io=true then K ((h.1▸xs:List e.den),off,len) [(Dr io k, .row l)] else False
  |_=>False
 | .Bm e te _, .own l off len,K=>match st.at l with
  |some (.Bm e' Rb rows none _)=>if h:e'=e/\Rb=te/\io=false then off=0/\len=rows.length/\K (h.1▸rows:List (List e.den)) [(Dr io k, .row l)] else False
  |_=>False
 |_,_,_=>False
def CN (st:St):(k:Nat)->(cs:List (Bool×CK))->List AC->(Ins.den cs->List (Nat×Loc)->Prop)->Prop
 |_,[],[],K=>K () []
 |k,p::r,a::as,K=>fL st p.1 k p.2 a λx t1=>CN st (k+1) r as λy t2=>K (x,y) (t1++t2)
 |_,_,_,_=>False
def qX (st:St):(c:CK)->c.den->AC->(St->Prop)->Prop
 | .row e _,ys, .own l _ len,K=>match st.at l with
  |some (.arr fr tr e' te xs)=>if h:e=e' then (List.length ys=len/\xs.length=len)/\K (st.Ju l (.arr (fr&&e'.flat) (tr&&e'.flat) e' te (h▸ys))) else False
  |_=>False
 | .Hi e _,ys, .own l _ len,K=>match st.at l with
  |some (.Gt e' te xs)=>if h:e=e' then (List.length ys=len/\xs.length=len)/\K (st.Ju l (.Gt e' te (h▸ys))) else False
  |_=>False
 | .row e _,ys, .sub l i _,K=>match st.at l with
  |some (.Gt e' te xs)=>if h: .slice e=e' then ∃y,xs[i]?=some y/\List.length ys=List.length (h▸y:(Ty.slice e).den)/\K (st.Ju l (.Gt e' te (xs.set i (h▸(ys:(Ty.slice e).den))))) else False
  |_=>False
 | .Hi e _,ys, .sub l i _,K=>match st.at l with
  |some (.Gt e' te xs)=>if h: .slice e=e' then ∃y,xs[i]?=some y/\List.length ys=List.length (h▸y:(Ty.slice e).den)/\K (st.Ju l (.Gt e' te (xs.set i (h▸(ys:(Ty.slice e).den))))) else False
  |_=>False
 |_,_, .Ly,K=>K st
 |_,_,_,_=>False
def Abb (st:St) (e:Ty) (ys:List e.den):AC->(St->Prop)->Prop
 | .own l _ _,K=>match st.at l with
  |some (.arr fr tr e' te xs)=>if h:e=e' then List.length ys=xs.length/\K (st.Ju l (.arr fr tr e' te (h▸ys))) else False
  |_=>False
 |_,_=>False
def j8:(cs:List (Bool×CK))->IOs.den cs->List AC->St->(St->Prop)->Prop
 | [],_,_,st,K=>K st
 |(true, .Eu _)::r,x,_::as,st,K=>j8 r x as st K
 |(true, .row e te)::r,x,a::as,st,K=>qX st (.row e te) x.1 a λst'=>j8 r x.2 as st' K
 |(true, .Hi e te)::r,x,a::as,st,K=>qX st (.Hi e te) x.1 a λst'=>j8 r x.2 as st' K
 |(true, .part e _)::r,x,a::as,st,K=>Abb st e x.1 a λst'=>j8 r x.2 as st' K
 |(true, .Bm _ _ _)::r,x,_::as,st,K=>j8 r x as st K
 |(false,_)::r,x,_::as,st,K=>j8 r x as st K
 |_,_,_,_,_=>False
def vL (H:List (Nat×OB)) (ls:List Nat) (n:Nat):List AV->Prop->Prop
 | [],K=>K
 | .at (.sub l i _)::r,K=>match ls.contains l with
  |true=>(i<n/\i<sx H l)/\vL H ls n r K
  |false=>vL H ls n r K
 |_::r,K=>vL H ls n r K
def LI (st:St) (dst:Option Nat) (s:MSpec) (args:List AV) (K:AV->St->Prop):Prop:=
 Ht (SJ st s args) λq=>Ht (ungroup s.Je q.2.2) λoM=>CN st 0 s.ins (q.2.1++oM) λx tks=>
  match aq (tks.map λt=>t.2.Wz)&&zT (Si s tks (dst.getD 0)) (s.outs.length+(mn s (dst.getD 0)).length)&&Nat.blt s.outs.length 1000&&Nat.blt s.ins.length 1000&&(We s.ins q.2.1&&q.1.all λl=>!((tks.map λt=>t.2.Wz)++Si s tks (dst.getD 0)).contains l) with
  |true=> ∃p,s.fn x=some p/\j8 s.ins p.2 (q.2.1++oM) st λst1=>Ht (Af1 s (dst.getD 0) ((bX (Ea (Si s tks (dst.getD 0))) 0 s.outs p.1).drop s.Zv)) λv=>
    vL (lM st st1 (dst.getD 0) s q.1 tks p.1).heap (bR st.heap (Si s tks (dst.getD 0)) tks s.keeps) (s.Ez x) st.tmps
     (K v (m8 st (lM st st1 (dst.getD 0) s q.1 tks p.1) (bR st.heap (Si s tks (dst.getD 0)) tks s.keeps) (s.Ez x)))
  |false=>False
def opW (w:WS) (o:Oper) (K:AV->WS->Prop):Prop:=
 match o.op with
 | .store t p x=>BZ T w.st t (w.st.ev p) (w.st.ev x) λs=>K .undef (w.to s)
 | .makeSlice t l c=>Ht o.dst λd=>NF T w.st d t (w.st.ev l) (w.st.ev c) λv s=>K v (w.to s)
 | .call {callee:= .builtin .append,args,argTypes} =>match o.dst,args.toList,argTypes.toList with
  |some d,[x,y],[t,t']=>if t=t' then sX T w.st d t x y λv s=>K v (w.to s) else False
  |_,_,_=>False
 | .assign _=>Ht (evalOp T Γ w.st o) λr=>K r.1 (w.to r.2)
 | .alloc _=>Ht (evalOp T Γ w.st o) λr=>K r.1 (w.to r.2)
 | .box _ _=>Ht (evalOp T Γ w.st o) λr=>K r.1 (w.to r.2)
 | .buildSlice t len parts=>Ht o.dst λd=>eP T w.st d t len parts λv s=>K v (w.to s)
 | .build _ _=>Ht (evalOp T Γ w.st o) λr=>K r.1 (w.to r.2)
 | .makeMap _ _=>Ht (evalOp T Γ w.st o) λr=>K r.1 (w.to r.2)
 | .mapUpdate _ _ _ _=>Ht (evalOp T Γ w.st o) λr=>K r.1 (w.to r.2)
 | .insert _ _ _ _=>Ht (evalOp T Γ w.st o) λr=>K r.1 (w.to r.2)
 | .call {callee:= .builtin .copy, .. } =>Ht (evalOp T Γ w.st o) λr=>K r.1 (w.to r.2)
 | .call {callee:= .builtin .clear, .. } =>Ht (evalOp T Γ w.st o) λr=>K r.1 (w.to r.2)
 | .call {callee:= .value (.func f),args, .. } =>match Γ f with
  |some (.m s)=>LI w.st o.dst s (args.toList.map w.st.ev) λv s'=>K v (w.to s')
  |some (.q s)=>match fh s (args.toList.map w.st.ev) with
   |true=>Ht (Ox args.toList w.st) λst1=>qW T Γ (w.to st1) o K
   |false=>qW T Γ w o K
  |_=>qW T Γ w o K
 |_=>qW T Γ w o K
def AV.Aac:AV->Bool
 | .at .skip=>true
 |_=>false
def bW (w:WS) (o:Oper) (K:AV->WS->Prop):Prop:=
 match o.op with
 | .buildSlice t len parts=>Ht (bI T w.st t len parts) λv=>K v w
 | .build t parts=>Ht (Xs T w.st t parts) λv=>K v w
 |_=>qW T Γ w o K
def jt (ops:Array Oper) (w:WS) (o:Oper) (run:(AV->WS->Prop)->WS->Prop) (K:WS->Prop):Prop:=
 match o.guard with
 |none=>run (λv w'=>K (w'.wW o v)) w
 |some (j,want)=>Ht ((ops[j]?).bind (·.dst)) λt=>match (w.st.get t).Aac with
  |true=>K (w.put o.dst (.at .skip))
  |false=>brT w t λb w'=>match b,want with
   |true,true=>run (λv ry=>K (ry.wW o v)) w'
   |false,false=>run (λv ry=>K (ry.wW o v)) w'
   |_,_=>K (w'.put o.dst (.at .skip))
def Ajy (ops:Array Oper):List Oper->WS->(WS->Prop)->Prop
 | [],w,K=>K w
 |o::r,w,K=>jt ops w o (λk w'=>opW T Γ w' o k) λw'=>Ajy ops r w' K
def Aa3 (ops:Array Oper):List Nat->WS->(WS->Prop)->Prop
 | [],w,K=>K w
 |i::r,w,K=>Ht ops[i]? λo=>jt ops w o (λk w'=>opW T Γ w' o k) λw'=>Aa3 ops r w' K
def qE (ops:Array Oper):List Nat->WS->(WS->Prop)->Prop
 | [],w,K=>K w
 |i::r,w,K=>Ht ops[i]? λo=>jt ops w o (λk w'=>bW T Γ w' o k) λw'=>qE ops r w' K
def YI:List Nat->(Nat->Prop)->Prop
 | [],_=>True
 | [i],P=>P i
 |i::j::r,P=>P i/\YI (j::r) P
def TD (ops:Array Oper):Nat->Array Bool->WS->(WS->Prop)->Prop
 |0,Ah,w,K=>match Region.ready .any ops Ah with
  | []=>K w
  |_::_=>False
 |f+1,Ah,w,K=>match Region.ready .any ops Ah with
  | []=>False
  |i::r=>YI (i::r) λk=>Ht ops[k]? λo=>jt ops w o (λkk w'=>opW T Γ w' o kk) λw'=>TD ops f (Ah.setIfInBounds k true) w' K
def acV:AC->Type->Type
 | .data _ τ _,R=>τ.den×R
 | .sub _ _ _,R=>Nat×R
 | .Jy _ _,R=>Nat×R
 | .Jv _ _ _,R=>Nat×Nat×R
 |_,R=>R
def KU:List AC->Type->Type
 | [],R=>R
 |c::r,R=>acV c (KU r R)
def avV:AV->Type->Type
 | .at a,R=>acV a R
 | .agg cs,R=>KU cs R
 | .bz _ τ _,R=>τ.den×R
 | .Mq _,R=>R
def obV:OB->Type->Type
 | .arr _ _ e _ _,R=>List e.den×R
 | .Gt e _ _,R=>List e.den×R
 | .var _ vs,R=>KU vs R
 | .Bm e _ _ _ none,R=>List (List e.den)×R
 | .Bm e _ _ _ (some _),R=>List (List e.den)×(Nat×R)
 | .Vs v _,R=>(ByteArray->Option v.den)×R
def ru:List AV->Type->Type
 | [],R=>R
 |v::r,R=>avV v (ru r R)
def xV:List (Nat×OB)->Type->Type
 | [],R=>R
 |p::r,R=>obV p.2 (xV r R)
def stV (s:St):Type:=ru s.tmps (xV s.heap Unit)
def QP:(c:AC)-> {R:Type} ->R->acV c R
 | .data _ _ x,_,r=>(x,r)
 | .undef,_,r=>r
 | .skip,_,r=>r
 | .Ly,_,r=>r
 | .Xa,_,r=>r
 | .own _ _ _,_,r=>r
 | .Hm _ _,_,r=>r
 | .Jy _ i,_,r=>(i,r)
 | .clo _ _,_,r=>r
 | .Kg _,_,r=>r
 | .sub _ i _,_,r=>(i,r)
 | .Jv _ i j,_,r=>(i,j,r)
def sR:(l:List AC)-> {R:Type} ->R->KU l R
 | [],_,r=>r
 |c::l,_,r=>QP c (sR l r)
def Afw:(c:AV)-> {R:Type} ->R->avV c R
 | .at a,_,r=>QP a r
 | .agg cs,_,r=>sR cs r
 | .bz _ _ x,_,r=>(x,r)
 | .Mq _,_,r=>r
def Ahe:(b:OB)-> {R:Type} ->R->obV b R
 | .arr _ _ _ _ xs,_,r=>(xs,r)
 | .Gt _ _ xs,_,r=>(xs,r)
 | .var _ vs,_,r=>sR vs r
 | .Bm _ _ rows _ none,_,r=>(rows,r)
 | .Bm _ _ rows _ (some p),_,r=>(rows,p.2,r)
 | .Vs _ m,_,r=>(m,r)
def sL:(l:List AV)-> {R:Type} ->R->ru l R
 | [],_,r=>r
 |c::l,_,r=>Afw c (sL l r)
def sy:(l:List (Nat×OB))-> {R:Type} ->R->xV l R
 | [],_,r=>r
 |p::l,_,r=>Ahe p.2 (sy l r)
def SN (s:St):stV s:=sL s.tmps (sy s.heap ())
def oU:(c d:AC)-> {R:Type} ->R->Option (acV c R)
 | .data fr τ _, .data Wb Oe x,_,r=>if h:Oe=τ/\Wb=fr then some (h.1▸x,r) else none
 | .undef, .undef,_,r=>some r
 | .skip, .skip,_,r=>some r
 | .Ly, .Ly,_,r=>some r
 | .Xa, .Xa,_,r=>some r
 | .own l _ _, .own l' _ _,_,r=>if l=l' then some r else none
 | .Hm l i, .Hm l' i',_,r=>if l=l'/\i=i' then some r else none
 | .Jy l _, .Jy l' i',_,r=>if l=l' then some (i',r) else none
 | .clo f c, .clo f' c',_,r=>if f=f'/\c=c' then some r else none
 | .Kg l, .Kg l',_,r=>if l=l' then some r else none
 | .sub l _ c, .sub l' i' c',_,r=>if l=l'/\c=c' then some (i',r) else none
 | .Jv l _ _, .Jv l' i' j',_,r=>if l=l' then some (i',j',r) else none
 |_,_,_,_=>none
def Sh:(l m:List AC)-> {R:Type} ->R->Option (KU l R)
 | [],[],_,r=>some r
 |c::l,d::m,_,r=>(Sh l m r).bind λr'=>oU c d r'
 |_,_,_,_=>none
def lP:(c d:AV)-> {R:Type} ->R->Option (avV c R)
 | .at a, .at b,_,r=>oU a b r
 | .agg cs, .agg ds,_,r=>Sh cs ds r
 | .bz fr τ _, .bz Wb Oe x,_,r=>if h:Oe=τ/\Wb=fr then some (h.1▸x,r) else none
 |_,_,_,_=>none
def Td:(b d:OB)-> {R:Type} ->R->Option (obV b R)
 | .arr fr tr e tid _, .arr Wb tr' e' Ux xs,_,r=>if h:e'=e/\Wb=fr/\tr'=tr/\Ux=tid then some (h.1▸xs,r) else none
 | .Gt e tid _, .Gt e' Ux xs,_,r=>if h:e'=e/\Ux=tid then some (h.1▸xs,r) else none
 | .Vs v _, .Vs v' m,_,r=>if h:v'=v then some (h▸m,r) else none
 | .var t vs, .var t' us,_,r=>if t'=t then Sh vs us r else none
 | .Bm e te _ out none, .Bm e' Rb rows gN none,_,r=>if h:e'=e/\Rb=te/\gN=out then some (h.1▸rows,r) else none
 | .Bm e te _ out (some p), .Bm e' Rb rows gN (some p'),_,r=>if h:e'=e/\Rb=te/\gN=out/\p'.1=p.1 then some (h.1▸rows,p'.2,r) else none
 |_,_,_,_=>none
def Oy:(l m:List AV)-> {R:Type} ->R->Option (ru l R)
 | [],[],_,r=>some r
 |c::l,d::m,_,r=>(Oy l m r).bind λr'=>lP c d r'
 |_,_,_,_=>none
def Qe:(l m:List (Nat×OB))-> {R:Type} ->R->Option (xV l R)
 | [],[],_,r=>some r
 |p::l,q::m,_,r=>if q.1=p.1 then (Qe l m r).bind λr'=>Td p.2 q.2 r' else none
 |_,_,_,_=>none
def jr (s t:St):Option (stV s):=(Qe s.heap t.heap ()).bind λr=>Oy s.tmps t.tmps r
def lK:(c:AC)-> {R:Type} ->acV c R->AC×R
 | .data fr τ _,_,v=>(.data fr τ v.1,v.2)
 | .undef,_,r=>(.undef,r)
 | .skip,_,r=>(.skip,r)
 | .Ly,_,r=>(.Ly,r)
 | .Xa,_,r=>(.Xa,r)
 | .own l off len,_,r=>(.own l off len,r)
 | .Hm l i,_,r=>(.Hm l i,r)
 | .Jy l _,_,v=>(.Jy l v.1,v.2)
 | .clo f c,_,r=>(.clo f c,r)
 | .Kg l,_,r=>(.Kg l,r)
 | .sub l _ c,_,v=>(.sub l v.1 c,v.2)
 | .Jv l _ _,_,v=>(.Jv l v.1 v.2.1,v.2.2)
def aK:(l:List AC)-> {R:Type} ->KU l R->List AC×R
 | [],_,r=>([],r)
 |c::l,_,v=>((lK c v).1::(aK l (lK c v).2).1,(aK l (lK c v).2).2)
def ta:(c:AV)-> {R:Type} ->avV c R->AV×R
 | .at a,_,v=>(.at (lK a v).1,(lK a v).2)
 | .agg cs,_,v=>(.agg (aK cs v).1,(aK cs v).2)
 | .bz fr τ _,_,v=>(.bz fr τ v.1,v.2)
 | .Mq l,_,r=>(.Mq l,r)
def ur:(b:OB)-> {R:Type} ->obV b R->OB×R
 | .arr fr tr e tid _,_,v=>(.arr fr tr e tid v.1,v.2)
 | .Gt e tid _,_,v=>(.Gt e tid v.1,v.2)
 | .Vs w _,_,v=>(.Vs w v.1,v.2)
 | .var t vs,_,v=>(.var t (aK vs v).1,(aK vs v).2)
 | .Bm e te _ out none,_,v=>(.Bm e te v.1 out none,v.2)
 | .Bm e te _ out (some p),_,v=>(.Bm e te v.1 out (some (p.1,v.2.1)),v.2.2)
def Wu:(l:List AV)-> {R:Type} ->ru l R->List AV×R
 | [],_,r=>([],r)
 |c::l,_,v=>((ta c v).1::(Wu l (ta c v).2).1,(Wu l (ta c v).2).2)
def dU:(l:List (Nat×OB))-> {R:Type} ->xV l R->List (Nat×OB)×R
 | [],_,r=>([],r)
 |p::l,_,v=>((p.1,(ur p.2 v).1)::(dU l (ur p.2 v).2).1,(dU l (ur p.2 v).2).2)
def jq (s:St) (v:stV s):St:= {tmps:=(Wu s.tmps v).1,heap:=(dU s.heap (Wu s.tmps v).2).1}
def lenOf (H:List (Nat×OB)) (l:Nat):Nat:=match Au H l with|some (.arr _ _ _ _ xs)=>xs.length|some (.Gt _ _ xs)=>xs.length|some (.Bm _ _ rows _ _)=>rows.length|_=>0
def ah (ps:List Nat):List AV->List (Nat×Nat×Nat)
 | []=> []
 | .at (.own l off len)::r=>if ps.contains l then (l,off,len)::ah ps r else ah ps r
 |_::r=>ah ps r
def Ajw:List (Nat×Nat×Nat)->Nat->Nat
 | [],_=>0
 |(k,o,_)::r,l=>if k=l then o else Ajw r l
def UI:List (Nat×Nat×Nat)->List (Nat×OB)->Nat->Nat
 | [],H,l=>lenOf H l
 |(k,_,n)::r,H,l=>if k=l then n else UI r H l
def fP (B:List (Nat×Nat×Nat)) (H:List (Nat×OB)):AC->AC
 | .own l _ _=> .own l (Ajw B l) (UI B H l)
 |c=>c
def St.whole (B:List (Nat×Nat×Nat)) (s:St):St:=s.Kr (fP B s.heap)
def zd (B:List (Nat×Nat×Nat)) (H:List (Nat×OB)) (c:AC) (K:Prop):Prop:=match c with
 | .own l off len=>off=Ajw B l/\len=UI B H l/\K
 |_=>K
def dC (B:List (Nat×Nat×Nat)) (H:List (Nat×OB)):List AC->Prop->Prop
 | [],K=>K
 |c::r,K=>zd B H c (dC B H r K)
def QV (B:List (Nat×Nat×Nat)) (H:List (Nat×OB)) (c:AV) (K:Prop):Prop:=match c with
 | .at a=>zd B H a K
 | .agg cs=>dC B H cs K
 | .bz _ _ _=>K
 | .Mq _=>False
def bx (B:List (Nat×Nat×Nat)) (H:List (Nat×OB)):List AV->Prop->Prop
 | [],K=>K
 |c::r,K=>QV B H c (bx B H r K)
def jS (B:List (Nat×Nat×Nat)) (H:List (Nat×OB)):List (Nat×OB)->Prop->Prop
 | [],K=>K
 |p::r,K=>match p.2 with
  | .var _ vs=>dC B H vs (jS B H r K)
  |_=>jS B H r K
def BY (B:List (Nat×Nat×Nat)) (s:St) (K:Prop):Prop:=bx B s.heap s.tmps (jS B s.heap s.heap K)
def AV.Yb:AV->Bool
 | .at (.data _ _ _)=>true
 |_=>false
def Mh (p:Nat->Bool):Nat->List AV->List Bool
 |_,[]=> []
 |i,v::r=>(v.Yb&&p i)::Mh p (i+1) r
def stays (live:Nat->List Nat) (c:Code) (t:Nat):Bool:=!(writes c).contains t&&bQ live c t
def Vh:List Bool->List AV->List AV
 |true::f,_::r=> .undef::Vh f r
 |false::f,v::r=>v::Vh f r
 |_,l=>l
def Wk:List Bool->List AV->List AV->List AV
 |true::f,a::s,_::r=>a::Wk f s r
 |false::f,_::s,v::r=>v::Wk f s r
 |_,_,l=>l
def St.mask (fx:List Bool) (s:St):St:= {tmps:=Vh fx s.tmps,heap:=s.heap}
def St.wJ (fx:List Bool) (s0 s:St):St:= {tmps:=Wk fx s0.tmps s.tmps,heap:=s.heap}
def sv (c:AC) (k:AC->Prop):Prop:=match c with
 | .undef=>k .undef
 | .skip=>k .skip
 | .Ly=>k .Ly
 | .Xa=>k .Xa
 | .data fr τ x=>match fr with
  |true=>k (.data true τ x)
  |false=>k (.data false τ x)
 | .own l off len=>k (.own l off len)
 | .Hm l i=>k (.Hm l i)
 | .Jy l i=>k (.Jy l i)
 | .clo f c=>k (.clo f c)
 | .Kg l=>k (.Kg l)
 | .sub l i c=>k (.sub l i c)
 | .Jv l i c=>k (.Jv l i c)
def iD:List AC->(List AC->Prop)->Prop
 | [],k=>k []
 |c::r,k=>sv c λc'=>iD r λr'=>k (c'::r')
def zy (c:AV) (k:AV->Prop):Prop:=match c with
 | .at a=>sv a λa'=>k (.at a')
 | .agg cs=>iD cs λir=>k (.agg ir)
 | .bz fr τ x=>k (.bz fr τ x)
 | .Mq l=>k (.Mq l)
def iE:List AV->(List AV->Prop)->Prop
 | [],k=>k []
 |c::r,k=>zy c λc'=>iE r λr'=>k (c'::r')
def zz (b:OB) (k:OB->Prop):Prop:=match b with
 | .arr fr tr e tid xs=>match fr,tr with
  |true,true=>k (.arr true true e tid xs)
  |true,false=>k (.arr true false e tid xs)
  |false,true=>k (.arr false true e tid xs)
  |false,false=>k (.arr false false e tid xs)
 | .Gt e tid xs=>k (.Gt e tid xs)
 | .var t vs=>iD vs λvs'=>k (.var t vs')
 | .Bm e te rows out kp=>match out,kp with
  |none,none=>k (.Bm e te rows none none)
  |none,some (l,n)=>k (.Bm e te rows none (some (l,n)))
  |some i,none=>k (.Bm e te rows (some i) none)
  |some i,some (l,n)=>k (.Bm e te rows (some i) (some (l,n)))
 | .Vs v m=>k (.Vs v m)
def tG:List (Nat×OB)->(List (Nat×OB)->Prop)->Prop
 | [],k=>k []
 |(l,b)::r,k=>zz b λb'=>tG r λr'=>k ((l,b')::r')
def iF (w:WS) (k:WS->Prop):Prop:=iE w.st.tmps λt=>tG w.st.heap λh=>k {kn:=w.kn,st:= {tmps:=t,heap:=h} }
def pf (s:St) (k:St->Prop):Prop:=iE s.tmps λt=>tG s.heap λh=>k {tmps:=t,heap:=h}
def jP:List Bool->(List Bool->Prop)->Prop
 | [],k=>k []
 |true::r,k=>jP r λr'=>k (true::r')
 |false::r,k=>jP r λr'=>k (false::r')
theorem qz {c:AC} {k:AC->Prop} :sv c k↔k c:=by
 cases c<;>simp only [sv]
 split<;>rfl
theorem eT: ∀ {l:List AC} {k:List AC->Prop},iD l k↔k l
 | [],k=>Iff.rfl
 |c::r,k=>by simp only [iD];rw [qz,eT]
theorem ET {c:AV} {k:AV->Prop} :zy c k↔k c:=by
 cases c<;>simp only [zy]
 ·exact qz
 ·exact eT
theorem eU: ∀ {l:List AV} {k:List AV->Prop},iE l k↔k l
 | [],k=>Iff.rfl
 |c::r,k=>by simp only [iE];rw [ET,eU]
theorem EU {b:OB} {k:OB->Prop} :zz b k↔k b:=by
 cases b<;>simp only [zz]
 ·split<;>rfl
 ·exact eT
 ·split<;>rfl
theorem lW: ∀ {l:List (Nat×OB)} {k:List (Nat×OB)->Prop},tG l k↔k l
 | [],k=>Iff.rfl
 |(l,b)::r,k=>by simp only [tG];rw [EU,lW]
theorem TO {s:St} {k:St->Prop} :pf s k=k s:=by
 unfold pf
 exact propext (by rw [eU,lW])
theorem lV: ∀ {l:List Bool} {k:List Bool->Prop},jP l k=k l
 | [],k=>rfl
 |true::r,k=>by simp only [jP];rw [lV]
 |false::r,k=>by simp only [jP];rw [lV]
theorem Xx {w:WS} {k:WS->Prop} :iF w k↔k w:=by
 unfold iF
 rw [eU,lW]
def bD:AC->List (Nat×Nat)
 | .own _ off len=> [(off,len)]
 |_=> []
def bF:AV->List (Nat×Nat)
 | .at a=>bD a
 | .agg cs=>cs.flatMap bD
 |_=> []
def mh:OB->List (Nat×Nat)
 | .var _ vs=>vs.flatMap bD
 |_=> []
def PR (s:St):List (Nat×Nat):=s.tmps.flatMap bF++s.heap.flatMap λp=>mh p.2
def eqW (s0 s:St):Prop:=PR s=PR s0/\Ht (jr s0 s) λv=>v=SN s0
def lT (ops:Array Oper):Nat->Array Bool->WS->(WS->Prop)->Prop
 |0,Ah,w,K=>match Region.ready .any ops Ah with
  | []=>K w
  |_::_=>False
 |f+1,Ah,w,K=>match Region.ready .any ops Ah with
  | []=>False
  |k::_=>Ht ops[k]? λo=>jt ops w o (λkk w'=>opW T Γ w' o kk) λw'=>lT ops f (Ah.setIfInBounds k true) w' K
def DT (P:List (Nat×Nat×AV×OB)) (ops:Array Oper):Nat->Array Bool->WS->(WS->Prop)->Prop
 |0,Ah,w,K=>match Region.ready .any ops Ah with
  | []=>K w
  |_::_=>False
 |f+1,Ah,w,K=>match Region.ready .any ops Ah with
  | []=>False
  |i::r=>YI (i::r) λk=>Ht ops[k]? λo=>match NN P Γ ops w.st o k with
   |true=>jt ops w o (λkk w'=>opW T Γ w' o kk) λw'=>DT P ops f (Ah.setIfInBounds k true) w' K
   |false=>False
def yU (ops:Array Oper) (E:List Nat) (Ah:Array Bool) (w:WS):List Nat->Prop->Prop
 | [],K=>K
 |r::R,K=>match sM ops E Ah r with
  |true=>yU ops E Ah w R K
  |false=>(qE T Γ ops [r] w λw'=>Ht ((ops[r]?).bind (·.dst)) λd=>match Nat.blt d w.st.tmps.length with
    |true=>eqW ⟨[w.st.get d],[]⟩ ⟨[w'.st.get d],[]⟩
    |false=>False)/\yU ops E Ah w R K
def DU (ops:Array Oper) (E:List Nat):Nat->Array Bool->WS->(WS->Prop)->Prop
 |0,Ah,w,K=>yU T Γ ops E Ah w E (match Region.ready .any ops Ah with
  | []=>K w
  |_::_=>False)
 |f+1,Ah,w,K=>yU T Γ ops E Ah w E (match Region.ready .any ops Ah with
  | []=>False
  |i::r=>YI (i::r) λk=>Ht ops[k]? λo=>jt ops w o (λkk w'=>opW T Γ w' o kk) λw'=>DU ops E f (Ah.setIfInBounds k true) w' K)
def OL (E:List Nat) (n:Nat) (L0:Array Bool) (ops:Array Oper) (w:WS) (K:WS->Prop):Prop:=
 match kf ops E L0&&(Nat.ble E.length n&&Nat.ble (n-E.length) 10) with
 |true=>qE T Γ ops E w λw1=>iF w1 λw1=>lT T Γ ops (n-E.length) (Fm E L0) w1 λw0=>iF w0 λw0=>K w0/\DU T Γ ops E (n-E.length) (Fm E L0) w1 λw2=>eqW w0.st w2.st
 |false=>False
def zk (P:List (Nat×Nat×AV×OB)) (n:Nat) (L0:Array Bool) (ops:Array Oper) (w:WS) (K:WS->Prop):Prop:=
 match (aq (P.map (·.1))&&aq (P.map (·.2.1)))&&((P.all λa=>pC a.2.1 w.st)&&(Nat.ble P.length n&&Nat.ble (n-P.length) 10)) with
 |true=>Aa3 T Γ ops (P.map (·.1)) w λw1=>iF w1 λw1=>lT T Γ ops (n-P.length) (Fm (P.map (·.1)) L0) w1 λw0=>iF w0 λw0=>K w0/\DT T Γ P ops (n-P.length) (Fm (P.map (·.1)) L0) w1 λw2=>eqW w0.st w2.st
 |false=>OL T Γ (pJ ops (List.range ops.size) L0) n L0 ops w K
def BD (ops:Array Oper) (draw:Bool) (w:WS) (K:WS->Prop):Prop:=
 match draw with
 |true=>match kd false Γ ops with
  |true=>qE T Γ ops (jR false Γ ops) w λw'=>Aa3 T Γ ops (Jj false Γ ops) w' K
  |false=>match kd true Γ ops with
   |true=>qE T Γ ops (jR true Γ ops) w λw'=>Aa3 T Γ ops (Jj true Γ ops) w' K
   |false=>match Region.noSelect ops&&Nat.ble (ops.size-(Na ops).length) 8 with
    |true=>qE T Γ ops (Na ops) w λw'=>match jN false ops with
     |true=>TD T Γ ops (ops.size-(Na ops).length) (Fm (Na ops) (Array.replicate ops.size false)) w' K
     |false=>lT T Γ ops (ops.size-(Na ops).length) (Fm (Na ops) (Array.replicate ops.size false)) w' λw0=>iF w0 λw0=>K w0/\TD T Γ ops (ops.size-(Na ops).length) (Fm (Na ops) (Array.replicate ops.size false)) w' λw1=>eqW w0.st w1.st
    |false=>match Region.noSelect ops with
     |true=>qE T Γ ops (Na ops) w λw'=>zk T Γ (Zk T ops (Fm (Na ops) (Array.replicate ops.size false))) (ops.size-(Na ops).length) (Fm (Na ops) (Array.replicate ops.size false)) ops w' K
     |false=>False
 |false=>Ajy T Γ ops ops.toList w K
def dH (live:Nat->List Nat):Code->WS->(Le->WS->Prop)->Prop
 | .skip,w,Q=>Q .normal w
 | .label _,w,Q=>Q .normal w
 | .region _ ops draw,w,Q=>BD T (BC Γ draw) ops draw {w with st:=w.st.mY ops} λw'=>iF w' (Q .normal)
 | .seq a b,w,Q=>dH live a w λe w'=>match e with
  | .normal=>dH live b w' Q
  | .exit id=>Q (.exit id) w'
  | .ret=>Q .ret w'
 | .cond c a b,w,Q=>brO w c λt w'=>match t with
  |true=>dH live a w' Q
  |false=>dH live b w' Q
 | .block id c,w,Q=>dH live c w λe w'=>match e with
  | .normal=>Q .normal w'
  | .exit UD=>if UD=id then Q .normal w' else Q (.exit UD) w'
  | .ret=>Q .ret w'
 | .loop c,w,Q=>
  pf (w.st.clean (live (Ep c))) λs0=>jP (Mh (stays live c) 0 s0.tmps) λfx=>pf (s0.mask fx) λm=>
  BY (ah T.parts s0.tmps) s0 (Df (V:=stV m) (λv k=>pf ((St.wJ fx s0 (jq m v)).whole (ah T.parts s0.tmps)) λsb=>dH live c ⟨[],sb⟩ λe w'=>match e with
   | .normal=>pf (w'.st.clean (live (Ep c))) λs1=>BY (ah T.parts s0.tmps) s1 (Ht (jr m (s1.mask fx)) k)
   | .exit id=>Q (.exit id) w'
   | .ret=>Q .ret w') (SN m))
 | .exit id,w,Q=>Q (.exit id) w
 | .ret,w,Q=>Q .ret w
 |_,_,_=>False
def Ahx (s:Spec) (fn:Func) (P:s.res.den->Prop) (st:St):Prop:=
 Ht (nk T s fn st) λp=>match p.1||!s.fresh with|true=>P p.2|false=>False
def iT (st:St) (K:Prop):List AC->List (Bool×CK)->Prop
 | .own l off len::as,(true,_)::r=>match st.at l with
  |some (.arr _ _ _ _ xs)=>(off=0/\len=xs.length)/\iT st K as r
  |some (.Gt _ _ xs)=>(off=0/\len=xs.length)/\iT st K as r
  |_=>False
 |_::as,(false,_)::r=>iT st K as r
 |_,_=>K
def pE (st:St):(cs:List CK)->List AC->(CKs.den cs->List Nat->Prop)->Prop
 | [],[],K=>K () []
 | .Bm e te _::r, .own l off len::as,K=>match st.at l with
  |some (.Bm e' Rb rows none _)=>if h:e'=e/\Rb=te then (off=0/\len=rows.length)/\pE st r as λy t=>K ((h.1▸rows:List (List e.den)),y) (l::t) else False
  |_=>False
 |c::r,a::as,K=>Ht (kJ st c a) λp=>pE st r as λy t=>K (p.1,y) (p.2++t)
 |_,_,_=>False
def zS (st:St) (n:Nat) (as:List AC):List (Nat×Nat)->Prop->Prop
 | [],K=>K
 |(k,j)::r,K=>match as[j]? with
  |some (.own l _ _)=>match st.at l with
   |some (.Bm _ _ _ _ (some p))=>match Nat.beq p.1 (Dr false k)&&Nat.blt k 1000 with
    |true=>n<=p.2/\zS st n as r K
    |false=>False
   |_=>False
  |_=>False
def uQ (s:MSpec) (fn:Func) (x:Ins.den s.ins) (st:St) (cs:List AC) (P:CKs.den s.outs×IOs.den s.ins->Prop):Prop:=
 Ht (dw T st fn.results.toList) λl=>Ht (OQ s st l) λp=>pE st s.outs (cs++p.1) λr ls=>Ht (On st 0 s.ins) λo=>
  match aq (p.2++ls++Py 0 s.ins)&&Nat.blt s.ins.length 1000&&Nat.blt s.outs.length 1000&&s.Aao with
  |true=>zS st (s.Ez x) (cs++p.1) s.keeps (P (r,o))
  |false=>False
def SK (s:MSpec) (fn:Func) (x:Ins.den s.ins) (st:St) (P:CKs.den s.outs×IOs.den s.ins->Prop):Prop:=
 match s.ptr with
 |none=>uQ T s fn x st [] P
 |some p=>match st.at Oz with
  |some (.var tid vs)=>match Nat.beq tid p.1&&Nat.beq vs.length p.2 with
   |true=>Ht (Jg 0 s.ins vs) λcs=>iT st (uQ T s fn x st cs P) vs s.ins
   |false=>False
  |_=>False
@[irreducible] def fnMW (s:MSpec) (fn:Func) (x:Ins.den s.ins) (P:CKs.den s.outs×IOs.den s.ins->Prop):Prop:=
 match Nat.blt s.ins.length 1000&&AW s with
 |false=>False
 |true=>Ht fn.body λc=>dH T Γ (zX T.marks fn c) c {kn:= [],st:= {tmps:=aH s (bP 0 s.ins x)++List.replicate (fn.ntmps-(aH s (bP 0 s.ins x)).length) .undef,heap:=qJ s x} } λe w=>match e with
  | .normal=>SK T s fn x w.st P
  | .ret=>SK T s fn x w.st P
  | .exit _=>False
@[irreducible] def fnW (s:Spec) (fn:Func) (x:s.arg.den) (P:s.res.den->Prop):Prop:=
 Ht fn.body λc=>dH T Γ (zX T.marks fn c) c {kn:= [],st:= {tmps:=Sz s.arg x++List.replicate (fn.ntmps-(Sz s.arg x).length) .undef,heap:= []} } λe w=>match e with
  | .normal=>Ahx T s fn P w.st
  | .ret=>Ahx T s fn P w.st
  | .exit _=>False
end Go.Proofs.YtfolipnappekaaaGreat
