/-
  Part 31 of the proof that the statement FnExactIterationNodes holds.
-/
import Derived.Test.YtfolipnappekaaaGreatCIterationNodes29
namespace Go.Proofs.YtfolipnappekaaaGreat
open Go.RowKit
inductive Br (b:Bool) (A B:Prop):Prop
 |mk (t:b=true->A) (f:b=false->B)
inductive Cz {V:Type} (step:V->(V->Prop)->Prop) (v0:V):Prop
 |mk (I:V->Prop) (μ:V->Nat) (h0:I v0) (h: ∀v,I v->step v (λv'=>I v'/\μ v'<μ v))
structure WS where
 kn:List (Nat×Bool)
 st:St
def x4:List (Nat×Bool)->Nat->Option Bool
 | [],_=>none
 |(k,b)::r,t=>if k=t then some b else x4 r t
def yL:List (Nat×Bool)->Nat->List (Nat×Bool)
 | [],_=> []
 |(k,b)::r,t=>if k=t then yL r t else (k,b)::yL r t
def WS.put (w:WS) (dst:Option Tmp) (v:AV):WS:=
 match dst with
 |some d=> {kn:=yL w.kn d,st:=w.st.put (some d) v}
 |none=>w
def Wo (kn:List (Nat×Bool)):Operand->Option Bool
 | .const (.bool b)=>some b
 | .tmp t=>x4 kn t
 |_=>none
def Hi (kn:List (Nat×Bool)) (o:Oper):Option Bool:=
 match o.op with
 | .assign x=>Wo kn x
 | .move x=>Wo kn x
 | .unOp .not _ x=>(Wo kn x).map (!·)
 | .pick c a b=>match Wo kn c with
  |some true=>Wo kn a
  |some false=>Wo kn b
  |none=>none
 |_=>none
def WS.xp (w:WS) (o:Oper) (v:AV):WS:=
 match o.dst,Hi w.kn o with
 |some d,some b=>match (w.st.put (some d) v).get d with
  | .at (.data _ .bool _)=> {kn:=(d,b)::yL w.kn d,st:=w.st.put (some d) v}
  |_=>w.put (some d) v
 |dst,_=>w.put dst v
def WS.to (w:WS) (st:St):WS:= {kn:=w.kn,st:=st}
def brT (w:WS) (t:Nat) (K:Bool->WS->Prop):Prop:=
 match x4 w.kn t with
 |some b=>K b w
 |none=>match w.st.get t with
  | .at (.data _ .bool b)=>Br b (K true {kn:=(t,true)::w.kn,st:=w.st}) (K false {kn:=(t,false)::w.kn,st:=w.st})
  |_=>False
def brO (w:WS) (c:Operand) (K:Bool->WS->Prop):Prop:=
 match c with
 | .tmp t=>brT w t K
 | .const (.bool b)=>K b w
 |_=>False
def Ht {α:Type} (o:Option α) (K:α->Prop):Prop:=match o with|some x=>K x|none=>False
def Alb (T:Tab) (st:St) (t:TypeId) (x:AV) (l h:Int):Option AV:=
 match x with
 | .at (.data fr (.slice e) xs)=>if (T.elem t).bind T.ty=some e then some (.at (.data fr (.slice e) ((xs.take h.toNat).drop l.toNat))) else none
 | .at (.own k off _)=>match st.at k with
  |some (.arr _ _ e tid _)=>if T.elem t=some tid/\T.ty tid=some e then some (.at (.own k (off+l.toNat) (h.toNat-l.toNat))) else none
  |_=>none
 | .at (.data _ .str s)=>if T.ty t=some .str then some (.at (.data true .str (s.extract l.toNat h.toNat))) else none
 |_=>none
variable (T:Tab) (Γ:Env)
def Ail (op:BinOp) (t:TypeId) (x y:AV) (K:AV->Prop):Prop:=
 match op,x,y with
 | .quo, .at (.data _ (.int k) a), .at (.data _ (.int k') b)=>if k=k' then b≠0/\K (.at (.data true (.int k) (k.wrap (a.tdiv b)))) else False
 | .rem, .at (.data _ (.int k) a), .at (.data _ (.int k') b)=>if k=k' then b≠0/\K (.at (.data true (.int k) (a.tmod b))) else False
 | .shl, .at (.data _ (.int k) a), .at (.data _ (.int _) b)=> ¬b<0/\K (.at (.data true (.int k) (k.wrap (a*2^(min b.toNat k.bits)))))
 | .shr, .at (.data _ (.int k) a), .at (.data _ (.int _) b)=> ¬b<0/\K (.at (.data true (.int k) (a.fdiv (2^(min b.toNat k.bits)))))
 | .add, .at (.data _ .str a), .at (.data _ .str b)=>a.size+b.size<=4294967296/\K (.at (.data true .str (a++b)))
 |op,x,y=>Ht (Tx T op t x y) K
def Aba (st:St) (t:TypeId) (p:AV) (K:AV->Prop):Prop:=
 match p with
 | .at (.Jz l i)=>Ht (T.ty t) λτ=>match st.at l with
  |some (.arr fr _ e _ xs)=>if e=τ then ∃x,xs[i]?=some x/\K (.at (.data (fr||e.flat) e x)) else False
  |some (.Gu e _ xs)=>if e=τ then ∃x,xs[i]?=some x/\K (if e.Aq then .agg (fV l i 0 e x) else .at ((fV l i 0 e x).headD .undef)) else False
  |some (.Bm _ _ _ none _)=>if τ.Aq then False else K (.at (.sub l i 0))
  |_=>False
 | .at (.data fr (.optr Oh) x)=>Ht (T.ty t) λτ=>if Oh=τ then ∃y,x=some y/\K (.at (.data (fr||Oh.flat) Oh y)) else False
 |p=>Ht (Qh T st t p) K
def ma (s:TypeId) (x:AV) (f:Nat) (K:AV->Prop):Prop:=
 match x with
 | .at (.data fr (.optr τ) x)=> ∃y,x=some y/\Ht (Oa T s (.at (.data fr (.ptr τ) y)) f) K
 |x=>Ht (Oa T s x f) K
def yT (st:St) (x:Operand) (K:AV->Prop) (d:Option AV):Prop:=
 match st.ev x with
 | .at (.data fr (.optr τ) x)=> ∃y,x=some y/\K (.at (.data fr (.ptr τ) y))
 |_=>Ht d K
def PX (st:St) (t:TypeId) (x:AV) (lo hi:Option AV) (K:AV->Prop):Prop:=
 Ht (HB x) λn=>Ht (YO lo 0) λl=>Ht (YO hi n) λh=>(0<=l/\l<=h/\h<=n)/\Ht (Alb T st t x l h) K
def mo (st:St) (t:TypeId) (x i:AV) (K:AV->Prop):Prop:=
 match x,i with
 | .at (.data fr (.slice e) xs), .at (.data _ (.int _) n)=>if (T.elem t).bind T.ty=some e then ∃x,idx xs n=some x/\K (.at (.data fr (.ptr e) x)) else False
 | .at (.own l off len), .at (.data _ (.int _) n)=>match st.at l with
  |some (.arr _ _ e tid _)=>if T.elem t=some tid/\T.ty tid=some e then (0<=n/\n<len)/\K (.at (.Jz l (off+n.toNat))) else False
  |some (.Gu e tid _)=>if T.elem t=some tid/\T.ty tid=some e then (0<=n/\n<len)/\K (.at (.Jz l (off+n.toNat))) else False
  |some (.Bm _ te _ _ _)=>if T.elem t=some te/\(T.ty te).map Ty.size=some 1 then (0<=n/\n<len)/\K (.at (.Jz l (off+n.toNat))) else False
  |_=>False
 | .at (.sub l i _), .at (.data _ (.int _) n)=>match st.at l with
  |some (.Bm e _ rows none _)=>if ((T.elem t).bind T.ty).map Ty.size=some e.size then (0<=n/\n<(rows.getD i []).length)/\K (.at (.Jv l i n.toNat)) else False
  |_=>False
 |_,_=>False
def NM (t:TypeId) (x i:AV) (K:AV->Prop):Prop:=
 match x,i with
 | .at (.data _ .str s), .at (.data _ (.int _) n)=>if T.ty t=some .str then 0<=n/\ ∃b,s[n.toNat]?=some b/\K (.at (.data true (.int .u8) b.toNat)) else False
 |_,_=>False
def ym (st:St) (f:FuncId) (args:List AV) (K:AV->Prop):Prop:=
 Ht (match Γ f with|some (.q s)=>some s|_=>none) λs=>match s.fresh||s.res.flat||args.all (·.settled) with
  |true=>Ht (Dx st s.arg args) λp=> ∃y,s.fn p.2=some y/\K (if s.He then .bL (s.fresh||s.res.flat) s.res y else .at (.data (s.fresh||s.res.flat) s.res y))
  |false=>False
def ME (st:St) (v:AV) (args:List AV) (K:AV->Prop):Prop:=
 match v with
 | .at (.data fr (.clo f τ) x)=>match τ.chain with|true=>(match Nat.blt f 1000000000 with|true=>ym Γ st f (args++bT fr τ x) K|false=>ym Γ st (f-1000000000) (bT fr τ x++args) K)|false=>False
 | .at (.clo f Ee)=>ym Γ st f (args++Ee.map λp=> .at (.Hj p.1 p.2)) K
 |_=>False
def qW (w:WS) (o:Oper) (K:AV->WS->Prop):Prop:=
 match o.op with
 | .pick c a b=>brO w c λt w'=>match t with|true=>K (w'.st.ev a) w'|false=>K (w'.st.ev b) w'
 | .load t a=>Aba T w.st t (w.st.ev a) λv=>K v w
 | .binOp op t x y _=>Ail T op t (w.st.ev x) (w.st.ev y) λv=>K v w
 | .slice t x lo hi mx=>match mx with
  |none=>PX T w.st t (w.st.ev x) (lo.map w.st.ev) (hi.map w.st.ev) λv=>K v w
  |some _=>False
 | .indexAddr t x i=>mo T w.st t (pQ (w.st.ev x)) (w.st.ev i) λv=>K v w
 | .index t x i=>NM T t (w.st.ev x) (w.st.ev i) λv=>K v w
 | .call {callee:= .value (.func f),args, .. } =>ym Γ w.st f (args.toList.map w.st.ev) λv=>K v w
 | .call {callee:= .value (.tmp t),args, .. } =>ME Γ w.st (w.st.get t) (args.toList.map w.st.ev) λv=>K v w
 | .fieldAddr s x f=>ma T s (w.st.ev x) f λv=>K v w
 | .nilCheck x=>yT w.st x (λv=>K v w) (Fa T Γ w.st o)
 |_=>Ht (Fa T Γ w.st o) λv=>K v w
def QO (st:St) (t:TypeId) (p v:AV) (K:St->Prop):Prop:=
 match p with
 | .at (.Jz l j)=>Ht (T.ty t) λτ=>Ht (settle st v) λq=>match q.2.at l with
  |some (.arr fr tr e tid xs)=>Ht (Fq q.2 τ q.1) λu=>if h:τ=e then j<xs.length/\K (q.2.Ju l (.arr (fr&&u.1) (tr&&(Tn st v&&e.tree)) e tid (xs.set j (h▸u.2)))) else False
  |_=>False
 |p=>Ht (Ve T st t p v) K
def TO (st:St) (t:TypeId) (p v:AV) (K:St->Prop):Prop:=
 match p with
 | .at (.Jv l i j)=>Ht (T.ty t) λτ=>Ht (settle st v) λq=>match q.2.at l with
  |some (.Bm e te rows none kp)=>Ht (Fq q.2 τ q.1) λu=>if h:τ=e then K (q.2.Ju l (.Bm e te (rows.set i ((rows.getD i []).set j (h▸u.2))) none kp)) else False
  |_=>False
 | .at (.Jz l j)=>Ht (T.ty t) λτ=>match st.at l,v with
  |some (.Bm e te rows out kp), .at (.own m off len)=>match st.at m with
   |some (.arr _ _ e' _ xs)=>if h:e'=e/\(Nat.blt l Bn&&(!Nat.beq m l&&!τ.Aq))=true then
     off=0/\len=xs.length/\(match out with|none=>True|some i=>i=j)/\K (Tw st l j m e te rows (h.1▸xs) (ca j kp))
    else False
   |_=>False
  |_,_=>False
 |_=>False
def CY (st:St) (t:TypeId) (p v:AV) (K:St->Prop):Prop:=match SF st p with
 |true=>TO T st t p v K
 |false=>QO T st t p v K
def nb (st:St) (dst:Nat) (t:TypeId) (x y:Operand) (K:AV->St->Prop):Prop:=
 Ht (T.elem t) λte=>Ht (T.ty te) λe=>Ht (settle st (st.ev y)) λq=>Ht (Fq q.2 (.slice e) q.1) λu=>match q.2.ev x with
  | .at .Lr=>match Nat.blt dst Bn with
   |true=>List.length u.2<=Cq/\K (.at (.own dst 0 (List.length u.2))) ((q.2.new dst (.arr (T.u9||e.flat) T.DK e te [])).new dst (.arr ((T.u9||e.flat)&&(u.1||e.flat)) (T.DK&&(e.flat||(Tn st (st.ev y)&&e.tree))) e te u.2))
   |false=>False
  | .at (.own l off len)=>match q.2.at l with
   |some (.arr fr tr e' tid xs)=>if h:e'=e/\tid=te/\Nat.blt l Bn=true then
     off=0/\len=xs.length/\len+List.length u.2<=Cq/\K (.at (.own l 0 (List.length ((h.1▸xs:List e.den)++u.2)))) (q.2.new l (.arr (fr&&(u.1||e.flat)) (tr&&(e.flat||(Tn st (st.ev y)&&e.tree))) e te ((h.1▸xs:List e.den)++u.2)))
    else False
   |_=>False
  |_=>False
def tv (st:St) (dst:Nat) (t:TypeId) (x y:Operand) (K:AV->St->Prop):Prop:=
 match x with
 | .tmp tx=>match st.get tx with
  | .at (.sub l i _)=>Ht (T.elem t) λtid=>match st.at l with
   |some (.Bm e te rows none kp)=>match Nat.blt l Bn&&(Nat.blt dst Bn&&!Nat.beq dst l) with
    |true=>nb T ((Qg st l i dst e te tid rows kp).put (some tx) (.at (.own dst 0 (rows.getD i []).length))) dst t x y K
    |false=>False
   |_=>False
  |_=>nb T st dst t x y K
 |_=>nb T st dst t x y K
def Abh (st:St) (dst:Nat) (t:TypeId) (l c:AV) (K:AV->St->Prop):Prop:=
 match l,c with
 | .at (.data _ (.int _) n), .at (.data _ (.int _) m)=>Ht (T.elem t) λte=>Ht (T.ty te) λe=>match gg e&&Nat.blt dst Bn with
  |true=>(0<=n/\n<Cq+1)/\n=m/\K (.at (.own dst 0 (List.replicate n.toNat e.zero).length)) (st.new dst (.arr (T.u9||e.flat) (T.DK&&e.tree) e te (List.replicate n.toNat e.zero)))
  |false=>False
 |_,_=>False
def NZ (st:St) (dst:Nat) (t:TypeId) (l c:AV) (K:AV->St->Prop):Prop:=
 match ec T t with
 |none=>Abh T st dst t l c K
 |some p=>match l,c with
  | .at (.data _ (.int _) n), .at (.data _ (.int _) m)=>match Nat.blt dst Bn with
   |true=>(0<=n/\n<Cq+1)/\n=m/\K (.at (.own dst 0 (List.replicate n.toNat ([]:List p.2.den)).length)) (Ra st dst dst (.Bm p.2 p.1 (List.replicate n.toNat []) none none))
   |false=>False
  |_,_=>False
def eZ (st:St) (dst:Nat) (t:TypeId) (len:Nat) (parts:Array (Nat×Operand)) (K:AV->St->Prop):Prop:=
 match ec T t with
 |none=>Ht (Mi T st dst t len parts) λr=>K r.1 r.2
 |some p=>match parts.toList with
  | [(0,x)]=>match st.ev x with
   | .at (.own m off ln)=>match st.at m with
    |some (.arr _ _ e' _ xs)=>if h:e'=p.2/\(Nat.beq len 1&&(Nat.blt dst Bn&&Nat.blt m Bn))=true then off=0/\ln=xs.length/\K (.at (.own dst 0 1)) (Ra st dst m (.Bm p.2 p.1 [h.1▸xs] none none)) else False
    |_=>False
   |_=>False
  |_=>False
def tz (st:St) (dst:Nat) (t:TypeId) (x y:Operand) (K:AV->St->Prop):Prop:=
 match ec T t with
 |none=>tv T st dst t x y K
 |some p=>match st.ev x,st.ev y with
  | .at (.own l off len), .at (.own m Abp uH)=>match st.at l,st.at m with
   |some (.Bm e1 te1 A none _),some (.Bm e2 xM B none _)=>
    if h:(e1=p.2/\e2=p.2)/\(decide (te1=p.1)&&decide (xM=p.1)&&(Nat.blt l Bn&&(Nat.blt m Bn&&!Nat.beq m l)))=true then
     (off=0/\len=A.length)/\(Abp=0/\uH=B.length)/\0<B.length/\A.length+B.length<=Cq/\
      K (.at (.own l 0 (List.length ((h.1.1▸A:List (List p.2.den))++(h.1.2▸B:List (List p.2.den)))))) (Ra st l m (.Bm p.2 p.1 ((h.1.1▸A:List (List p.2.den))++(h.1.2▸B:List (List p.2.den))) none none))
    else False
   |_,_=>False
  |_,_=>False
def fX (st:St) (io:Bool) (k:Nat):(c:CK)->AC->(c.den->List (Nat×Loc)->Prop)->Prop
 | .Fm τ, .own l off len,K=>Ht (Du st τ (.own l off len)) λp=>K p.2 [(Ds false k, .view l)]
 | .Fm τ, .clo g Ee,K=>match cw st (Ee.map (·.1))&&!τ.Aq with
  |true=>Ht (Js st τ (.clo g Ee)) λp=>K p.2 (views k (Ee.map (·.1)))
  |false=>False
 | .Fm τ, .Hj l i,K=>match cw st [l]&&!τ.Aq with
  |true=>Ht (Js st τ (.Hj l i)) λp=>K p.2 (views k [l])
  |false=>False
 | .Fm τ, .sub l i c,K=>Ht (Du st τ (.sub l i c)) λp=>K p.2 [(Ds false k, .view l)]
 | .Fm τ,a,K=>match τ.flat||a.settled with
  |true=>Ht (Du st τ a) λp=>K p.2 []
  |false=>False
 | .row e te, .own l off len,K=>match st.at l with
  |some (.arr _ _ e' Rf xs)=>if h:e'=e/\Rf=te then off=0/\len=xs.length/\K (h.1▸xs:List e.den) [(Ds io k, .row l)] else False
  |_=>False
 | .row e _, .sub l i c,K=>match st.at l with
  |some (.Gu e' _ xs)=>if h:e'= .slice e/\e.flat=true/\io=true/\c=0 then ∃y,xs[i]?=some y/\K (h.1▸y:(Ty.slice e).den) [(Ds io k, .sub l i c)] else False
  |_=>False
 | .row _ _, .Lr,K=>K [] []
 | .Hk e te, .own l off len,K=>match st.at l with
  |some (.Gu e' Rf xs)=>if h:e'=e/\Rf=te then off=0/\len=xs.length/\K (h.1▸xs:List e.den) [(Ds io k, .row l)] else False
  |_=>False
 | .Hk e _, .sub l i c,K=>match st.at l with
  |some (.Gu e' _ xs)=>if h:e'= .slice e/\io=true/\c=0 then ∃y,xs[i]?=some y/\K (h.1▸y:(Ty.slice e).den) [(Ds io k, .sub l i c)] else False
  |_=>False
 | .Hk _ _, .Lr,K=>K [] []
 | .part e te, .own l off len,K=>match st.at l with
  |some (.arr _ _ e' Rf xs)=>if h:e'=e/\Rf=te/\e.flat=true/\io=true then K ((h.1▸xs:List e.den),off,len) [(Ds io k, .row l)] else False
  |_=>False
 | .Bm e te _, .own l off len,K=>match st.at l with
  |some (.Bm e' Rf rows none _)=>if h:e'=e/\Rf=te/\io=false then off=0/\len=rows.length/\K (h.1▸rows:List (List e.den)) [(Ds io k, .row l)] else False
  |_=>False
 |_,_,_=>False
def DJ (st:St):(k:Nat)->(cs:List (Bool×CK))->List AC->(Ins.den cs->List (Nat×Loc)->Prop)->Prop
 |_,[],[],K=>K () []
 |k,p::r,a::as,K=>fX st p.1 k p.2 a λx t1=>DJ st (k+1) r as λy t2=>K (x,y) (t1++t2)
 |_,_,_,_=>False
def rn (st:St):(c:CK)->c.den->AC->(St->Prop)->Prop
 | .row e _,ys, .own l _ len,K=>match st.at l with
  |some (.arr fr tr e' te xs)=>if h:e=e' then (List.length ys=len/\xs.length=len)/\K (st.Ju l (.arr (fr&&e'.flat) (tr&&e'.flat) e' te (h▸ys))) else False
  |_=>False
 | .Hk e _,ys, .own l _ len,K=>match st.at l with
  |some (.Gu e' te xs)=>if h:e=e' then (List.length ys=len/\xs.length=len)/\K (st.Ju l (.Gu e' te (h▸ys))) else False
  |_=>False
 | .row e _,ys, .sub l i _,K=>match st.at l with
  |some (.Gu e' te xs)=>if h: .slice e=e' then ∃y,xs[i]?=some y/\List.length ys=List.length (h▸y:(Ty.slice e).den)/\K (st.Ju l (.Gu e' te (xs.set i (h▸(ys:(Ty.slice e).den))))) else False
  |_=>False
 | .Hk e _,ys, .sub l i _,K=>match st.at l with
  |some (.Gu e' te xs)=>if h: .slice e=e' then ∃y,xs[i]?=some y/\List.length ys=List.length (h▸y:(Ty.slice e).den)/\K (st.Ju l (.Gu e' te (xs.set i (h▸(ys:(Ty.slice e).den))))) else False
  |_=>False
 |_,_, .Lr,K=>K st
 |_,_,_,_=>False
def Ac4 (st:St) (e:Ty) (ys:List e.den):AC->(St->Prop)->Prop
 | .own l _ _,K=>match st.at l with
  |some (.arr fr tr e' te xs)=>if h:e=e' then List.length ys=xs.length/\K (st.Ju l (.arr fr tr e' te (h▸ys))) else False
  |_=>False
 |_,_=>False
def jk:(cs:List (Bool×CK))->IOs.den cs->List AC->St->(St->Prop)->Prop
 | [],_,_,st,K=>K st
 |(true, .Fm _)::r,x,_::as,st,K=>jk r x as st K
 |(true, .row e te)::r,x,a::as,st,K=>rn st (.row e te) x.1 a λst'=>jk r x.2 as st' K
 |(true, .Hk e te)::r,x,a::as,st,K=>rn st (.Hk e te) x.1 a λst'=>jk r x.2 as st' K
 |(true, .part e _)::r,x,a::as,st,K=>Ac4 st e x.1 a λst'=>jk r x.2 as st' K
 |(true, .Bm _ _ _)::r,x,_::as,st,K=>jk r x as st K
 |(false,_)::r,x,_::as,st,K=>jk r x as st K
 |_,_,_,_,_=>False
def wg (H:List (Nat×OB)) (ls:List Nat) (n:Nat):List AV->Prop->Prop
 | [],K=>K
 | .at (.sub l i _)::r,K=>match ls.contains l with
  |true=>(i<n/\i<sN H l)/\wg H ls n r K
  |false=>wg H ls n r K
 |_::r,K=>wg H ls n r K
def MD (st:St) (dst:Option Nat) (s:MSpec) (args:List AV) (K:AV->St->Prop):Prop:=
 Ht (TI st s args) λq=>Ht (ungroup s.Jj q.2.2) λoW=>DJ st 0 s.ins (q.2.1++oW) λx tks=>
  match aC (tks.map λt=>t.2.Xf)&&AT (Sk s tks (dst.getD 0)) (s.outs.length+(mH s (dst.getD 0)).length)&&Nat.blt s.outs.length 1000&&Nat.blt s.ins.length 1000&&(Wi s.ins q.2.1&&q.1.all λl=>!((tks.map λt=>t.2.Xf)++Sk s tks (dst.getD 0)).contains l) with
  |true=> ∃p,s.fn x=some p/\jk s.ins p.2 (q.2.1++oW) st λst1=>Ht (Afs s (dst.getD 0) ((cf (Ec (Sk s tks (dst.getD 0))) 0 s.outs p.1).drop s.aa)) λv=>
    wg (m4 st st1 (dst.getD 0) s q.1 tks p.1).heap (c9 st.heap (Sk s tks (dst.getD 0)) tks s.keeps) (s.Ex x) st.tmps
     (K v (mq st (m4 st st1 (dst.getD 0) s q.1 tks p.1) (c9 st.heap (Sk s tks (dst.getD 0)) tks s.keeps) (s.Ex x)))
  |false=>False
def opW (w:WS) (o:Oper) (K:AV->WS->Prop):Prop:=
 match o.op with
 | .store t p x=>CY T w.st t (w.st.ev p) (w.st.ev x) λs=>K .undef (w.to s)
 | .makeSlice t l c=>Ht o.dst λd=>NZ T w.st d t (w.st.ev l) (w.st.ev c) λv s=>K v (w.to s)
 | .call {callee:= .builtin .append,args,argTypes} =>match o.dst,args.toList,argTypes.toList with
  |some d,[x,y],[t,t']=>if t=t' then tz T w.st d t x y λv s=>K v (w.to s) else False
  |_,_,_=>False
 | .assign _=>Ht (evalOp T Γ w.st o) λr=>K r.1 (w.to r.2)
 | .alloc _=>Ht (evalOp T Γ w.st o) λr=>K r.1 (w.to r.2)
 | .box _ _=>Ht (evalOp T Γ w.st o) λr=>K r.1 (w.to r.2)
 | .buildSlice t len parts=>Ht o.dst λd=>eZ T w.st d t len parts λv s=>K v (w.to s)
 | .build _ _=>Ht (evalOp T Γ w.st o) λr=>K r.1 (w.to r.2)
 | .makeMap _ _=>Ht (evalOp T Γ w.st o) λr=>K r.1 (w.to r.2)
 | .mapUpdate _ _ _ _=>Ht (evalOp T Γ w.st o) λr=>K r.1 (w.to r.2)
 | .insert _ _ _ _=>Ht (evalOp T Γ w.st o) λr=>K r.1 (w.to r.2)
 | .call {callee:= .builtin .copy, .. } =>Ht (evalOp T Γ w.st o) λr=>K r.1 (w.to r.2)
 | .call {callee:= .builtin .clear, .. } =>Ht (evalOp T Γ w.st o) λr=>K r.1 (w.to r.2)
 | .call {callee:= .value (.func f),args, .. } =>match Γ f with
  |some (.m s)=>MD w.st o.dst s (args.toList.map w.st.ev) λv s'=>K v (w.to s')
  |some (.q s)=>match fz s (args.toList.map w.st.ev) with
   |true=>Ht (Pa args.toList w.st) λst1=>qW T Γ (w.to st1) o K
   |false=>qW T Γ w o K
  |_=>qW T Γ w o K
 |_=>qW T Γ w o K
def AV.Ab5:AV->Bool
 | .at .skip=>true
 |_=>false
def bW (w:WS) (o:Oper) (K:AV->WS->Prop):Prop:=
 match o.op with
 | .buildSlice t len parts=>Ht (bU T w.st t len parts) λv=>K v w
 | .build t parts=>Ht (Xy T w.st t parts) λv=>K v w
 |_=>qW T Γ w o K
def jF (ops:Array Oper) (w:WS) (o:Oper) (run:(AV->WS->Prop)->WS->Prop) (K:WS->Prop):Prop:=
 match o.guard with
 |none=>run (λv w'=>K (w'.xp o v)) w
 |some (j,want)=>Ht ((ops[j]?).bind (·.dst)) λt=>match (w.st.get t).Ab5 with
  |true=>K (w.put o.dst (.at .skip))
  |false=>brT w t λb w'=>match b,want with
   |true,true=>run (λv rS=>K (rS.xp o v)) w'
   |false,false=>run (λv rS=>K (rS.xp o v)) w'
   |_,_=>K (w'.put o.dst (.at .skip))
def Ako (ops:Array Oper):List Oper->WS->(WS->Prop)->Prop
 | [],w,K=>K w
 |o::r,w,K=>jF ops w o (λk w'=>opW T Γ w' o k) λw'=>Ako ops r w' K
def Aaw (ops:Array Oper):List Nat->WS->(WS->Prop)->Prop
 | [],w,K=>K w
 |i::r,w,K=>Ht ops[i]? λo=>jF ops w o (λk w'=>opW T Γ w' o k) λw'=>Aaw ops r w' K
def qR (ops:Array Oper):List Nat->WS->(WS->Prop)->Prop
 | [],w,K=>K w
 |i::r,w,K=>Ht ops[i]? λo=>jF ops w o (λk w'=>bW T Γ w' o k) λw'=>qR ops r w' K
def ZK:List Nat->(Nat->Prop)->Prop
 | [],_=>True
 | [i],P=>P i
 |i::j::r,P=>P i/\ZK (j::r) P
def UC (ops:Array Oper):Nat->Array Bool->WS->(WS->Prop)->Prop
 |0,Ah,w,K=>match Region.ready .any ops Ah with
  | []=>K w
  |_::_=>False
 |f+1,Ah,w,K=>match Region.ready .any ops Ah with
  | []=>False
  |i::r=>ZK (i::r) λk=>Ht ops[k]? λo=>jF ops w o (λkk w'=>opW T Γ w' o kk) λw'=>UC ops f (Ah.setIfInBounds k true) w' K
def acV:AC->Type->Type
 | .data _ τ _,R=>τ.den×R
 | .sub _ _ _,R=>Nat×R
 | .Jz _ _,R=>Nat×R
 | .Jv _ _ _,R=>Nat×Nat×R
 |_,R=>R
def LR:List AC->Type->Type
 | [],R=>R
 |c::r,R=>acV c (LR r R)
def avV:AV->Type->Type
 | .at a,R=>acV a R
 | .agg cs,R=>LR cs R
 | .bL _ τ _,R=>τ.den×R
 | .Ms _,R=>R
def obV:OB->Type->Type
 | .arr _ _ e _ _,R=>List e.den×R
 | .Gu e _ _,R=>List e.den×R
 | .var _ vs,R=>LR vs R
 | .Bm e _ _ _ none,R=>List (List e.den)×R
 | .Bm e _ _ _ (some _),R=>List (List e.den)×(Nat×R)
 | .Vv v _,R=>(ByteArray->Option v.den)×R
def rQ:List AV->Type->Type
 | [],R=>R
 |v::r,R=>avV v (rQ r R)
def yx:List (Nat×OB)->Type->Type
 | [],R=>R
 |p::r,R=>obV p.2 (yx r R)
def stV (s:St):Type:=rQ s.tmps (yx s.heap Unit)
def RO:(c:AC)-> {R:Type} ->R->acV c R
 | .data _ _ x,_,r=>(x,r)
 | .undef,_,r=>r
 | .skip,_,r=>r
 | .Lr,_,r=>r
 | .Vu,_,r=>r
 | .own _ _ _,_,r=>r
 | .Hj _ _,_,r=>r
 | .Jz _ i,_,r=>(i,r)
 | .clo _ _,_,r=>r
 | .Kh _,_,r=>r
 | .sub _ i _,_,r=>(i,r)
 | .Jv _ i j,_,r=>(i,j,r)
def tp:(l:List AC)-> {R:Type} ->R->LR l R
 | [],_,r=>r
 |c::l,_,r=>RO c (tp l r)
def Agn:(c:AV)-> {R:Type} ->R->avV c R
 | .at a,_,r=>RO a r
 | .agg cs,_,r=>tp cs r
 | .bL _ _ x,_,r=>(x,r)
 | .Ms _,_,r=>r
def Ai4:(b:OB)-> {R:Type} ->R->obV b R
 | .arr _ _ _ _ xs,_,r=>(xs,r)
 | .Gu _ _ xs,_,r=>(xs,r)
 | .var _ vs,_,r=>tp vs r
 | .Bm _ _ rows _ none,_,r=>(rows,r)
 | .Bm _ _ rows _ (some p),_,r=>(rows,p.2,r)
 | .Vv _ m,_,r=>(m,r)
def td:(l:List AV)-> {R:Type} ->R->rQ l R
 | [],_,r=>r
 |c::l,_,r=>Agn c (td l r)
def sO:(l:List (Nat×OB))-> {R:Type} ->R->yx l R
 | [],_,r=>r
 |p::l,_,r=>Ai4 p.2 (sO l r)
def TN (s:St):stV s:=td s.tmps (sO s.heap ())
def pa:(c d:AC)-> {R:Type} ->R->Option (acV c R)
 | .data fr τ _, .data Wf Oh x,_,r=>if h:Oh=τ/\Wf=fr then some (h.1▸x,r) else none
 | .undef, .undef,_,r=>some r
 | .skip, .skip,_,r=>some r
 | .Lr, .Lr,_,r=>some r
 | .Vu, .Vu,_,r=>some r
 | .own l _ _, .own l' _ _,_,r=>if l=l' then some r else none
 | .Hj l i, .Hj l' i',_,r=>if l=l'/\i=i' then some r else none
 | .Jz l _, .Jz l' i',_,r=>if l=l' then some (i',r) else none
 | .clo f c, .clo f' c',_,r=>if f=f'/\c=c' then some r else none
 | .Kh l, .Kh l',_,r=>if l=l' then some r else none
 | .sub l _ c, .sub l' i' c',_,r=>if l=l'/\c=c' then some (i',r) else none
 | .Jv l _ _, .Jv l' i' j',_,r=>if l=l' then some (i',j',r) else none
 |_,_,_,_=>none
def Sj:(l m:List AC)-> {R:Type} ->R->Option (LR l R)
 | [],[],_,r=>some r
 |c::l,d::m,_,r=>(Sj l m r).bind λr'=>pa c d r'
 |_,_,_,_=>none
def m7:(c d:AV)-> {R:Type} ->R->Option (avV c R)
 | .at a, .at b,_,r=>pa a b r
 | .agg cs, .agg ds,_,r=>Sj cs ds r
 | .bL fr τ _, .bL Wf Oh x,_,r=>if h:Oh=τ/\Wf=fr then some (h.1▸x,r) else none
 |_,_,_,_=>none
def Tf:(b d:OB)-> {R:Type} ->R->Option (obV b R)
 | .arr fr tr e tid _, .arr Wf tr' e' Vb xs,_,r=>if h:e'=e/\Wf=fr/\tr'=tr/\Vb=tid then some (h.1▸xs,r) else none
 | .Gu e tid _, .Gu e' Vb xs,_,r=>if h:e'=e/\Vb=tid then some (h.1▸xs,r) else none
 | .Vv v _, .Vv v' m,_,r=>if h:v'=v then some (h▸m,r) else none
 | .var t vs, .var t' us,_,r=>if t'=t then Sj vs us r else none
 | .Bm e te _ out none, .Bm e' Rf rows gX none,_,r=>if h:e'=e/\Rf=te/\gX=out then some (h.1▸rows,r) else none
 | .Bm e te _ out (some p), .Bm e' Rf rows gX (some p'),_,r=>if h:e'=e/\Rf=te/\gX=out/\p'.1=p.1 then some (h.1▸rows,p'.2,r) else none
 |_,_,_,_=>none
def Pb:(l m:List AV)-> {R:Type} ->R->Option (rQ l R)
 | [],[],_,r=>some r
 |c::l,d::m,_,r=>(Pb l m r).bind λr'=>m7 c d r'
 |_,_,_,_=>none
def Qi:(l m:List (Nat×OB))-> {R:Type} ->R->Option (yx l R)
 | [],[],_,r=>some r
 |p::l,q::m,_,r=>if q.1=p.1 then (Qi l m r).bind λr'=>Tf p.2 q.2 r' else none
 |_,_,_,_=>none
def jD (s t:St):Option (stV s):=(Qi s.heap t.heap ()).bind λr=>Pb s.tmps t.tmps r
def lY:(c:AC)-> {R:Type} ->acV c R->AC×R
 | .data fr τ _,_,v=>(.data fr τ v.1,v.2)
 | .undef,_,r=>(.undef,r)
 | .skip,_,r=>(.skip,r)
 | .Lr,_,r=>(.Lr,r)
 | .Vu,_,r=>(.Vu,r)
 | .own l off len,_,r=>(.own l off len,r)
 | .Hj l i,_,r=>(.Hj l i,r)
 | .Jz l _,_,v=>(.Jz l v.1,v.2)
 | .clo f c,_,r=>(.clo f c,r)
 | .Kh l,_,r=>(.Kh l,r)
 | .sub l _ c,_,v=>(.sub l v.1 c,v.2)
 | .Jv l _ _,_,v=>(.Jv l v.1 v.2.1,v.2.2)
def aS:(l:List AC)-> {R:Type} ->LR l R->List AC×R
 | [],_,r=>([],r)
 |c::l,_,v=>((lY c v).1::(aS l (lY c v).2).1,(aS l (lY c v).2).2)
def tC:(c:AV)-> {R:Type} ->avV c R->AV×R
 | .at a,_,v=>(.at (lY a v).1,(lY a v).2)
 | .agg cs,_,v=>(.agg (aS cs v).1,(aS cs v).2)
 | .bL fr τ _,_,v=>(.bL fr τ v.1,v.2)
 | .Ms l,_,r=>(.Ms l,r)
def uP:(b:OB)-> {R:Type} ->obV b R->OB×R
 | .arr fr tr e tid _,_,v=>(.arr fr tr e tid v.1,v.2)
 | .Gu e tid _,_,v=>(.Gu e tid v.1,v.2)
 | .Vv w _,_,v=>(.Vv w v.1,v.2)
 | .var t vs,_,v=>(.var t (aS vs v).1,(aS vs v).2)
 | .Bm e te _ out none,_,v=>(.Bm e te v.1 out none,v.2)
 | .Bm e te _ out (some p),_,v=>(.Bm e te v.1 out (some (p.1,v.2.1)),v.2.2)
def Wz:(l:List AV)-> {R:Type} ->rQ l R->List AV×R
 | [],_,r=>([],r)
 |c::l,_,v=>((tC c v).1::(Wz l (tC c v).2).1,(Wz l (tC c v).2).2)
def ef:(l:List (Nat×OB))-> {R:Type} ->yx l R->List (Nat×OB)×R
 | [],_,r=>([],r)
 |p::l,_,v=>((p.1,(uP p.2 v).1)::(ef l (uP p.2 v).2).1,(ef l (uP p.2 v).2).2)
def jC (s:St) (v:stV s):St:= {tmps:=(Wz s.tmps v).1,heap:=(ef s.heap (Wz s.tmps v).2).1}
def lenOf (H:List (Nat×OB)) (l:Nat):Nat:=match Au H l with|some (.arr _ _ _ _ xs)=>xs.length|some (.Gu _ _ xs)=>xs.length|some (.Bm _ _ rows _ _)=>rows.length|_=>0
def ay (ps:List Nat):List AV->List (Nat×Nat×Nat)
 | []=> []
 | .at (.own l off len)::r=>if ps.contains l then (l,off,len)::ay ps r else ay ps r
 |_::r=>ay ps r
def Akm:List (Nat×Nat×Nat)->Nat->Nat
 | [],_=>0
 |(k,o,_)::r,l=>if k=l then o else Akm r l
def VI:List (Nat×Nat×Nat)->List (Nat×OB)->Nat->Nat
 | [],H,l=>lenOf H l
 |(k,_,n)::r,H,l=>if k=l then n else VI r H l
def gf (B:List (Nat×Nat×Nat)) (H:List (Nat×OB)):AC->AC
 | .own l _ _=> .own l (Akm B l) (VI B H l)
 |c=>c
def St.whole (B:List (Nat×Nat×Nat)) (s:St):St:=s.Ks (gf B s.heap)
def zD (B:List (Nat×Nat×Nat)) (H:List (Nat×OB)) (c:AC) (K:Prop):Prop:=match c with
 | .own l off len=>off=Akm B l/\len=VI B H l/\K
 |_=>K
def dO (B:List (Nat×Nat×Nat)) (H:List (Nat×OB)):List AC->Prop->Prop
 | [],K=>K
 |c::r,K=>zD B H c (dO B H r K)
def RU (B:List (Nat×Nat×Nat)) (H:List (Nat×OB)) (c:AV) (K:Prop):Prop:=match c with
 | .at a=>zD B H a K
 | .agg cs=>dO B H cs K
 | .bL _ _ _=>K
 | .Ms _=>False
def bK (B:List (Nat×Nat×Nat)) (H:List (Nat×OB)):List AV->Prop->Prop
 | [],K=>K
 |c::r,K=>RU B H c (bK B H r K)
def kf (B:List (Nat×Nat×Nat)) (H:List (Nat×OB)):List (Nat×OB)->Prop->Prop
 | [],K=>K
 |p::r,K=>match p.2 with
  | .var _ vs=>dO B H vs (kf B H r K)
  |_=>kf B H r K
def CX (B:List (Nat×Nat×Nat)) (s:St) (K:Prop):Prop:=bK B s.heap s.tmps (kf B s.heap s.heap K)
def AV.Yh:AV->Bool
 | .at (.data _ _ _)=>true
 |_=>false
def Mj (p:Nat->Bool):Nat->List AV->List Bool
 |_,[]=> []
 |i,v::r=>(v.Yh&&p i)::Mj p (i+1) r
def stays (live:Nat->List Nat) (c:Code) (t:Nat):Bool:=!(writes c).contains t&&c8 live c t
def Vk:List Bool->List AV->List AV
 |true::f,_::r=> .undef::Vk f r
 |false::f,v::r=>v::Vk f r
 |_,l=>l
def Wp:List Bool->List AV->List AV->List AV
 |true::f,a::s,_::r=>a::Wp f s r
 |false::f,_::s,v::r=>v::Wp f s r
 |_,_,l=>l
def St.mask (fx:List Bool) (s:St):St:= {tmps:=Vk fx s.tmps,heap:=s.heap}
def St.xa (fx:List Bool) (s0 s:St):St:= {tmps:=Wp fx s0.tmps s.tmps,heap:=s.heap}
def sL (c:AC) (k:AC->Prop):Prop:=match c with
 | .undef=>k .undef
 | .skip=>k .skip
 | .Lr=>k .Lr
 | .Vu=>k .Vu
 | .data fr τ x=>match fr with
  |true=>k (.data true τ x)
  |false=>k (.data false τ x)
 | .own l off len=>k (.own l off len)
 | .Hj l i=>k (.Hj l i)
 | .Jz l i=>k (.Jz l i)
 | .clo f c=>k (.clo f c)
 | .Kh l=>k (.Kh l)
 | .sub l i c=>k (.sub l i c)
 | .Jv l i c=>k (.Jv l i c)
def iO:List AC->(List AC->Prop)->Prop
 | [],k=>k []
 |c::r,k=>sL c λc'=>iO r λr'=>k (c'::r')
def zX (c:AV) (k:AV->Prop):Prop:=match c with
 | .at a=>sL a λa'=>k (.at a')
 | .agg cs=>iO cs λiD=>k (.agg iD)
 | .bL fr τ x=>k (.bL fr τ x)
 | .Ms l=>k (.Ms l)
def iP:List AV->(List AV->Prop)->Prop
 | [],k=>k []
 |c::r,k=>zX c λc'=>iP r λr'=>k (c'::r')
def zY (b:OB) (k:OB->Prop):Prop:=match b with
 | .arr fr tr e tid xs=>match fr,tr with
  |true,true=>k (.arr true true e tid xs)
  |true,false=>k (.arr true false e tid xs)
  |false,true=>k (.arr false true e tid xs)
  |false,false=>k (.arr false false e tid xs)
 | .Gu e tid xs=>k (.Gu e tid xs)
 | .var t vs=>iO vs λvs'=>k (.var t vs')
 | .Bm e te rows out kp=>match out,kp with
  |none,none=>k (.Bm e te rows none none)
  |none,some (l,n)=>k (.Bm e te rows none (some (l,n)))
  |some i,none=>k (.Bm e te rows (some i) none)
  |some i,some (l,n)=>k (.Bm e te rows (some i) (some (l,n)))
 | .Vv v m=>k (.Vv v m)
def u7:List (Nat×OB)->(List (Nat×OB)->Prop)->Prop
 | [],k=>k []
 |(l,b)::r,k=>zY b λb'=>u7 r λr'=>k ((l,b')::r')
def iQ (w:WS) (k:WS->Prop):Prop:=iP w.st.tmps λt=>u7 w.st.heap λh=>k {kn:=w.kn,st:= {tmps:=t,heap:=h} }
def px (s:St) (k:St->Prop):Prop:=iP s.tmps λt=>u7 s.heap λh=>k {tmps:=t,heap:=h}
def kc:List Bool->(List Bool->Prop)->Prop
 | [],k=>k []
 |true::r,k=>kc r λr'=>k (true::r')
 |false::r,k=>kc r λr'=>k (false::r')
theorem qM {c:AC} {k:AC->Prop} :sL c k↔k c:=by
 cases c<;>simp only [sL]
 split<;>rfl
theorem ff: ∀ {l:List AC} {k:List AC->Prop},iO l k↔k l
 | [],k=>Iff.rfl
 |c::r,k=>by simp only [iO];rw [qM,ff]
theorem FQ {c:AV} {k:AV->Prop} :zX c k↔k c:=by
 cases c<;>simp only [zX]
 ·exact qM
 ·exact ff
theorem fg: ∀ {l:List AV} {k:List AV->Prop},iP l k↔k l
 | [],k=>Iff.rfl
 |c::r,k=>by simp only [iP];rw [FQ,fg]
theorem FR {b:OB} {k:OB->Prop} :zY b k↔k b:=by
 cases b<;>simp only [zY]
 ·split<;>rfl
 ·exact ff
 ·split<;>rfl
theorem mf: ∀ {l:List (Nat×OB)} {k:List (Nat×OB)->Prop},u7 l k↔k l
 | [],k=>Iff.rfl
 |(l,b)::r,k=>by simp only [u7];rw [FR,mf]
theorem UO {s:St} {k:St->Prop} :px s k=k s:=by
 unfold px
 exact propext (by rw [fg,mf])
theorem me: ∀ {l:List Bool} {k:List Bool->Prop},kc l k=k l
 | [],k=>rfl
 |true::r,k=>by simp only [kc];rw [me]
 |false::r,k=>by simp only [kc];rw [me]
theorem Yd {w:WS} {k:WS->Prop} :iQ w k↔k w:=by
 unfold iQ
 rw [fg,mf]
def bP:AC->List (Nat×Nat)
 | .own _ off len=> [(off,len)]
 |_=> []
def bR:AV->List (Nat×Nat)
 | .at a=>bP a
 | .agg cs=>cs.flatMap bP
 |_=> []
def mE:OB->List (Nat×Nat)
 | .var _ vs=>vs.flatMap bP
 |_=> []
def QM (s:St):List (Nat×Nat):=s.tmps.flatMap bR++s.heap.flatMap λp=>mE p.2
def eqW (s0 s:St):Prop:=QM s=QM s0/\Ht (jD s0 s) λv=>v=TN s0
def mb (ops:Array Oper):Nat->Array Bool->WS->(WS->Prop)->Prop
 |0,Ah,w,K=>match Region.ready .any ops Ah with
  | []=>K w
  |_::_=>False
 |f+1,Ah,w,K=>match Region.ready .any ops Ah with
  | []=>False
  |k::_=>Ht ops[k]? λo=>jF ops w o (λkk w'=>opW T Γ w' o kk) λw'=>mb ops f (Ah.setIfInBounds k true) w' K
def ER (P:List (Nat×Nat×AV×OB)) (ops:Array Oper):Nat->Array Bool->WS->(WS->Prop)->Prop
 |0,Ah,w,K=>match Region.ready .any ops Ah with
  | []=>K w
  |_::_=>False
 |f+1,Ah,w,K=>match Region.ready .any ops Ah with
  | []=>False
  |i::r=>ZK (i::r) λk=>Ht ops[k]? λo=>match OI P Γ ops w.st o k with
   |true=>jF ops w o (λkk w'=>opW T Γ w' o kk) λw'=>ER P ops f (Ah.setIfInBounds k true) w' K
   |false=>False
def zo (ops:Array Oper) (E:List Nat) (Ah:Array Bool) (w:WS):List Nat->Prop->Prop
 | [],K=>K
 |r::R,K=>match tf ops E Ah r with
  |true=>zo ops E Ah w R K
  |false=>(qR T Γ ops [r] w λw'=>Ht ((ops[r]?).bind (·.dst)) λd=>match Nat.blt d w.st.tmps.length with
    |true=>eqW ⟨[w.st.get d],[]⟩ ⟨[w'.st.get d],[]⟩
    |false=>False)/\zo ops E Ah w R K
def ES (ops:Array Oper) (E:List Nat):Nat->Array Bool->WS->(WS->Prop)->Prop
 |0,Ah,w,K=>zo T Γ ops E Ah w E (match Region.ready .any ops Ah with
  | []=>K w
  |_::_=>False)
 |f+1,Ah,w,K=>zo T Γ ops E Ah w E (match Region.ready .any ops Ah with
  | []=>False
  |i::r=>ZK (i::r) λk=>Ht ops[k]? λo=>jF ops w o (λkk w'=>opW T Γ w' o kk) λw'=>ES ops E f (Ah.setIfInBounds k true) w' K)
def PI (E:List Nat) (n:Nat) (L0:Array Bool) (ops:Array Oper) (w:WS) (K:WS->Prop):Prop:=
 match kB ops E L0&&(Nat.ble E.length n&&Nat.ble (n-E.length) 10) with
 |true=>qR T Γ ops E w λw1=>iQ w1 λw1=>mb T Γ ops (n-E.length) (Fo E L0) w1 λw0=>iQ w0 λw0=>K w0/\ES T Γ ops E (n-E.length) (Fo E L0) w1 λw2=>eqW w0.st w2.st
 |false=>False
def zK (P:List (Nat×Nat×AV×OB)) (n:Nat) (L0:Array Bool) (ops:Array Oper) (w:WS) (K:WS->Prop):Prop:=
 match (aC (P.map (·.1))&&aC (P.map (·.2.1)))&&((P.all λa=>pK a.2.1 w.st)&&(Nat.ble P.length n&&Nat.ble (n-P.length) 10)) with
 |true=>Aaw T Γ ops (P.map (·.1)) w λw1=>iQ w1 λw1=>mb T Γ ops (n-P.length) (Fo (P.map (·.1)) L0) w1 λw0=>iQ w0 λw0=>K w0/\ER T Γ P ops (n-P.length) (Fo (P.map (·.1)) L0) w1 λw2=>eqW w0.st w2.st
 |false=>PI T Γ (pR ops (List.range ops.size) L0) n L0 ops w K
def CC (ops:Array Oper) (draw:Bool) (w:WS) (K:WS->Prop):Prop:=
 match draw with
 |true=>match kz false Γ ops with
  |true=>qR T Γ ops (ke false Γ ops) w λw'=>Aaw T Γ ops (Jh false Γ ops) w' K
  |false=>match kz true Γ ops with
   |true=>qR T Γ ops (ke true Γ ops) w λw'=>Aaw T Γ ops (Jh true Γ ops) w' K
   |false=>match Region.noSelect ops&&Nat.ble (ops.size-(Nf ops).length) 8 with
    |true=>qR T Γ ops (Nf ops) w λw'=>match k8 false ops with
     |true=>UC T Γ ops (ops.size-(Nf ops).length) (Fo (Nf ops) (Array.replicate ops.size false)) w' K
     |false=>mb T Γ ops (ops.size-(Nf ops).length) (Fo (Nf ops) (Array.replicate ops.size false)) w' λw0=>iQ w0 λw0=>K w0/\UC T Γ ops (ops.size-(Nf ops).length) (Fo (Nf ops) (Array.replicate ops.size false)) w' λw1=>eqW w0.st w1.st
    |false=>match Region.noSelect ops with
     |true=>qR T Γ ops (Nf ops) w λw'=>zK T Γ (Zt T ops (Fo (Nf ops) (Array.replicate ops.size false))) (ops.size-(Nf ops).length) (Fo (Nf ops) (Array.replicate ops.size false)) ops w' K
     |false=>False
 |false=>Ako T Γ ops ops.toList w K
def dT (live:Nat->List Nat):Code->WS->(Lh->WS->Prop)->Prop
 | .skip,w,Q=>Q .normal w
 | .label _,w,Q=>Q .normal w
 | .region _ ops draw,w,Q=>CC T (CB Γ draw) ops draw {w with st:=w.st.nm ops} λw'=>iQ w' (Q .normal)
 | .seq a b,w,Q=>dT live a w λe w'=>match e with
  | .normal=>dT live b w' Q
  | .exit id=>Q (.exit id) w'
  | .ret=>Q .ret w'
 | .cond c a b,w,Q=>brO w c λt w'=>match t with
  |true=>dT live a w' Q
  |false=>dT live b w' Q
 | .block id c,w,Q=>dT live c w λe w'=>match e with
  | .normal=>Q .normal w'
  | .exit VD=>if VD=id then Q .normal w' else Q (.exit VD) w'
  | .ret=>Q .ret w'
 | .loop c,w,Q=>
  px (w.st.clean (live (Es c))) λs0=>kc (Mj (stays live c) 0 s0.tmps) λfx=>px (s0.mask fx) λm=>
  CX (ay T.parts s0.tmps) s0 (Cz (V:=stV m) (λv k=>px ((St.xa fx s0 (jC m v)).whole (ay T.parts s0.tmps)) λsb=>dT live c ⟨[],sb⟩ λe w'=>match e with
   | .normal=>px (w'.st.clean (live (Es c))) λs1=>CX (ay T.parts s0.tmps) s1 (Ht (jD m (s1.mask fx)) k)
   | .exit id=>Q (.exit id) w'
   | .ret=>Q .ret w') (TN m))
 | .exit id,w,Q=>Q (.exit id) w
 | .ret,w,Q=>Q .ret w
 |_,_,_=>False
def Ain (s:Spec) (fn:Func) (P:s.res.den->Prop) (st:St):Prop:=
 Ht (nB T s fn st) λp=>match p.1||!s.fresh with|true=>P p.2|false=>False
def j7 (st:St) (K:Prop):List AC->List (Bool×CK)->Prop
 | .own l off len::as,(true,_)::r=>match st.at l with
  |some (.arr _ _ _ _ xs)=>(off=0/\len=xs.length)/\j7 st K as r
  |some (.Gu _ _ xs)=>(off=0/\len=xs.length)/\j7 st K as r
  |_=>False
 |_::as,(false,_)::r=>j7 st K as r
 |_,_=>K
def pM (st:St):(cs:List CK)->List AC->(CKs.den cs->List Nat->Prop)->Prop
 | [],[],K=>K () []
 | .Bm e te _::r, .own l off len::as,K=>match st.at l with
  |some (.Bm e' Rf rows none _)=>if h:e'=e/\Rf=te then (off=0/\len=rows.length)/\pM st r as λy t=>K ((h.1▸rows:List (List e.den)),y) (l::t) else False
  |_=>False
 |c::r,a::as,K=>Ht (kV st c a) λp=>pM st r as λy t=>K (p.1,y) (p.2++t)
 |_,_,_=>False
def AS (st:St) (n:Nat) (as:List AC):List (Nat×Nat)->Prop->Prop
 | [],K=>K
 |(k,j)::r,K=>match as[j]? with
  |some (.own l _ _)=>match st.at l with
   |some (.Bm _ _ _ _ (some p))=>match Nat.beq p.1 (Ds false k)&&Nat.blt k 1000 with
    |true=>n<=p.2/\AS st n as r K
    |false=>False
   |_=>False
  |_=>False
def vu (s:MSpec) (fn:Func) (x:Ins.den s.ins) (st:St) (cs:List AC) (P:CKs.den s.outs×IOs.den s.ins->Prop):Prop:=
 Ht (dE T st fn.results.toList) λl=>Ht (PQ s st l) λp=>pM st s.outs (cs++p.1) λr ls=>Ht (Ot st 0 s.ins) λo=>
  match aC (p.2++ls++Qb 0 s.ins)&&Nat.blt s.ins.length 1000&&Nat.blt s.outs.length 1000&&s.Abi with
  |true=>AS st (s.Ex x) (cs++p.1) s.keeps (P (r,o))
  |false=>False
def TJ (s:MSpec) (fn:Func) (x:Ins.den s.ins) (st:St) (P:CKs.den s.outs×IOs.den s.ins->Prop):Prop:=
 match s.ptr with
 |none=>vu T s fn x st [] P
 |some p=>match st.at Pc with
  |some (.var tid vs)=>match Nat.beq tid p.1&&Nat.beq vs.length p.2 with
   |true=>Ht (Je 0 s.ins vs) λcs=>j7 st (vu T s fn x st cs P) vs s.ins
   |false=>False
  |_=>False
@[irreducible] def fnMW (s:MSpec) (fn:Func) (x:Ins.den s.ins) (P:CKs.den s.outs×IOs.den s.ins->Prop):Prop:=
 match Nat.blt s.ins.length 1000&&BW s with
 |false=>False
 |true=>Ht fn.body λc=>dT T Γ (AY T.marks fn c) c {kn:= [],st:= {tmps:=aP s (c7 0 s.ins x)++List.replicate (fn.ntmps-(aP s (c7 0 s.ins x)).length) .undef,heap:=qX s x} } λe w=>match e with
  | .normal=>TJ T s fn x w.st P
  | .ret=>TJ T s fn x w.st P
  | .exit _=>False
@[irreducible] def fnW (s:Spec) (fn:Func) (x:s.arg.den) (P:s.res.den->Prop):Prop:=
 Ht fn.body λc=>dT T Γ (AY T.marks fn c) c {kn:= [],st:= {tmps:=Tb s.arg x++List.replicate (fn.ntmps-(Tb s.arg x).length) .undef,heap:= []} } λe w=>match e with
  | .normal=>Ain T s fn P w.st
  | .ret=>Ain T s fn P w.st
  | .exit _=>False
end Go.Proofs.YtfolipnappekaaaGreat
